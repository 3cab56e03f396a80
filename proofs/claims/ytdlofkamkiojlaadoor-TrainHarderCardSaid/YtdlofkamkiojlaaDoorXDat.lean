/- The plain data of the statements, and how they lie in the program's values. Conditions: none (definitions). -/
import Derived.Test.YtdlofkamkiojlaaDoorXEnc
namespace Go.Abs.Tr
open Go Go.Abs

structure Span where
  low : Int
  high : Int
  deriving DecidableEq, Inhabited
structure Leg where
  train : Int
  frm : Int
  to : Int
  deriving DecidableEq, Inhabited
structure Stop where
  station : Int
  arrive : Int
  leave : Int
  deriving DecidableEq, Inhabited
structure Train where
  stops : List Stop
  late : Span
  deriving DecidableEq, Inhabited
structure Table where
  offices : List (List Span)
  trains : List Train
  load : Int
  deriving DecidableEq, Inhabited

abbrev int (n : Int) : AV := .int .i64 n
def eInt (n : Int) : List AV := [.int .i64 n]
def eSpan (s : Span) : List AV := [.int .i64 s.low, .int .i64 s.high]
def eLeg (x : Leg) : List AV := [.int .i64 x.train, .int .i64 x.frm, .int .i64 x.to]
def eStop (x : Stop) : List AV := [.int .i64 x.station, .int .i64 x.arrive, .int .i64 x.leave]
def eOffice (l : List Span) : List AV := [lst eSpan l .unk]
def eTrain (x : Train) : List AV := [lst eStop x.stops .unk, .int .i64 x.late.low, .int .i64 x.late.high]
def eTable (t : Table) : List AV := [lst eOffice t.offices .unk, lst eTrain t.trains .unk, .int .i64 t.load]
/-- The entries of the map of legs. -/
def eLegs (m : List (Int × List Leg)) : List (AV × AV) := m.map fun p => (.int .i64 p.1, lst eLeg p.2 .unk)
/-- A timetable in the calculation. -/
structure Calc where
  t : Table
  m : List (Int × List Leg)
def eCalc (x : Calc) : List AV := eTable x.t ++ [.romap (eLegs x.m)]
def vCalc (x : Calc) : AV := .agg [lst eOffice x.t.offices .unk, lst eTrain x.t.trains .unk, .int .i64 x.t.load, .romap (eLegs x.m)]
def vTable (t : Table) : AV := .agg [lst eOffice t.offices .unk, lst eTrain t.trains .unk, .int .i64 t.load]

theorem lInt (n : Int) : (eInt n).length = 1 := rfl
theorem lSpan (s : Span) : (eSpan s).length = 2 := rfl
theorem lLeg (x : Leg) : (eLeg x).length = 3 := rfl
theorem lStop (x : Stop) : (eStop x).length = 3 := rfl
theorem lTrain (x : Train) : (eTrain x).length = 3 := rfl

theorem pCons {a : AV} {l : List AV} (h : Pure a) (k : ∀ x ∈ l, Pure x) : ∀ x ∈ a :: l, Pure x := fun x hx => by
  rcases List.mem_cons.1 hx with rfl | hx
  · exact h
  · exact k x hx
theorem pNil : ∀ x ∈ ([] : List AV), Pure x := fun _ h => by cases h
theorem pInt (n : Int) : ∀ x ∈ eInt n, Pure x := pCons (.int _ _) pNil
theorem pSpan (s : Span) : ∀ x ∈ eSpan s, Pure x := pCons (.int _ _) (pCons (.int _ _) pNil)
theorem pLeg (x : Leg) : ∀ y ∈ eLeg x, Pure y := pCons (.int _ _) (pCons (.int _ _) (pCons (.int _ _) pNil))
theorem pStop (x : Stop) : ∀ y ∈ eStop x, Pure y := pCons (.int _ _) (pCons (.int _ _) (pCons (.int _ _) pNil))
theorem pUnk : ∀ id, Cap.unk ≠ .tok id := fun _ h => by cases h
theorem pFull : ∀ id, Cap.full ≠ .tok id := fun _ h => by cases h
theorem pSpans (l : List Span) {c : Cap} (hc : ∀ id, c ≠ .tok id) : Pure (lst eSpan l c) := .lst pSpan l hc
theorem pLegs (l : List Leg) {c : Cap} (hc : ∀ id, c ≠ .tok id) : Pure (lst eLeg l c) := .lst pLeg l hc
theorem pOffice (x : List Span) : ∀ y ∈ eOffice x, Pure y := pCons (pSpans x pUnk) pNil
theorem pTrain (x : Train) : ∀ y ∈ eTrain x, Pure y := pCons (.lst pStop x.stops pUnk) (pCons (.int _ _) (pCons (.int _ _) pNil))
theorem pTable (t : Table) : Pure (vTable t) := .agg (pCons (.lst pOffice _ pUnk) (pCons (.lst pTrain _ pUnk) (pCons (.int _ _) pNil)))
theorem pCalc (x : Calc) : Pure (vCalc x) := .agg (pCons (.lst pOffice _ pUnk) (pCons (.lst pTrain _ pUnk) (pCons (.int _ _) (pCons (.romap (fun p hp => by
  obtain ⟨q, _, rfl⟩ := List.mem_map.1 hp
  exact .int _ _) (fun p hp => by
  obtain ⟨q, _, rfl⟩ := List.mem_map.1 hp
  exact pLegs _ pUnk)) pNil))))
theorem pCalcs (x : Calc) : ∀ y ∈ eCalc x, Pure y := by
  have h := pCalc x
  cases h with
  | agg h => exact h
end Go.Abs.Tr
