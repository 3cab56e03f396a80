/- The data of this program's statements as plain data, and what the listed table gives. Conditions: none. -/
import Derived.Test.YtdlofkamkiojlaaDoorXHb
import Derived.Test.YtdlofkamkiojlaaDoorXDat
import Derived.Test.YtdlofkamkiojlaaDoorXCtx
import Derived.Test.YtdlofkamkiojlaaDoorRows
import Derived.ProofKit
import Derived.LaidMore
import Derived.OpenShut
import Derived.ChangeOld
import Derived.SizedLaws
import Derived.ShutString
import Derived.Stop.Joined
namespace Go.Abs
open Go
theorem array_ints {P : Program} {n : Nat} {t el : TypeId} (ht : P.underlying t = some (.array n el)) (hi : P.underlying el = some (.int .i64)) (c1 : P.cellsOf el = 1) (cn : P.cellsOf t = n)
    {H : Type} {enc : TypeId × Value → H} {W : World} {sp : Nat → Bool} {held : Bool} {v : Value} {x : DataW H} {ps : List MemPlace}
    (hv : ∃ cs, v = .agg cs) (h : DataW.Trod enc P W 0 sp held t v x ps) : ∃ l : List Int, l.length = n ∧ RepV (K0 W) (.agg (l.map (.int .i64))) v ∧ ∀ z ∈ l, (Lit.int .i64 z).wf = true := by
  obtain ⟨cs, rfl⟩ := hv
  obtain ⟨fuel, h⟩ := h
  have h' : DataW.trod enc P W 0 sp held fuel t cs.toList = some (x, ps) := h
  obtain ⟨xs, m, rfl, _, hl, hx, hf⟩ := DataW.trod_array ht h'
  rw [cn] at hl
  have each : ∀ i, i < n → ∃ z, cs.toList[i]? = some (.int .i64 z) ∧ (Lit.int .i64 z).wf = true := fun i hin => by
    have g := hf i hin
    rw [List.getElem?_eq_getElem (by omega), c1, Nat.mul_one] at g
    obtain ⟨z, e1, _, hw⟩ := DataW.trod_int hi g
    refine ⟨z, ?_, hw⟩
    have := congrArg (·[0]?) e1
    rw [List.getElem?_take, List.getElem?_drop] at this
    simpa using this
  have main : ∀ (l : List Value), (∀ i, i < l.length → ∃ z, l[i]? = some (.int .i64 z) ∧ (Lit.int .i64 z).wf = true) → ∃ zs : List Int, zs.length = l.length ∧ RepL (K0 W) (zs.map (.int .i64)) l ∧ ∀ z ∈ zs, (Lit.int .i64 z).wf = true := by
    intro l
    induction l with
    | nil => intro _; exact ⟨[], rfl, RepL.nil _, fun _ h => by cases h⟩
    | cons v l ih =>
      intro hl
      obtain ⟨z, hz, hw⟩ := hl 0 (by simp)
      obtain ⟨zs, a, b, c⟩ := ih (fun i hi => by simpa using hl (i + 1) (by simpa using hi))
      simp at hz
      subst hz
      exact ⟨z :: zs, by simp [a], RepL.cons (.int _ _) b, fun u hu => by
        rcases List.mem_cons.1 hu with rfl | hu
        · exact hw
        · exact c u hu⟩
  obtain ⟨zs, a, b, c⟩ := main cs.toList (fun i hi => each i (by rw [← hl]; exact hi))
  refine ⟨zs, by rw [a, hl], ?_, c⟩
  have := RepV.agg (K := K0 W) cs.toList b.1 (fun u hu => by obtain ⟨z, _, rfl⟩ := List.mem_map.1 hu; rfl) b.2
  simpa using this
end Go.Abs
namespace Go.Abs.Tr
open Go Go.Abs Go.Proofs Go.Proofs.YtdlofkamkiojlaaDoor Go.ChangeShapes Go.WideShapes

abbrev W64 (n : Int) : Prop := (Lit.int .i64 n).wf = true
theorem c3 : Tryd.prog.cellsOf 3 = 1 := by kernel_rfl
theorem c39 : Tryd.prog.cellsOf 39 = 2 := by kernel_rfl
theorem c54 : Tryd.prog.cellsOf 54 = 1 := by kernel_rfl
theorem c22 : Tryd.prog.cellsOf 22 = 1 := by kernel_rfl
theorem c78 : Tryd.prog.cellsOf 78 = 3 := by kernel_rfl
theorem c71 : Tryd.prog.cellsOf 71 = 1 := by kernel_rfl
theorem c73 : Tryd.prog.cellsOf 73 = 3 := by kernel_rfl
theorem c23 : Tryd.prog.cellsOf 23 = 1 := by kernel_rfl
theorem c25 : Tryd.prog.cellsOf 25 = 3 := by kernel_rfl
theorem c34 : Tryd.prog.cellsOf 34 = 1 := by kernel_rfl
theorem c27 : Tryd.prog.cellsOf 27 = 3 := by kernel_rfl
theorem c65 : Tryd.prog.cellsOf 65 = 4 := by kernel_rfl

structure OkSpan (s : Span) : Prop where
  low : W64 s.low
  high : W64 s.high
structure OkLeg (x : Leg) : Prop where
  train : W64 x.train
  frm : W64 x.frm
  to : W64 x.to
structure OkStop (x : Stop) : Prop where
  station : W64 x.station
  arrive : W64 x.arrive
  leave : W64 x.leave
structure OkTrain (x : Train) : Prop where
  len : x.stops.length ≤ maxLen
  stops : ∀ y ∈ x.stops, OkStop y
  late : OkSpan x.late
def OkOffice (l : List Span) : Prop := l.length ≤ maxLen ∧ ∀ s ∈ l, OkSpan s
structure OkTable (t : Table) : Prop where
  leno : t.offices.length ≤ maxLen
  offices : ∀ l ∈ t.offices, OkOffice l
  lent : t.trains.length ≤ maxLen
  trains : ∀ x ∈ t.trains, OkTrain x
  load : W64 t.load
def OkInts (l : List Int) : Prop := l.length ≤ maxLen ∧ ∀ x ∈ l, W64 x

theorem dInt : Dec Tryd.prog eInt W64 3 := Dec.int Tryd.underlying3 c3
theorem dSpan : Dec Tryd.prog eSpan OkSpan 39 :=
  Dec.struct2 Span.mk dInt dInt Tryd.underlying39 ⟨rfl, rfl⟩ ⟨rfl, by rw [c3]⟩ (by rw [c39, c3]) (fun c => ⟨c.low, c.high, rfl⟩) (fun _ _ => rfl) (fun _ _ a b => ⟨a, b⟩)
theorem dOffice : Dec Tryd.prog eOffice OkOffice 54 := Dec.slice dSpan Tryd.underlying54 c54 (by rw [c39]; decide)
theorem dOffices : Dec Tryd.prog (fun l : List (List Span) => [lst eOffice l .unk]) (fun l => l.length ≤ maxLen ∧ ∀ x ∈ l, OkOffice x) 22 := Dec.slice dOffice Tryd.underlying22 c22 (by rw [c54]; decide)
theorem dStop : Dec Tryd.prog eStop OkStop 78 :=
  Dec.struct3 Stop.mk dInt dInt dInt Tryd.underlying78 ⟨rfl, rfl⟩ ⟨rfl, by rw [c3]⟩ ⟨rfl, by rw [c3]⟩ (by rw [c78, c3]) (fun c => ⟨c.station, c.arrive, c.leave, rfl⟩) (fun _ _ _ => rfl) (fun _ _ _ a b c => ⟨a, b, c⟩)
theorem dStops : Dec Tryd.prog (fun l : List Stop => [lst eStop l .unk]) (fun l => l.length ≤ maxLen ∧ ∀ x ∈ l, OkStop x) 71 := Dec.slice dStop Tryd.underlying71 c71 (by rw [c78]; decide)
theorem dTrain : Dec Tryd.prog eTrain OkTrain 73 :=
  Dec.struct2 Train.mk dStops dSpan Tryd.underlying73 ⟨rfl, rfl⟩ ⟨rfl, by rw [c71]⟩ (by rw [c73, c71, c39]) (fun c => ⟨c.stops, c.late, rfl⟩) (fun _ _ => rfl) (fun _ _ a b => ⟨a.1, a.2, b⟩)
theorem dTrains : Dec Tryd.prog (fun l : List Train => [lst eTrain l .unk]) (fun l => l.length ≤ maxLen ∧ ∀ x ∈ l, OkTrain x) 23 := Dec.slice dTrain Tryd.underlying23 c23 (by rw [c73]; decide)
theorem dTable : Dec Tryd.prog eTable OkTable 25 :=
  Dec.struct3 Table.mk dOffices dTrains dInt Tryd.underlying25 ⟨rfl, rfl⟩ ⟨rfl, by rw [c22]⟩ ⟨rfl, by rw [c22, c23]⟩ (by rw [c25, c22, c23, c3]) (fun c => ⟨c.offices, c.trains, c.load, rfl⟩) (fun _ _ _ => rfl) (fun _ _ _ a b c => ⟨a.1, a.2, b.1, b.2, c⟩)
theorem dInts : Dec Tryd.prog (fun l : List Int => [lst eInt l .unk]) OkInts 34 := Dec.slice dInt Tryd.underlying34 c34 (by rw [c3]; decide)

/-! ## The listed table -/
abbrev laidL : List (String × DataW Unit) := [("bioscope/train.ends", Rows.laid_bioscope_train_ends)]
theorem gEnds : Tryd.prog.globalNamed "bioscope/train.ends" = some 0 := by kernel_rfl
theorem tEnds : (Tryd.prog.globals[0]?).map (·.type) = some 123 := by kernel_rfl
theorem ownK : ownKnob Tryd.prog.godebug = none := by kernel_rfl
theorem laidOut : laidOutB Tryd.prog = true := by kernel_rfl
theorem door_met (os : Os) (args : Array Value) : laidMetH Tryd.prog laidL ((World.doorLaid Tryd.prog 600 os).forCall (fun _ _ => 0) ⟨#[], args, []⟩).memory :=
  laidMetH_of_parts3 (fuel := 8) (laidMet_of_run' 8 (by kernel_rfl) (by kernel_rfl)) (by kernel_rfl) (by kernel_rfl)

set_option maxRecDepth 100000 in
/-- What the condition gives: the table's two functions. -/
theorem of_laid {W : World} (h : laidMetH Tryd.prog laidL W) : ∀ g cs, ctx.glob g = some cs → RepV (K0 W) (.ro cs) (.pointer (some ⟨g, 0, none⟩)) := by
  obtain ⟨g, t, cs, fuel, p, hg, ht, hv, hd⟩ := h.funcs (List.mem_singleton.2 rfl)
  obtain rfl := Option.some.inj (gEnds.symm.trans hg)
  obtain rfl := Option.some.inj (tEnds.symm.trans ht)
  have hd' : DataW.trod (funcToken Tryd.prog) Tryd.prog W 0 (fun _ => true) true fuel 123 cs.toList = some (.agg [.held [40, 98, 105, 111, 115, 99, 111, 112, 101, 47, 116, 114, 97, 105, 110, 46, 116, 97, 98, 108, 101, 41, 46, 115, 111, 111, 110, 101, 115, 116], .held [40, 98, 105, 111, 115, 99, 111, 112, 101, 47, 116, 114, 97, 105, 110, 46, 116, 97, 98, 108, 101, 41, 46, 108, 97, 116, 101, 115, 116]], p) := hd
  obtain ⟨xs, m, rfl, hx, hl, hn, hel⟩ := DataW.trod_array Tryd.underlying123 hd'
  have c122 : Tryd.prog.cellsOf 122 = 1 := by kernel_rfl
  have h0 := hel 0 (by decide)
  have h1 := hel 1 (by decide)
  rw [c122] at h0 h1
  have c123 : Tryd.prog.cellsOf 123 = 2 := by kernel_rfl
  rw [c123] at hl
  obtain ⟨l⟩ := cs
  obtain ⟨v0, v1, rfl⟩ : ∃ v0 v1, l = [v0, v1] := by
    match l, hl with
    | [v0, v1], _ => exact ⟨v0, v1, rfl⟩
  match xs, hn, hx, h0, h1 with
  | [x0, x1], _, hx, h0, h1 =>
    simp only [List.map_cons, List.map_nil, Prod.mk.injEq, DataW.agg.injEq, List.cons.injEq, and_true] at hx
    obtain ⟨⟨e0, e1⟩, _⟩ := hx
    obtain ⟨d0, p0⟩ := x0
    obtain ⟨d1, p1⟩ := x1
    simp only at e0 e1
    subst e0 e1
    have r0 := Go.func_of_trod (f0 := 127) Tryd.underlying122 (by kernel_rfl) (by simpa using h0)
    have r1 := Go.func_of_trod (f0 := 125) Tryd.underlying122 (by kernel_rfl) (by simpa using h1)
    subst r0 r1
    have k0 := World.var?_cell hg hv 0
    have k1 := World.var?_cell hg hv 1
    intro g cs hgl
    simp only [ctx] at hgl
    split at hgl
    · next h =>
      subst h
      obtain rfl := (Option.some.inj hgl)
      refine RepV.ro [.func (.func 127) #[] #[], .func (.func 125) #[] #[]] rfl (fun j v hj => ?_) (fun a ha => ?_) (fun j a v ha hvv => ?_)
      · match j, hj with
        | 0, hj => simp at hj; subst hj; simpa [K0] using k0
        | 1, hj => simp at hj; subst hj; simpa [K0] using k1
        | j + 2, hj => simp at hj
      · simp only [ends, List.mem_cons, List.not_mem_nil, or_false] at ha
        rcases ha with rfl | rfl <;> rfl
      · match j, ha, hvv with
        | 0, ha, hvv => simp [ends] at ha hvv; subst ha hvv; exact RepV.func [] [] rfl rfl (fun _ _ _ h => by simp at h) (fun _ _ _ h => by simp at h)
        | 1, ha, hvv => simp [ends] at ha hvv; subst ha hvv; exact RepV.func [] [] rfl rfl (fun _ _ _ h => by simp at h) (fun _ _ _ h => by simp at h)
        | j + 2, ha, _ => simp [ends] at ha
    · cases hgl
end Go.Abs.Tr
