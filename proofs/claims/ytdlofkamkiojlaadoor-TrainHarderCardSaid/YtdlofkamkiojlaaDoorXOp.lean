/- Plain data: the legs of a timetable by the station where they begin. Conditions: none (definitions). -/
import Derived.Test.YtdlofkamkiojlaaDoorXDau
import Derived.Test.YtdlofkamkiojlaaDoorXCtx
namespace Go.Abs.Tr
open Go Go.Abs

/-- A leg more under a station; stations in the order in which they first come. -/
def putLeg (k : Int) (x : Leg) : List (Int × List Leg) → List (Int × List Leg)
  | [] => [(k, [x])]
  | (a, l) :: m => if k = a then (a, l ++ [x]) :: m else (a, l) :: putLeg k x m
def legsAt (m : List (Int × List Leg)) (k : Int) : List Leg :=
  match m with
  | [] => []
  | (a, l) :: m => if k = a then l else legsAt m k
/-- The legs that begin at one stop of a train. -/
def stopLegs (k i : Nat) (n : Nat) : List Leg := (List.range' (i + 1) (n - (i + 1))).map fun (j : Nat) => ⟨(k : Int), (i : Int), (j : Int)⟩
def trainLegs (k : Nat) (x : Train) : List (Int × Leg) := (x.stops.zipIdx.map fun p => (stopLegs k p.2 x.stops.length).map fun l => (p.1.station, l)).flatten
def allLegs (t : Table) : List (Int × Leg) := (t.trains.zipIdx.map fun p => trainLegs p.2 p.1).flatten
def legsMap (l : List (Int × Leg)) : List (Int × List Leg) := l.foldl (fun m p => putLeg p.1 p.2 m) []
def calcOf (t : Table) : Calc := ⟨t, legsMap (allLegs t)⟩
theorem putLeg_at (k : Int) (x : Leg) : ∀ (m : List (Int × List Leg)) (q : Int), legsAt (putLeg k x m) q = if q = k then legsAt m q ++ [x] else legsAt m q := by
  intro m
  induction m with
  | nil => intro q; by_cases h : q = k <;> simp [putLeg, legsAt, h]
  | cons p m ih =>
    obtain ⟨a, l⟩ := p
    intro q
    unfold putLeg
    by_cases hk : k = a
    · subst hk
      by_cases hq : q = k <;> simp [legsAt, hq]
    · rw [if_neg hk]
      by_cases hq : q = a
      · subst hq
        simp [legsAt, Ne.symm hk]
      · simp [legsAt, hq, ih]
theorem legsMap_at : ∀ (l : List (Int × Leg)) (m : List (Int × List Leg)) (q : Int), legsAt (l.foldl (fun m p => putLeg p.1 p.2 m) m) q = legsAt m q ++ (l.filter fun p => decide (p.1 = q)).map (·.2) := by
  intro l
  induction l with
  | nil => intro m q; simp
  | cons p l ih =>
    intro m q
    rw [List.foldl_cons, ih, putLeg_at]
    by_cases h : p.1 = q
    · simp [h]
    · simp [h, Ne.symm h]
end Go.Abs.Tr
