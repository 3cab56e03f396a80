/- The map of legs while it is made: its entries, found and turned. Conditions: none (lemmas). -/
import Derived.Test.YtdlofkamkiojlaaDoorXOp
namespace Go.Abs.Tr
open Go Go.Abs

/-- The entries while the map is made: each list's spare places are its own. -/
def entriesFrom (k : Nat) : List (Int × List Leg) → List (AV × AV)
  | [] => []
  | (a, l) :: m => (.int .i64 a, lst eLeg l (.tok k)) :: entriesFrom (k + 1) m
theorem entries_len : ∀ (m : List (Int × List Leg)) (q : Nat), (entriesFrom q m).length = m.length := by
  intro m
  induction m with
  | nil => intro q; rfl
  | cons p m ih => intro q; simp [entriesFrom, ih]
theorem entries_append : ∀ (m m2 : List (Int × List Leg)) (q : Nat), entriesFrom q (m ++ m2) = entriesFrom q m ++ entriesFrom (q + m.length) m2 := by
  intro m
  induction m with
  | nil => intro m2 q; rfl
  | cons p m ih =>
    intro m2 q
    simp only [List.cons_append, entriesFrom, ih, List.length_cons]
    rw [show q + 1 + m.length = q + (m.length + 1) by omega]
theorem keyEq3 (a b : Int) : keyEq ty3 (.int .i64 a) (.int .i64 b) = some (a == b) := rfl
theorem find_new (k : Int) : ∀ (m : List (Int × List Leg)) (q : Nat), (∀ p ∈ m, p.1 ≠ k) → findA ty3 (.int .i64 k) (entriesFrom q m) = some none := by
  intro m
  induction m with
  | nil => intro q _; simp [entriesFrom, findA, keyEq3]
  | cons p m ih =>
    intro q h
    have h1 : ¬ k = p.1 := fun e => h p (List.mem_cons_self ..) e.symm
    simp only [entriesFrom, findA, keyEq3]
    rw [show (k == p.1) = false by simpa using h1]
    exact ih (q + 1) (fun r hr => h r (List.mem_cons_of_mem _ hr))
theorem find_old (k : Int) (l : List Leg) (m2 : List (Int × List Leg)) : ∀ (m : List (Int × List Leg)) (q : Nat), (∀ p ∈ m, p.1 ≠ k) → findA ty3 (.int .i64 k) (entriesFrom q (m ++ (k, l) :: m2)) = some (some (lst eLeg l (.tok (q + m.length)))) := by
  intro m
  induction m with
  | nil => intro q _; simp [entriesFrom, findA, keyEq3]
  | cons p m ih =>
    intro q h
    have h1 : ¬ k = p.1 := fun e => h p (List.mem_cons_self ..) e.symm
    simp only [List.cons_append, entriesFrom, findA, keyEq3]
    rw [show (k == p.1) = false by simpa using h1]
    have := ih (q + 1) (fun r hr => h r (List.mem_cons_of_mem _ hr))
    rw [show q + 1 + m.length = q + (m.length + 1) by omega] at this
    exact this
theorem put_new (k : Int) (v : AV) : ∀ (m : List (Int × List Leg)) (q : Nat), (∀ p ∈ m, p.1 ≠ k) → putA ty3 (.int .i64 k) v (entriesFrom q m) = some (entriesFrom q m ++ [(.int .i64 k, v)]) := by
  intro m
  induction m with
  | nil => intro q _; simp [entriesFrom, putA, keyEq3]
  | cons p m ih =>
    intro q h
    have h1 : ¬ k = p.1 := fun e => h p (List.mem_cons_self ..) e.symm
    simp only [entriesFrom, putA, keyEq3]
    rw [show (k == p.1) = false by simpa using h1]
    simp only [ih (q + 1) (fun r hr => h r (List.mem_cons_of_mem _ hr)), Option.map_some, List.cons_append]
theorem put_old (k : Int) (v : AV) (l : List Leg) (m2 : List (Int × List Leg)) : ∀ (m : List (Int × List Leg)) (q : Nat), (∀ p ∈ m, p.1 ≠ k) →
    putA ty3 (.int .i64 k) v (entriesFrom q (m ++ (k, l) :: m2)) = some (entriesFrom q m ++ (.int .i64 k, v) :: entriesFrom (q + m.length + 1) m2) := by
  intro m
  induction m with
  | nil => intro q _; simp [entriesFrom, putA, keyEq3]
  | cons p m ih =>
    intro q h
    have h1 : ¬ k = p.1 := fun e => h p (List.mem_cons_self ..) e.symm
    simp only [List.cons_append, entriesFrom, putA, keyEq3]
    rw [show (k == p.1) = false by simpa using h1]
    simp only [ih (q + 1) (fun r hr => h r (List.mem_cons_of_mem _ hr)), Option.map_some, List.length_cons]
    rw [show q + 1 + m.length + 1 = q + (m.length + 1) + 1 by omega]

theorem split_key (k : Int) : ∀ (m : List (Int × List Leg)), (∀ p ∈ m, p.1 ≠ k) ∨ ∃ m1 l m2, m = m1 ++ (k, l) :: m2 ∧ ∀ p ∈ m1, p.1 ≠ k := by
  intro m
  induction m with
  | nil => exact .inl fun p h => by cases h
  | cons p m ih =>
    obtain ⟨a, l⟩ := p
    by_cases h : a = k
    · subst h
      exact .inr ⟨[], l, m, rfl, fun p h => by cases h⟩
    · rcases ih with ih | ⟨m1, l', m2, rfl, hm⟩
      · refine .inl fun p hp => ?_
        rcases List.mem_cons.1 hp with rfl | hp
        · exact h
        · exact ih p hp
      · refine .inr ⟨(a, l) :: m1, l', m2, rfl, fun p hp => ?_⟩
        rcases List.mem_cons.1 hp with rfl | hp
        · exact h
        · exact hm p hp
theorem putLeg_new (k : Int) (x : Leg) : ∀ (m : List (Int × List Leg)), (∀ p ∈ m, p.1 ≠ k) → putLeg k x m = m ++ [(k, [x])] := by
  intro m
  induction m with
  | nil => intro _; rfl
  | cons p m ih =>
    intro h
    have h1 : ¬ k = p.1 := fun e => h p (List.mem_cons_self ..) e.symm
    simp only [putLeg, if_neg h1, List.cons_append]
    rw [ih (fun r hr => h r (List.mem_cons_of_mem _ hr))]
theorem putLeg_old (k : Int) (x : Leg) (l : List Leg) (m2 : List (Int × List Leg)) : ∀ (m : List (Int × List Leg)), (∀ p ∈ m, p.1 ≠ k) → putLeg k x (m ++ (k, l) :: m2) = m ++ (k, l ++ [x]) :: m2 := by
  intro m
  induction m with
  | nil => intro _; simp [putLeg]
  | cons p m ih =>
    intro h
    have h1 : ¬ k = p.1 := fun e => h p (List.mem_cons_self ..) e.symm
    simp only [List.cons_append, putLeg, if_neg h1]
    rw [ih (fun r hr => h r (List.mem_cons_of_mem _ hr))]
end Go.Abs.Tr
