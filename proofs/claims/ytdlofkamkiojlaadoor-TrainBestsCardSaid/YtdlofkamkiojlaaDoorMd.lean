/- Plain law: all routes in their order, by the specification: the lists. Conditions: none. -/
import Derived.Test.YtdlofkamkiojlaaDoorMb
namespace Go.Abs.Tr
open Go Go.Abs
set_option linter.unusedSimpArgs false

def useFold (l : List Leg) (u : Nat) : Nat := l.foldl (fun u x => u ||| 2 ^ x.train.toNat) u
def usedOf (pre : List Leg) : Nat := useFold pre 0
theorem use_ok : ∀ (l : List Leg) (u : Nat), (∀ x ∈ l, 0 ≤ x.train ∧ x.train < 6) → u < 64 → useFold l u < 64 ∧ ∀ j : Nat, j < 6 → s87 0 (useFold l u : Int) (j : Int) = (s87 0 (u : Int) (j : Int)).map fun b => b || l.any fun y => y.train == (j : Int) := by
  intro l
  induction l with
  | nil => intro u _ hu; exact ⟨hu, fun j hj => by cases h : s87 0 (u : Int) (j : Int) <;> simp [useFold, h]⟩
  | cons x l ih =>
    intro u hl hu
    obtain ⟨x0, x6⟩ := hl x List.mem_cons_self
    have hi : x.train.toNat < 6 := by omega
    obtain ⟨_, hb⟩ := bits_ok ⟨u, hu⟩ ⟨x.train.toNat, hi⟩
    have hu' : u ||| 2 ^ x.train.toNat < 64 := by
      have h2 : 2 ^ x.train.toNat < 2 ^ 6 := Nat.pow_lt_pow_right (by omega) hi
      exact Nat.or_lt_two_pow (n := 6) (by omega) h2
    obtain ⟨a, b⟩ := ih (u ||| 2 ^ x.train.toNat) (fun y hy => hl y (List.mem_cons_of_mem _ hy)) hu'
    refine ⟨a, fun j hj => ?_⟩
    have e1 := b j hj
    have e2 := hb ⟨j, hj⟩
    have e3 : useFold (x :: l) u = useFold l (u ||| 2 ^ x.train.toNat) := rfl
    rw [e3, e1]
    have e2' : s87 0 ((u ||| 2 ^ x.train.toNat : Nat) : Int) (j : Int) = (s87 0 (u : Int) (j : Int)).map fun b => b || (x.train.toNat == j) := e2
    rw [e2', Option.map_map]
    congr 1
    funext b
    show ((b || (x.train.toNat == j)) || l.any fun y => y.train == (j : Int)) = (b || (x :: l).any fun y => y.train == (j : Int))
    rw [List.any_cons, Bool.or_assoc]
    have e5 : (x.train.toNat == j) = (x.train == (j : Int)) := by
      rw [Bool.eq_iff_iff, beq_iff_eq, beq_iff_eq]
      omega
    rw [e5]
theorem used_any {pre : List Leg} (hl : ∀ x ∈ pre, 0 ≤ x.train ∧ x.train < 6) (N : Nat) {j : Int} (h0 : 0 ≤ j) (h6 : j < 6) : s87 N (usedOf pre : Int) j = some (pre.any fun y => y.train == j) := by
  obtain ⟨n, rfl⟩ : ∃ n : Nat, j = n := ⟨j.toNat, by omega⟩
  obtain ⟨_, h⟩ := use_ok pre 0 hl (by omega)
  have := h n (by omega)
  have e : s87 0 ((0 : Nat) : Int) (n : Int) = some false := by
    have : ∀ k : Fin 6, s87 0 ((0 : Nat) : Int) ((k.val : Nat) : Int) = some false := by decide +kernel
    exact this ⟨n, by omega⟩
  rw [e] at this
  show s87 0 (useFold pre 0 : Int) (n : Int) = _
  simpa using this
theorem shl_or {u : Nat} (hu : u < 64) {x : Int} (h0 : 0 ≤ x) (h6 : x < 6) : ∃ v, shlC 1 x = some v ∧ orC (u : Int) v = ((u ||| 2 ^ x.toNat : Nat) : Int) := by
  obtain ⟨n, rfl⟩ : ∃ n : Nat, x = n := ⟨x.toNat, by omega⟩
  obtain ⟨h, _⟩ := bits_ok ⟨u, hu⟩ ⟨n, by omega⟩
  obtain ⟨v, hv, h⟩ := Option.bind_eq_some_iff.1 h
  exact ⟨v, hv, Option.some.inj h⟩

/-- What is known of a list of legs: where it ends, what it uses. -/
theorem row_eq {N : Nat} {t : Table} (L : Lens N t) (G : Good t) {frm : Int} {row : List Leg} (h4 : row.length ≤ 4) (hv : ∀ x ∈ row, LegV t x) (s2 : (List (List Leg)) × (List (List Leg)) × Int) (s6 : (List (List Leg)) × Int)
    (hr : ix s2.2.1 s6.2 = some row) : iter (s102_l22 N t s2 s6) N (frm, 0, 0) = some (atE t frm row, (usedOf row : Int)) := by
  have hN := L.n4
  have tr6 : ∀ x ∈ row, 0 ≤ x.train ∧ x.train < 6 := fun x hx => ⟨(hv x hx).t0, by have := (hv x hx).t1; have := G.t6; omega⟩
  have main := iter_list (f := s102_l22 N t s2 s6) (S := Int × Nat × List Leg) (fun s i => (s.1, (s.2.1 : Int), i)) row (by unfold big; omega)
    (fun s l => s.2.2 ++ l = row ∧ s.1 = atE t frm s.2.2 ∧ s.2.1 = usedOf s.2.2) (fun _ _ => (atE t frm row, (usedOf row : Int)))
    (fun s hI => by
      obtain ⟨a, u, pre⟩ := s
      obtain ⟨h1, h2, h3⟩ := hI
      simp only [List.append_nil] at h1 h2 h3
      subst h1 h2 h3
      unfold s102_l22
      have : decide (((pre.length : Nat) : Int) < (pre.length : Int)) = false := by simp
      simp only [hr, bind_some', this]
      rfl)
    (fun i x r s hd hi hlt hck hI => by
      obtain ⟨a, u, pre⟩ := s
      obtain ⟨h1, h2, h3⟩ := hI
      have h1' : pre ++ x :: r = row := h1
      have h2' : a = atE t frm pre := h2
      have h3' : u = usedOf pre := h3
      have hx := hv x (by rw [← h1']; simp)
      obtain ⟨x0, x6⟩ := tr6 x (by rw [← h1']; simp)
      have hu : u < 64 := by
        rw [h3']
        exact (use_ok pre 0 (fun y hy => tr6 y (by rw [← h1']; exact List.mem_append_left _ hy)) (by omega)).1
      obtain ⟨v, hv1, hv2⟩ := shl_or hu x0 x6
      left
      refine ⟨((sg t x).station, u ||| 2 ^ x.train.toNat, pre ++ [x]), ?_, ⟨by rw [List.append_assoc]; exact h1', (atE_snoc _ _ _ _).symm, ?_⟩, rfl⟩
      · unfold s102_l22
        simp only [hr, bind_some', hlt, decide_true, if_true, hi, hx.s74, hv1, hv2, hck]
      · show u ||| 2 ^ x.train.toNat = usedOf (pre ++ [x])
        rw [h3']
        simp [usedOf, useFold])
    N (by omega) (frm, 0, []) ⟨rfl, rfl, rfl⟩
  exact main

theorem step1_eq (t : Table) (frm : Int) (row : List Leg) : ((legsOf t).filter fun x => freeL row x && ((sf t x).station == atE t frm row)).map (fun x => row ++ [x]) = step1 t frm row := by
  unfold step1 legsOf
  rw [lk_calc, List.filter_map, List.filter_map, List.filter_filter]
  congr 2
  apply List.filter_congr
  intro p hp
  have := (allLegs_ok hp).2
  simp only [Function.comp, this]
  congr 1
theorem step1_len {t : Table} (G : Good t) (frm : Int) (row : List Leg) : (step1 t frm row).length ≤ 150 := by
  unfold step1
  rw [List.length_map]
  exact Nat.le_trans (List.length_filter_le _ _) (lk_len G _)
theorem legsOf_len {t : Table} (G : Good t) : (legsOf t).length ≤ 150 := by unfold legsOf; rw [List.length_map]; exact allLegs_len G
theorem legsOf_ok {t : Table} {x : Leg} (h : x ∈ legsOf t) : LegV t x := by
  obtain ⟨p, hp, rfl⟩ := List.mem_map.1 h
  exact (allLegs_ok hp).1
theorem l49_eq {N : Nat} {t : Table} (L : Lens N t) (G : Good t) {frm : Int} {row : List Leg} (h4 : row.length ≤ 4) (hv : ∀ x ∈ row, LegV t x) (s2 : (List (List Leg)) × (List (List Leg)) × Int) (s6 : (List (List Leg)) × Int)
    (hr : ix s2.2.1 s6.2 = some row) (nx : List (List Leg)) (hnx : nx.length ≤ 100000000000) :
    iter (s102_l49 N t (legsOf t) s2 s6 (atE t frm row, (usedOf row : Int))) N (nx, 0) = some (nx ++ step1 t frm row) := by
  have hN := L.n4
  have hlen := legsOf_len G
  have tr6 : ∀ x ∈ row, 0 ≤ x.train ∧ x.train < 6 := fun x hx => ⟨(hv x hx).t0, by have := (hv x hx).t1; have := G.t6; omega⟩
  have main := iter_list (f := s102_l49 N t (legsOf t) s2 s6 (atE t frm row, (usedOf row : Int))) (S := List (List Leg)) (fun s i => (s, i)) (legsOf t) (by unfold big; omega)
    (fun s l => s.length + l.length ≤ 200000000000) (fun s l => s ++ (l.filter fun x => freeL row x && ((sf t x).station == atE t frm row)).map (fun x => row ++ [x]))
    (fun s _ => by
      unfold s102_l49
      have : decide ((((legsOf t).length : Nat) : Int) < ((legsOf t).length : Int)) = false := by simp
      simp only [this, List.filter_nil, List.map_nil, List.append_nil]
      rfl)
    (fun i x r s hd hi hlt hck hI => by
      have hx := legsOf_ok (mem_drop hd)
      have h6 : x.train < 6 := by have := hx.t1; have := G.t6; omega
      simp only [List.length_cons] at hI
      left
      have c1 : (if (!(row.any fun y => y.train == x.train)) = true then (ix (legsOf t) (i : Int)).bind fun v31 => (s72 N t v31).bind fun v32 => some (v32.station == atE t frm row) else some false) = some (freeL row x && ((sf t x).station == atE t frm row)) := by
        rw [hi, bind_some', hx.s72, bind_some']
        unfold freeL
        cases row.any fun y => y.train == x.train <;> rfl
      cases hc : freeL row x && ((sf t x).station == atE t frm row) with
      | false =>
        refine ⟨s, ?_, by omega, ?_⟩
        · unfold s102_l49
          simp only [hlt, decide_true, if_true, hi, bind_some', used_any tr6 N hx.t0 h6] at c1 ⊢
          rw [c1, bind_some', hc]
          simp only [Bool.false_eq_true, if_false, bind_some', hck]
        · rw [List.filter_cons, hc]; rfl
      | true =>
        refine ⟨s ++ [row ++ [x]], ?_, by rw [List.length_append]; simp; omega, ?_⟩
        · unfold s102_l49
          simp only [hlt, decide_true, if_true, hi, bind_some', used_any tr6 N hx.t0 h6] at c1 ⊢
          rw [c1, bind_some', hc]
          simp only [if_true, hr, bind_some', apB (xs := ([] : List Leg)) (ys := row) (by simp; omega), List.nil_append]
          cases hrow : row with
          | nil =>
            simp only [List.isEmpty_nil, if_true, apB (xs := ([] : List Leg)) (ys := [x]) (by simp), apB (xs := s) (ys := [[x]]) (by simp; omega), bind_some', hck, List.nil_append]
          | cons y l =>
            have hl4 : l.length + 1 ≤ 4 := by rw [hrow] at h4; simpa using h4
            simp only [List.isEmpty_cons, Bool.false_eq_true, if_false, apB (xs := y :: l) (ys := [x]) (by simp; omega), apB (xs := s) (ys := [y :: l ++ [x]]) (by simp; omega), bind_some', hck]
        · rw [List.filter_cons, hc]
          simp only [if_true, List.map_cons, List.append_assoc, List.singleton_append])
    N (by omega) nx (by omega)
  rw [main, step1_eq]

theorem lev_snoc (t : Table) (frm : Int) : ∀ (k : Nat) (pre : List Leg), lev t frm (k + 1) pre = (lev t frm k pre).flatMap (step1 t frm) := by
  intro k
  induction k with
  | zero => intro pre; simp [lev]
  | succ k ih =>
    intro pre
    have e1 : lev t frm (k + 1) pre = (step1 t frm pre).flatMap (lev t frm k) := rfl
    have e2 : lev t frm (k + 1 + 1) pre = (step1 t frm pre).flatMap (lev t frm (k + 1)) := rfl
    rw [e1, e2, List.flatMap_assoc]
    congr 1
    exact funext ih
theorem flatMap_len_le {α β : Type} (f : α → List β) (B : Nat) (l : List α) (h : ∀ a ∈ l, (f a).length ≤ B) : (l.flatMap f).length ≤ l.length * B := by
  rw [List.flatMap_def]
  exact flat_len f B l h
theorem lev_len {t : Table} (G : Good t) (frm : Int) : ∀ (k : Nat) (pre : List Leg), (lev t frm k pre).length ≤ 150 ^ k := by
  intro k
  induction k with
  | zero => intro pre; simp [lev]
  | succ k ih =>
    intro pre
    rw [lev_snoc, Nat.pow_succ]
    exact Nat.le_trans (flatMap_len_le _ 150 _ fun r _ => step1_len G frm r) (Nat.mul_le_mul_right _ (ih pre))
end Go.Abs.Tr
