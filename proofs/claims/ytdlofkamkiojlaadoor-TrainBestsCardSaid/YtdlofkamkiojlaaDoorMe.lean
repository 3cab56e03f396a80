/- Plain law: all routes in their order, by the specification: they are the program's. Conditions: none. -/
import Derived.Test.YtdlofkamkiojlaaDoorMd
namespace Go.Abs.Tr
open Go Go.Abs
set_option linter.unusedSimpArgs false

theorem l51_eq {N : Nat} {t : Table} (L : Lens N t) (G : Good t) {frm : Int} (s2 : (List (List Leg)) × (List (List Leg)) × Int) (h4 : ∀ r ∈ s2.2.1, Hang t frm r ∧ r.length ≤ 4) (hlen : s2.2.1.length ≤ 3375000) :
    iter (s102_l51 N t frm (legsOf t) s2) N ([], 0) = some (s2.2.1.flatMap (step1 t frm)) := by
  have hN := L.n10
  have main := iter_list (f := s102_l51 N t frm (legsOf t) s2) (S := List (List Leg)) (fun s i => (s, i)) s2.2.1 (by unfold big; omega)
    (fun s l => s.length + l.length * 150 ≤ 1000000000 ∧ ∀ r ∈ l, Hang t frm r ∧ r.length ≤ 4) (fun s l => s ++ l.flatMap (step1 t frm))
    (fun s _ => by
      unfold s102_l51
      have : decide (((s2.2.1.length : Nat) : Int) < (s2.2.1.length : Int)) = false := by simp
      simp only [this, List.flatMap_nil, List.append_nil]
      rfl)
    (fun i x r s hd hi hlt hck hI => by
      obtain ⟨hI, hx⟩ := hI
      obtain ⟨hx1, hx2⟩ := hx x List.mem_cons_self
      have hs := step1_len G frm x
      simp only [List.length_cons] at hI
      left
      refine ⟨s ++ step1 t frm x, ?_, ⟨by rw [List.length_append]; omega, fun y hy => hx y (List.mem_cons_of_mem _ hy)⟩, by rw [List.flatMap_cons, List.append_assoc]⟩
      unfold s102_l51
      simp only [hlt, decide_true, if_true, row_eq L G (frm := frm) hx2 hx1.legs s2 (s, (i : Int)) hi, bind_some', l49_eq L G (frm := frm) hx2 hx1.legs s2 (s, (i : Int)) hi s (by omega), hck])
    N (by omega) [] ⟨by simp; omega, h4⟩
  rw [main, List.nil_append]
def allR (t : Table) (frm : Int) : List (List Leg) := (List.range 4).flatMap fun i => lev t frm (i + 1) []
theorem lev_le {t : Table} (G : Good t) (frm : Int) {k : Nat} (h : k ≤ 4) : (lev t frm k []).length ≤ 506250000 := by
  refine Nat.le_trans (lev_len G frm k []) ?_
  exact Nat.le_trans (Nat.pow_le_pow_right (by omega) h) (by decide)
theorem lev_le3 {t : Table} (G : Good t) (frm : Int) {k : Nat} (h : k ≤ 3) : (lev t frm k []).length ≤ 3375000 := by
  refine Nat.le_trans (lev_len G frm k []) ?_
  exact Nat.le_trans (Nat.pow_le_pow_right (by omega) h) (by decide)
theorem s102_eq {N : Nat} {t : Table} (L : Lens N t) (G : Good t) (frm : Int) : s102 N t frm = some (allR t frm) := by
  have hN := L.n10
  have main := iter_list (f := s102_l57 N t frm (legsOf t)) (S := List (List Leg) × List (List Leg)) (fun s i => (s.1, s.2, i)) (List.range 4) (by simp [big])
    (fun s l => l.length ≤ 4 ∧ s.1.length + l.length * 1000000000 ≤ 4000000000 ∧ s.2 = lev t frm (4 - l.length) []) (fun s l => s.1 ++ l.flatMap fun i => lev t frm (i + 1) [])
    (fun s _ => by
      have : decide ((((List.range 4).length : Nat) : Int) < 4) = false := by decide
      unfold s102_l57
      simp only [this, List.flatMap_nil, List.append_nil]
      rfl)
    (fun i x l s hd hi hlt hck hI => by
      obtain ⟨out, rows⟩ := s
      obtain ⟨hl4, hI, hrows⟩ := hI
      have hi4 : i < 4 := by simp at hlt; omega
      have hx : x = i := by
        rw [ix_ok (by simpa using hi4)] at hi
        simp at hi; exact hi.symm
      subst hx
      have hl : l.length + 1 + x = 4 := by
        have := congrArg List.length hd
        simp at this; omega
      simp only [List.length_cons] at hI hrows hl4
      have hI' : out.length + (l.length + 1) * 1000000000 ≤ 4000000000 := hI
      have e4 : 4 - (l.length + 1) = x := by omega
      have hrows' : rows = lev t frm x [] := by rw [← e4]; exact hrows
      have hlev := lev_le G frm (k := x + 1) (by omega)
      have h51 := l51_eq L G (frm := frm) (out, rows, (x : Int)) (by
        intro r hr
        have hr' : r ∈ rows := hr
        rw [hrows'] at hr'
        obtain ⟨a, b⟩ := lev_hang x [] (Hang.nil t frm) r hr'
        exact ⟨a, by rw [b]; simp; omega⟩) (by
        show rows.length ≤ 3375000
        rw [hrows']; exact lev_le3 G frm (by omega))
      have h51' : iter (s102_l51 N t frm (legsOf t) (out, rows, (x : Int))) N ([], 0) = some (lev t frm (x + 1) []) := by
        rw [h51, lev_snoc, ← hrows']
      left
      refine ⟨(out ++ lev t frm (x + 1) [], lev t frm (x + 1) []), ?_, ⟨by omega, by show (out ++ lev t frm (x + 1) []).length + _ ≤ _; rw [List.length_append]; omega, by show lev t frm (x + 1) [] = _; congr 1; omega⟩, ?_⟩
      · unfold s102_l57
        have hap := apB (xs := out) (ys := lev t frm (x + 1) []) (by omega)
        have e5 : ((ap 24 out (lev t frm (x + 1) [])).bind fun v54 => if (lev t frm (x + 1) []).isEmpty = true then some out else some v54) = some (out ++ lev t frm (x + 1) []) := by
          rw [hap, bind_some']
          cases h : lev t frm (x + 1) [] with
          | nil => simp
          | cons a b => simp
        simp only [decide_eq_true (show (x : Int) < 4 by omega), if_true, h51', bind_some', e5, hck]
      · show out ++ (x :: l).flatMap _ = (out ++ lev t frm (x + 1) []) ++ l.flatMap _
        rw [List.flatMap_cons, List.append_assoc])
    N (by simp; omega) ([], [[]]) ⟨by simp, by simp, rfl⟩
  unfold s102
  rw [s108_eq L G, bind_some']
  have main' : iter (s102_l57 N t frm (legsOf t)) N ([], [[]], 0) = _ := main
  rw [main', bind_some', List.nil_append]
  rfl
theorem allR_ok {t : Table} {frm : Int} {r : List Leg} (h : r ∈ allR t frm) : Hang t frm r ∧ 1 ≤ r.length ∧ r.length ≤ 4 := by
  simp only [allR, List.mem_flatMap, List.mem_range] at h
  obtain ⟨i, hi, hr⟩ := h
  obtain ⟨a, b⟩ := lev_hang (i + 1) [] (Hang.nil t frm) r hr
  simp at b
  exact ⟨a, by omega, by omega⟩
theorem allR_len {t : Table} (G : Good t) (frm : Int) : (allR t frm).length ≤ 2025000000 := by
  have := flatMap_len_le (fun i => lev t frm (i + 1) []) 506250000 (List.range 4) fun i hi => lev_le G frm (by have := List.mem_range.1 hi; omega)
  simpa [allR] using this
theorem rts_eq (t : Table) (frm to : Int) : (allR t frm).filter (ends' t frm to) = rts t frm to := by
  unfold allR rts
  rw [List.filter_flatMap]
/-- The specification's routes between two stations are those that the program's search yields, in their order. -/
theorem s80_eq {N : Nat} {t : Table} (L : Lens N t) (G : Good t) {frm to : Int} (hne : frm ≠ to) : s80 N t frm to = some (rts t frm to) := by
  have hN := L.n10
  have hlen := allR_len G frm
  have main := iter_list (f := s80_l18 N t to (allR t frm)) (S := List (List Leg)) (fun s i => (s, i)) (allR t frm) (by unfold big; omega)
    (fun s l => s.length + l.length ≤ 3000000000 ∧ ∀ r ∈ l, r ∈ allR t frm) (fun s l => s ++ l.filter (ends' t frm to))
    (fun s _ => by
      unfold s80_l18
      have : decide ((((allR t frm).length : Nat) : Int) < ((allR t frm).length : Int)) = false := by simp
      simp only [this, List.filter_nil, List.append_nil]
      rfl)
    (fun i r l s hd hi hlt hck hI => by
      obtain ⟨hI, hr⟩ := hI
      simp only [List.length_cons] at hI
      obtain ⟨h1, h2, h3⟩ := allR_ok (hr r List.mem_cons_self)
      have hne2 : r ≠ [] := fun e => by rw [e] at h2; simp at h2
      have hl := h1.legsV h2 h3
      have c : ((!(rF t r == rT t r)) && (rT t r == to)) = ends' t frm to r := by
        rw [h1.first hne2, Hang.to (frm := frm) hne2]
        unfold ends'
        cases h : atE t frm r == to with
        | false => simp
        | true =>
          have : atE t frm r = to := by simpa using h
          rw [this]
          simp [hne]
      left
      cases hc : ends' t frm to r with
      | false =>
        refine ⟨s, ?_, ⟨by omega, fun q hq => hr q (List.mem_cons_of_mem _ hq)⟩, by rw [List.filter_cons, hc]; rfl⟩
        unfold s80_l18
        simp only [hlt, decide_true, if_true, hi, bind_some', s59_eq L G, hl, c, hc, Bool.false_eq_true, if_false, hck]
      | true =>
        refine ⟨s ++ [r], ?_, ⟨by rw [List.length_append]; simp; omega, fun q hq => hr q (List.mem_cons_of_mem _ hq)⟩, by rw [List.filter_cons, hc]; simp⟩
        unfold s80_l18
        simp only [hlt, decide_true, if_true, hi, bind_some', s59_eq L G, hl, c, hc, apB (xs := s) (ys := [r]) (by simp; omega), hck])
    N (by omega) [] ⟨by simp; omega, fun _ h => h⟩
  unfold s80
  rw [s102_eq L G, bind_some', main, bind_some', List.nil_append, rts_eq]
theorem rts_ok {t : Table} {frm to : Int} {r : List Leg} (h : r ∈ rts t frm to) : Hang t frm r ∧ (1 ≤ r.length ∧ r.length ≤ 4) ∧ atE t frm r = to := by
  rw [← rts_eq] at h
  obtain ⟨a, b⟩ := List.mem_filter.1 h
  obtain ⟨c, d⟩ := allR_ok a
  exact ⟨c, d, by simpa [ends'] using b⟩
theorem rts_len {t : Table} (G : Good t) (frm to : Int) : (rts t frm to).length ≤ 2025000000 := by
  rw [← rts_eq]
  exact Nat.le_trans (List.length_filter_le _ _) (allR_len G frm)
end Go.Abs.Tr
