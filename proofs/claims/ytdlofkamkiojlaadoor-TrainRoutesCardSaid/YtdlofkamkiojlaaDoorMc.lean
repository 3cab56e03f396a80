/- The plain law of TrainRoutes. Conditions: none. -/
import Derived.Test.YtdlofkamkiojlaaDoorLf
import Derived.Test.YtdlofkamkiojlaaDoorHa
import Derived.Test.YtdlofkamkiojlaaDoorRc
namespace Go.Abs.Tr
open Go Go.Abs
set_option linter.unusedSimpArgs false

/-- There is fuel enough. -/
theorem lens_of {t : Table} (h : OkTable t) : ∃ N, Lens N t := by
  have m1 : ∃ n, ∀ l ∈ t.offices, l.length < n := by
    have : ∀ L : List (List Span), ∃ n, ∀ l ∈ L, l.length < n := by
      intro L
      induction L with
      | nil => exact ⟨0, fun _ h => by cases h⟩
      | cons a L ih =>
        obtain ⟨n, hn⟩ := ih
        refine ⟨n + a.length + 1, fun l hl => ?_⟩
        rcases List.mem_cons.1 hl with rfl | hl
        · omega
        · have := hn l hl; omega
    exact this _
  have m2 : ∃ n, ∀ x ∈ t.trains, x.stops.length < n := by
    have : ∀ L : List Train, ∃ n, ∀ x ∈ L, x.stops.length < n := by
      intro L
      induction L with
      | nil => exact ⟨0, fun _ h => by cases h⟩
      | cons a L ih =>
        obtain ⟨n, hn⟩ := ih
        refine ⟨n + a.stops.length + 1, fun l hl => ?_⟩
        rcases List.mem_cons.1 hl with rfl | hl
        · omega
        · have := hn l hl; omega
    exact this _
  obtain ⟨n1, h1⟩ := m1
  obtain ⟨n2, h2⟩ := m2
  have e : big = maxLen := rfl
  refine ⟨n1 + n2 + t.offices.length + t.trains.length + 5000, ?_⟩
  exact { o := by rw [e]; exact h.leno, tr := by rw [e]; exact h.lent, os := fun l hl => by rw [e]; exact (h.offices l hl).1, ts := fun x hx => by rw [e]; exact (h.trains x hx).len,
          no := by omega, nt := by omega, nos := fun l hl => by have := h1 l hl; omega, nts := fun x hx => by have := h2 x hx; omega, n4 := by omega }
/-- Two lists are alike. -/
theorem s20_same {N : Nat} {l : List Int} (h1 : l.length ≤ big) (h2 : l.length < N) : s20 N l l = some true := by
  have main := iter_list (f := s20_l10 N l l) (S := Unit) (fun _ i => (true, i)) l h1 (fun _ _ => True) (fun _ _ => true)
    (fun s _ => by
      unfold s20_l10
      have : decide (((l.length : Nat) : Int) < (l.length : Int)) = false := by simp
      simp only [this]
      rfl)
    (fun i y r s hd hi hlt hck _ => by
      left
      refine ⟨(), ?_, trivial, rfl⟩
      unfold s20_l10
      simp only [hlt, decide_true, Bool.and_true, if_true, hi, bind_some', hck]
      simp)
    N h2 () trivial
  unfold s20
  have e : ((l.length : Int) == (l.length : Int)) = true := by simp
  rw [e]
  have main' : iter (s20_l10 N l l) N (true, 0) = some true := main
  rw [main']
  rfl
theorem missedR_len {t : Table} (l : List Leg) (at' : Int) : (missedR t l at').1.length ≤ 4 := by
  unfold missedR
  split
  · next h =>
    simp only [Bool.and_eq_true] at h
    obtain ⟨⟨_, h2⟩, _⟩ := askR_iff h.2
    obtain ⟨hl, _⟩ := legsV_legs h2
    split
    · have := mi_len (t := t) l 0 at'
      show (mi t 0 at' l).length ≤ 4
      omega
    · exact Nat.zero_le _
  · exact Nat.zero_le _
theorem plain3 : Plain3 := by
  intro t l n0 n1 n2 ht hl _ _ _
  obtain ⟨N, L⟩ := lens_of ht
  refine ⟨N, ?_⟩
  have hm := missedR_len (t := t) l n2
  have hN := L.n4
  unfold s3
  simp only [s12_eq L, s13_eq L, s14_eq L, s15_eq L, s16_eq L, s17_eq L, s18_eq L, s19_eq L, s21_eq L, s22_eq L, s20_same (N := N) (l := (missedR t l n2).1) (by unfold big; omega) (by omega), bind_some', arrived_true, beq_self_eq_true, Bool.not_true, Bool.or_self, Bool.false_eq_true, if_false, Bool.and_self, if_true]
end Go.Abs.Tr
