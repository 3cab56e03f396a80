/- Plain law: fuel enough; two lists alike. Conditions: none. -/
import Derived.Test.YtdlofkamkiojlaaDoorXLf
import Derived.Test.YtdlofkamkiojlaaDoorXHc
namespace Go.Abs.Tr
open Go Go.Abs
set_option linter.unusedSimpArgs false

/-- There is fuel enough. -/
theorem lens_of {t : Table} (h : OkTable t) : ∃ N, Lens N t := by
  have m1 : ∃ n, ∀ l ∈ t.offices, l.length < n := by
    have : ∀ L : List (List Span), ∃ n, ∀ l ∈ L, l.length < n := by
      intro L
      induction L with
      | nil => exact ⟨0, fun _ h => by cases h⟩
      | cons a L ih =>
        obtain ⟨n, hn⟩ := ih
        refine ⟨n + a.length + 1, fun l hl => ?_⟩
        rcases List.mem_cons.1 hl with rfl | hl
        · omega
        · have := hn l hl; omega
    exact this _
  have m2 : ∃ n, ∀ x ∈ t.trains, x.stops.length < n := by
    have : ∀ L : List Train, ∃ n, ∀ x ∈ L, x.stops.length < n := by
      intro L
      induction L with
      | nil => exact ⟨0, fun _ h => by cases h⟩
      | cons a L ih =>
        obtain ⟨n, hn⟩ := ih
        refine ⟨n + a.stops.length + 1, fun l hl => ?_⟩
        rcases List.mem_cons.1 hl with rfl | hl
        · omega
        · have := hn l hl; omega
    exact this _
  obtain ⟨n1, h1⟩ := m1
  obtain ⟨n2, h2⟩ := m2
  have e : big = maxLen := rfl
  refine ⟨n1 + n2 + t.offices.length + t.trains.length + 10000000000, ?_⟩
  exact { o := by rw [e]; exact h.leno, tr := by rw [e]; exact h.lent, os := fun l hl => by rw [e]; exact (h.offices l hl).1, ts := fun x hx => by rw [e]; exact (h.trains x hx).len,
          no := by omega, nt := by omega, nos := fun l hl => by have := h1 l hl; omega, nts := fun x hx => by have := h2 x hx; omega, n4 := by omega, n10 := by omega }
end Go.Abs.Tr
