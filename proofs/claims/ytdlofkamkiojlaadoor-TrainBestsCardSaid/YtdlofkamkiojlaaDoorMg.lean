/- The plain law of TrainBests. Conditions: none. -/
import Derived.Test.YtdlofkamkiojlaaDoorMf
import Derived.Test.YtdlofkamkiojlaaDoorLg
import Derived.Test.YtdlofkamkiojlaaDoorHa
import Derived.Test.YtdlofkamkiojlaaDoorRd
namespace Go.Abs.Tr
open Go Go.Abs
set_option linter.unusedSimpArgs false
theorem bestR_len {t : Table} (a b at' : Int) : (bestR t a b at').1.length ≤ 4 := by
  unfold bestR
  split
  · next h =>
    simp only [Bool.and_eq_true] at h
    obtain ⟨_, ⟨a0, a1⟩, _⟩ := betw_iff h.2
    split
    · exact Nat.zero_le _
    · exact (best_in (good_of h.1) a b a0 a1).2
  · exact Nat.zero_le _
theorem plain4 : Plain4 := by
  intro t n0 n1 n2 ht _ _ _
  obtain ⟨N, L⟩ := lens_of ht
  refine ⟨N, ?_⟩
  have hm := bestR_len (t := t) n0 n1 n2
  have hN := L.n4
  unfold s4
  simp only [s24_eq L, s25_eq L, s27_eq L, s28_eq L, s29_eq L, s30_eq L, s26_same (N := N) (l := (bestR t n0 n1 n2).1) (by unfold big; omega) (by omega), bind_some', arrived_true, beq_self_eq_true, Bool.not_true, Bool.or_self, Bool.false_eq_true, if_false, Bool.and_self, if_true]
end Go.Abs.Tr
