/- The plain law of TrainReaches. Conditions: none. -/
import Derived.Test.YtdlofkamkiojlaaDoorMk
import Derived.Test.YtdlofkamkiojlaaDoorLg
import Derived.Test.YtdlofkamkiojlaaDoorHa
import Derived.Test.YtdlofkamkiojlaaDoorRe
namespace Go.Abs.Tr
open Go Go.Abs
set_option linter.unusedSimpArgs false
theorem reachR_len {t : Table} (a at' : Int) : (reachR t a at').1.length ≤ 6 := by
  unfold reachR
  split
  · next h =>
    simp only [Bool.and_eq_true] at h
    have := (good_of h.1).o6
    simpa using this
  · exact Nat.zero_le _
theorem plain5 : Plain5 := by
  intro t n0 n1 n2 ht _ _ _
  obtain ⟨N, L⟩ := lens_of ht
  refine ⟨N, ?_⟩
  have hm := reachR_len (t := t) n0 n2
  have hN := L.n4
  unfold s5
  simp only [s31_eq L, s32_eq L, s33_eq L, s34_eq L, s20_same (N := N) (l := (reachR t n0 n2).1) (by unfold big; omega) (by omega), bind_some', arrived_true, beq_self_eq_true, Bool.not_true, Bool.or_self, Bool.false_eq_true, if_false, Bool.and_self, if_true]
end Go.Abs.Tr
