/- The plain law of TrainHanded. Conditions: none. -/
import Derived.Test.YtdlofkamkiojlaaDoorXNg
import Derived.Test.YtdlofkamkiojlaaDoorXLg
import Derived.Test.YtdlofkamkiojlaaDoorXHa
import Derived.Test.YtdlofkamkiojlaaDoorXRh
namespace Go.Abs.Tr
open Go Go.Abs
set_option linter.unusedSimpArgs false
set_option linter.unusedVariables false

theorem law8 {t : Table} (ht : OkTable t) (n0 n1 n2 n3 : Int) : ∃ N, s8 N t n0 n1 n2 n3 = some true := by
  obtain ⟨N, L⟩ := lens_of ht
  refine ⟨N, ?_⟩
  have hN := L.n4
  unfold s8
  cases hv : V t with
  | false => simp only [s35_false L hv, bind_some', Bool.not_false, Bool.true_or, if_true, arrived_true]
  | true =>
    rw [s35_true L hv, bind_some']
    have G := good_of hv
    by_cases h2 : (t.offices.length : Int) < 2
    · simp only [decide_eq_true h2, Bool.or_true, if_true, arrived_true, bind_some']
    · simp only [decide_eq_false h2, Bool.not_true, Bool.or_self, Bool.false_eq_true, if_false]
      rw [choose_two G (by omega) n0 n1]
      have hp := pair_ok G (by omega) n0 n1
      generalize frmV t n0 = a at hp ⊢
      generalize toV t n0 n1 = b at hp ⊢
      have hby := turn_in n2 (m := 2880) (by omega)
      rw [s36_eq N n2 (m := 2880) (by omega), bind_some']
      generalize turnV n2 2880 = by' at hby ⊢
      have hb := betw_ok hp hby.1 (show by' ≤ 2879 by omega)
      rw [s31_eq L, bind_some']
      obtain ⟨hl0, hl1⟩ := late_in' (t := t) (a := a) (b := b) (by' := by') (by omega)
      have key : ∀ u : Int, 0 ≤ u → u ≤ 2879 → lateV t a b by' < u → ((sureR t a b u).2 == 4 || ((sureR t a b u).2 == 0 && decide ((sureR t a b u).1 > by'))) = true := by
        intro u u0 u1 hu
        rw [sure_ok hv (betw_ok hp u0 u1)]
        have h1 := (best_in G a b u0 u1).1
        by_cases h : (bestV t a b u).til = 2880
        · rw [h]; rfl
        · have e : ((bestV t a b u).til == 2880) = false := by simpa using h
          rw [e]
          obtain ⟨q1, q2, q3⟩ := best_is (t := t) (a := a) (b := b) (u := u) (by omega)
          have := late_max G (by omega) q1 hu u1 q2
          rw [q3] at this
          show (((0 : Int) == 4) || (((0 : Int) == 0) && decide ((bestV t a b u).til > by'))) = true
          rw [decide_eq_true this]; rfl
      have fin : ∀ u : Int, 0 ≤ u → u ≤ 2879 → lateV t a b by' < u → ((s27 N t a b u).bind fun v36 => (if ((v36.2 == 4) || ((v36.2 == 0) && (decide (v36.1 > by')))) then (s23 4000).bind fun v43 => some v43 else some false).bind fun v44 => some v44) = some true := by
        intro u u0 u1 hu
        rw [s27_eq L, bind_some', key u u0 u1 hu, if_pos rfl, arrived_true]; rfl
      obtain ⟨w, hw, hw1, _⟩ := s45_in N (s := ⟨0, 2879⟩) (by show (0 : Int) ≤ 0; omega) (by show (2879 : Int) ≤ 3000; omega) n3
      obtain ⟨w0, w1⟩ := hw1 (by show (0 : Int) ≤ 2879; omega)
      by_cases hneg : lateV t a b by' < 0
      · have e : lateR t a b by' = (0, 4) := by
          unfold lateR
          rw [hv, hb, decide_eq_true hneg]; rfl
        simp only [e, s46_eq, bind_some', hw, e40, e44, e00, Bool.not_true, Bool.not_false, Bool.or_self, Bool.and_false, Bool.false_eq_true, if_false]
        exact fin w w0 w1 (by have h0 : (0 : Int) ≤ w := w0; omega)
      · have e : lateR t a b by' = (lateV t a b by', 0) := by
          unfold lateR
          rw [hv, hb, decide_eq_false hneg]; rfl
        have hb2 := betw_ok hp (show 0 ≤ lateV t a b by' by omega) hl1
        have es : sureR t a b (lateV t a b by') = ((bestV t a b (lateV t a b by')).til, 0) ∧ (bestV t a b (lateV t a b by')).til ≤ by' := by
          obtain ⟨r, q1, q2, q3⟩ := late_is (t := t) (a := a) (b := b) (by' := by') (by omega)
          have := (best_min q1 q2).1
          rw [sure_ok hv hb2]
          have e : ((bestV t a b (lateV t a b by')).til == 2880) = false := by rw [beq_eq_false_iff_ne]; omega
          rw [e]
          exact ⟨rfl, by omega⟩
        have ea : amid (lateV t a b by') 0 2879 = true := amid_iff.2 ⟨by omega, hl1⟩
        simp only [e, s46_eq, bind_some', hw, e00, Bool.not_true, Bool.false_and, Bool.false_eq_true, if_false, if_true, s47_eq, ea, s27_eq L, es.1, Bool.false_or, decide_eq_false (show ¬((bestV t a b (lateV t a b by')).til > by') by omega)]
        by_cases hq : lateV t a b by' = 2879
        · have hq' : (lateV t a b by' == 2879) = true := by simpa using hq
          simp only [hq', if_true, arrived_true, bind_some']
        · have hq' : (lateV t a b by' == 2879) = false := by simpa using hq
          obtain ⟨w', hw', hw1', _⟩ := s45_in N (s := ⟨lateV t a b by' + 1, 2879⟩) (by show 0 ≤ lateV t a b by' + 1; omega) (by show (2879 : Int) ≤ 3000; omega) n3
          obtain ⟨w0', w1'⟩ := hw1' (by show lateV t a b by' + 1 ≤ 2879; omega)
          have w0'' : lateV t a b by' + 1 ≤ w' := w0'
          simp only [hq', Bool.false_eq_true, if_false, ck_ok (n := lateV t a b by' + 1) (by omega), bind_some', hw']
          have := fin w' (by omega) w1' (by omega)
          rw [s27_eq L, bind_some'] at this
          exact this
theorem plain8 : Plain8 := fun _ n0 n1 n2 n3 ht _ _ _ _ => law8 ht n0 n1 n2 n3
end Go.Abs.Tr
