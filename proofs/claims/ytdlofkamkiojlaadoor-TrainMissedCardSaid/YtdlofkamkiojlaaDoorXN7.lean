/- The plain law of TrainMissed. Conditions: none. -/
import Derived.Test.YtdlofkamkiojlaaDoorXNg
import Derived.Test.YtdlofkamkiojlaaDoorXLg
import Derived.Test.YtdlofkamkiojlaaDoorXHa
import Derived.Test.YtdlofkamkiojlaaDoorXRg
namespace Go.Abs.Tr
open Go Go.Abs
set_option linter.unusedSimpArgs false
set_option linter.unusedVariables false

theorem law7 {t : Table} (ht : OkTable t) {legs bits : List Int} (h1 : legs.length ≤ big) (h3 : bits.length ≤ big) (minute : Int) : ∃ N, s7 N t legs minute bits = some true := by
  obtain ⟨N, L⟩ := lens_of ht
  refine ⟨N, ?_⟩
  have hN := L.n4
  unfold s7
  cases hv : V t with
  | false => simp only [s35_false L hv, bind_some', Bool.not_false, if_true, arrived_true]
  | true =>
    rw [s35_true L hv, bind_some']
    have G := good_of hv
    simp only [Bool.not_true, Bool.false_eq_true, if_false]
    obtain ⟨r, a, b, e42, hr⟩ := s42_eq L G h1
    rw [e42, bind_some']
    simp only
    rcases hr with rfl | ⟨hr, hra, hrb⟩
    · simp only [List.length_nil, beq_self_eq_true, Bool.true_or, if_true, arrived_true, bind_some', show (((0 : Nat) : Int) == 0) = true from rfl]
    · by_cases hab : a = b
      · have : (a == b) = true := by simpa using hab
        simp only [this, Bool.or_true, if_true, arrived_true, bind_some']
      · have hab' : (a == b) = false := by simpa using hab
        have hl := legs_mem hr
        have hlen : ((r.length : Int) == 0) = false := by rw [beq_eq_false_iff_ne]; omega
        have hat := turn_in minute (m := 2880) (by omega)
        simp only [hlen, hab', Bool.or_self, Bool.false_eq_true, if_false, s36_eq N minute (m := 2880) (by omega), bind_some']
        generalize turnV minute 2880 = u at hat ⊢
        obtain ⟨u0, u1⟩ := hat
        have u1' : u ≤ 2879 := by omega
        have isr : isR t r = true := by unfold isR; rw [hr, hra, hrb, hab']; rfl
        have hask : askR t r u = true := by unfold askR; rw [isr, amid_iff.2 ⟨u0, u1'⟩]; rfl
        obtain ⟨f0, f1⟩ := G.from' hr
        obtain ⟨t0, t1⟩ := G.to' hr
        rw [hra] at f0 f1
        rw [hrb] at t0 t1
        have hp : pairV t a b = true := by unfold pairV; rw [amid_iff.2 ⟨f0, by omega⟩, amid_iff.2 ⟨t0, by omega⟩, hab']; rfl
        have e12' : isRouteV t r a b = (true, 0) := by
          unfold isRouteV
          rw [hv, hp, isr, hra, hrb, beq_self_eq_true, beq_self_eq_true]; rfl
        have e16 : goesR t r u = (goesV t u r, 0) := by unfold goesR; rw [hv, hask]; rfl
        have e37 : s37 N t r a b = some true := by
          have := s37_eq L G hr (by rw [hra, hrb]; exact hab)
          rwa [hra, hrb] at this
        obtain ⟨o1, o2, o3⟩ := G.ofc f0 f1
        have e38 := s38_eq hN o2 o3 (show u ≤ 2880 by omega)
        have hopen := open_at (m := u) o3 u1'
        simp only [s12_eq L, s16_eq L, s18_eq L, s21_eq L, e12', e16, e37, bind_some', e00, Bool.not_true, Bool.or_self, Bool.false_eq_true, if_false, o1, e38, hopen]
        cases ho : isOp (ofc t a) u with
        | false =>
          have ho' : isOp (ofc t (rF t r)) u = false := by rw [hra]; exact ho
          have g0 : goesV t u r = 0 := by unfold goesV; rw [ho']; rfl
          have e18 : missedR t r u = ([], 4) := by unfold missedR; rw [hv, hask, ho']; rfl
          have e21 : thereR t r u = (⟨0, 0⟩, 4) := by unfold thereR; rw [hv, hask, g0]; rfl
          simp only [Bool.not_false, if_true, g0, e18, e21, e00, e44, List.length_nil, Bool.and_self, arrived_true, bind_some', show (((0 : Nat) : Int) == 0) = true from rfl]
        | true =>
          have ho' : isOp (ofc t (rF t r)) u = true := by rw [hra]; exact ho
          have e18 : missedR t r u = (mi t 0 u r, 0) := by unfold missedR; rw [hv, hask, ho']; rfl
          have e21 : thereR t r u = if goesV t u r == 0 then (⟨0, 0⟩, 4) else (whn t u r, 0) := by unfold thereR; rw [hv, hask]; rfl
          obtain ⟨lt, e40', hlt⟩ := s40_eq L G h3
          have hmi := goes_mi G hr ho'
          have hml := mi_len (t := t) r 0 u
          have e43 := s43_rise (N := N) (l := mi t 0 u r) (n := (r.length : Int)) (by omega) hN (by omega) (by omega) (mi_rise r 0 u _ (by push_cast; omega))
          obtain ⟨c1, c2⟩ := goes_car G hr hlt u0 u1' ho'
          have e39 := s39_eq L G hr hlt u0 u1'
          have hcond : (!(((goesV t u r == 0) == ((thereR t r u).2 == 4)))) = false := by
            rw [e21]
            cases goesV t u r == 0 <;> rfl
          simp only [Bool.not_true, Bool.false_eq_true, if_false, e18, e00, Bool.false_or, hcond, hmi, beq_self_eq_true, Bool.or_self, e43, bind_some', e40', e39]
          rw [← hmi]
          cases hc : car t lt 0 (u + t.load) r with
          | inr i =>
            obtain ⟨g2, hmem, hi⟩ := c2 i hc
            obtain ⟨v, hv44, hv0⟩ := s44_mem (N := N) (by omega) hN hmem
            simp only [decide_eq_true hi, if_true, g2, Bool.not_false, hv44, bind_some', decide_eq_true (show v ≥ 0 from hv0), arrived_true]
          | inl m =>
            obtain ⟨g0, w1, w2⟩ := c1 m hc
            rw [hrb] at w1 w2
            simp only [decide_eq_false (show ¬((r.length : Int) < (r.length : Int)) by omega), Bool.false_eq_true, if_false, s29_eq L, bind_some', soon_ok hv (betw_ok hp u0 u1'), hrb]
            have hmem : r ∈ rts t a b := by have := mem_rts hr; rwa [hra, hrb] at this
            have hs := soon_le hmem g0
            have hc1 : (decide (openR (ofc t b) m < 2880) && (!((if (soonV t a b u == 2880) = true then ((0 : Int), (4 : Int)) else (soonV t a b u, 0)).2 == 0) || decide ((if (soonV t a b u == 2880) = true then ((0 : Int), (4 : Int)) else (soonV t a b u, 0)).1 > openR (ofc t b) m))) = false := by
              by_cases h : openR (ofc t b) m < 2880
              · have e : (soonV t a b u == 2880) = false := by rw [beq_eq_false_iff_ne]; omega
                rw [e, decide_eq_true h]
                show (true && (!((0 : Int) == 0) || decide (soonV t a b u > openR (ofc t b) m))) = false
                rw [decide_eq_false (by omega)]; rfl
              · rw [decide_eq_false h]; rfl
            have e21'' : thereR t r u = (whn t u r, 0) := by rw [e21, g0]; rfl
            have e41 : s41 N (whn t u r) (openR (ofc t b) m) = some true := by
              unfold s41
              rw [s47_eq, amid_iff.2 ⟨w1, w2⟩]; rfl
            simp only [hc1, Bool.false_eq_true, if_false, e21'', g0, Bool.not_false, e00, Bool.and_self, if_true, e41, bind_some', arrived_true]
theorem plain7 : Plain7 := fun _ _ n _ ht h1 _ h2 => law7 ht h1.1 h2.1 n
end Go.Abs.Tr
