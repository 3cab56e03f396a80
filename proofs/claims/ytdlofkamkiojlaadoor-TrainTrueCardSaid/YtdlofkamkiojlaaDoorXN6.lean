/- The plain law of TrainTrue. Conditions: none. -/
import Derived.Test.YtdlofkamkiojlaaDoorXNg
import Derived.Test.YtdlofkamkiojlaaDoorXLg
import Derived.Test.YtdlofkamkiojlaaDoorXHa
import Derived.Test.YtdlofkamkiojlaaDoorXRf
namespace Go.Abs.Tr
open Go Go.Abs
set_option linter.unusedSimpArgs false
set_option linter.unusedVariables false

theorem law6 {t : Table} (ht : OkTable t) {bits other : List Int} (h1 : bits.length ≤ big) (h3 : other.length ≤ big) (n0 n1 n2 : Int) : ∃ N, s6 N t n0 n1 n2 bits other = some true := by
  obtain ⟨N, L⟩ := lens_of ht
  refine ⟨N, ?_⟩
  have hN := L.n4
  unfold s6
  cases hv : V t with
  | false => simp only [s35_false L hv, bind_some', Bool.not_false, Bool.true_or, if_true, arrived_true]
  | true =>
    rw [s35_true L hv, bind_some']
    have G := good_of hv
    by_cases h2 : (t.offices.length : Int) < 2
    · simp only [decide_eq_true h2, Bool.or_true, if_true, arrived_true, bind_some']
    · simp only [decide_eq_false h2, Bool.not_true, Bool.or_self, Bool.false_eq_true, if_false]
      rw [choose_two G (by omega) n0 n1]
      have hp := pair_ok G (by omega) n0 n1
      generalize frmV t n0 = a at hp ⊢
      generalize toV t n0 n1 = b at hp ⊢
      have hat := turn_in n2 (m := 2880) (by omega)
      rw [s36_eq N n2 (m := 2880) (by omega), bind_some']
      generalize turnV n2 2880 = u at hat ⊢
      obtain ⟨u0, u1⟩ := hat
      have u1' : u ≤ 2879 := by omega
      have hb := betw_ok hp u0 u1'
      have hp' := hp
      simp only [pairV, Bool.and_eq_true, amid_iff, Bool.not_eq_true'] at hp'
      obtain ⟨⟨⟨c0, c1⟩, d0, d1⟩, hab⟩ := hp'
      have hne : a ≠ b := by simpa using hab
      obtain ⟨lt, e40', hlt⟩ := s40_eq L G h1
      obtain ⟨r, ra, rb, e42, hr⟩ := s42_eq L G h3
      have hbi := (best_in G a b u0 u1').1
      -- the route of the others
      have tail : ((if (((r.length : Int) == 0) || (!(ra == a)) || (!(rb == b))) then (s23 4000).bind fun v74 => some v74
          else (s16 N t r u).bind fun v75 => (s21 N t r u).bind fun v76 =>
            if ((!(v75.2 == 0)) || ((v75.1 == 2) && (!(v76.2 == 0)))) then some false
            else (if (((!(v75.1 == 2)) || (v76.1.high == 2880)) || (((bestR t a b u).2 == 0) && ((decide ((sureR t a b u).1 < v76.1.high)) || (((sureR t a b u).1 == v76.1.high) && (decide (((bestR t a b u).1.length : Int) ≤ (r.length : Int))))))) then
              (s23 4000).bind fun v94 => some v94 else some false).bind fun v95 => some v95) : Option Bool) = some true := by
        rcases hr with rfl | ⟨hr, hra, hrb⟩
        · simp only [List.length_nil, Bool.true_or, if_true, arrived_true, bind_some', show (((0 : Nat) : Int) == 0) = true from rfl]
        by_cases hq : ra = a ∧ rb = b
        case neg =>
          have e : (((r.length : Int) == 0) || (!(ra == a)) || (!(rb == b))) = true := by
            by_cases h1 : ra = a
            · have h2 : rb ≠ b := fun h => hq ⟨h1, h⟩
              simp [h2]
            · simp [h1]
          simp only [e, if_true, arrived_true, bind_some']
        obtain ⟨rfl, rfl⟩ := hq
        have hl := legs_mem hr
        have hlen : ((r.length : Int) == 0) = false := by rw [beq_eq_false_iff_ne]; omega
        have isr : isR t r = true := by unfold isR; rw [hr, hra, hrb, hab]; rfl
        have hask : askR t r u = true := by unfold askR; rw [isr, amid_iff.2 ⟨u0, u1'⟩]; rfl
        have e16 : goesR t r u = (goesV t u r, 0) := by unfold goesR; rw [hv, hask]; rfl
        have e21 : thereR t r u = if goesV t u r == 0 then (⟨0, 0⟩, 4) else (whn t u r, 0) := by unfold thereR; rw [hv, hask]; rfl
        simp only [hlen, beq_self_eq_true, Bool.not_true, Bool.or_self, Bool.false_eq_true, if_false, s16_eq L, s21_eq L, bind_some', e16, e21, e00, Bool.false_or]
        have hmem : r ∈ rts t ra rb := by have := mem_rts hr; rwa [hra, hrb] at this
        by_cases hg : goesV t u r = 2
        · have hi := (whn_in G hr u0 u1' (two_ne hg)).2
          obtain ⟨m1, m2⟩ := best_min hmem hg
          have eg : (goesV t u r == 0) = false := two_ne hg
          simp only [eg, Bool.false_eq_true, if_false, e00, Bool.not_true, Bool.and_false]
          by_cases hh : (whn t u r).high = 2880
          · have : ((whn t u r).high == 2880) = true := by simpa using hh
            simp only [this, Bool.or_true, Bool.true_or, if_true, arrived_true, bind_some']
          · have hh' : (bestV t ra rb u).til < 2880 := by omega
            have e : ((bestV t ra rb u).til == 2880) = false := by rw [beq_eq_false_iff_ne]; omega
            have ef : (((bestR t ra rb u).2 == 0) && ((decide ((sureR t ra rb u).1 < (whn t u r).high)) || (((sureR t ra rb u).1 == (whn t u r).high) && (decide (((bestR t ra rb u).1.length : Int) ≤ (r.length : Int)))))) = true := by
              rw [best_ok hv hb, sure_ok hv hb, e]
              show (((0 : Int) == 0) && (decide ((bestV t ra rb u).til < (whn t u r).high) || (((bestV t ra rb u).til == (whn t u r).high) && decide (((bestV t ra rb u).route.length : Int) ≤ (r.length : Int))))) = true
              by_cases hx : (bestV t ra rb u).til = (whn t u r).high
              · have := m2 hx
                rw [decide_eq_true (show ((bestV t ra rb u).route.length : Int) ≤ (r.length : Int) by omega)]
                simp [hx]
              · rw [decide_eq_true (show (bestV t ra rb u).til < (whn t u r).high by omega)]
                rfl
            simp only [ef, Bool.or_true, if_true, arrived_true, bind_some']
        · have eg : (goesV t u r == 2) = false := by simpa using hg
          simp only [eg, Bool.false_and, Bool.false_eq_true, if_false, Bool.not_false, Bool.true_or, if_true, arrived_true, bind_some']
      simp only [s24_eq L, s27_eq L, s29_eq L, bind_some', e42]
      by_cases hn : (bestV t a b u).til = 2880
      · have e : ((bestV t a b u).til == 2880) = true := by simpa using hn
        have eb : bestR t a b u = ([], 4) := by rw [best_ok hv hb, e]; rfl
        have es : sureR t a b u = (0, 4) := by rw [sure_ok hv hb, e]; rfl
        have eo : ∃ n k : Int, soonR t a b u = (n, k) ∧ ((!(k == 0)) && (!(k == 4))) = false := by
          rw [soon_ok hv hb]
          cases soonV t a b u == 2880
          · exact ⟨_, _, rfl, rfl⟩
          · exact ⟨_, _, rfl, rfl⟩
        obtain ⟨n, k, eo, ek⟩ := eo
        rw [eb, es] at tail
        simp only [eb, es, eo, ek, e44, e40, e00, List.length_nil, show (((0 : Nat) : Int) == 0) = true from rfl, beq_self_eq_true, Bool.not_true, Bool.or_self, Bool.or_false, Bool.and_false, Bool.false_and, Bool.false_or, Bool.false_eq_true, if_false, bind_some'] at tail ⊢
        exact tail
      · have e : ((bestV t a b u).til == 2880) = false := by simpa using hn
        have eb : bestR t a b u = ((bestV t a b u).route, 0) := by rw [best_ok hv hb, e]; rfl
        have es : sureR t a b u = ((bestV t a b u).til, 0) := by rw [sure_ok hv hb, e]; rfl
        obtain ⟨q1, q2, q3⟩ := best_is (t := t) (a := a) (b := b) (u := u) (by omega)
        obtain ⟨q4, q5, q6⟩ := rts_legs q1
        have hsoon := soon_le q1 (two_ne q2)
        have hwl := whn_le G q4 (two_ne q2)
        have eo2 : (soonV t a b u == 2880) = false := by rw [beq_eq_false_iff_ne]; omega
        have eo : soonR t a b u = (soonV t a b u, 0) := by rw [soon_ok hv hb, eo2]; rfl
        rw [eb, es] at tail
        generalize hroute : (bestV t a b u).route = l at q1 q2 q3 q4 q5 q6 hsoon hwl tail eb ⊢
        have isr : isR t l = true := by unfold isR; rw [q4, q5, q6, hab]; rfl
        have hask : askR t l u = true := by unfold askR; rw [isr, amid_iff.2 ⟨u0, u1'⟩]; rfl
        have e12' : isRouteV t l a b = (true, 0) := by
          unfold isRouteV
          rw [hv, hp, isr, q5, q6, beq_self_eq_true, beq_self_eq_true]; rfl
        have e21 : thereR t l u = (whn t u l, 0) := by
          unfold thereR
          rw [hv, hask, two_ne q2]; rfl
        have e37 : s37 N t l a b = some true := by
          have := s37_eq L G q4 (by rw [q5, q6]; exact hne)
          rwa [q5, q6] at this
        obtain ⟨o1, o2, o3⟩ := G.ofc c0 (by omega)
        have e38 := s38_eq hN o2 o3 (show u ≤ 2880 by omega)
        obtain ⟨ho, _⟩ := goesV_arr (two_ne q2)
        have hopen := open_at (m := u) o3 u1'
        rw [q5] at ho
        rw [ho] at hopen
        have hopen' : openR (ofc t a) u = u := by simpa using hopen
        have e39 := s39_eq L G q4 hlt u0 u1'
        obtain ⟨k1, k2⟩ := goes_car G q4 hlt u0 u1' (by rw [q5]; exact ho)
        cases hc : car t lt 0 (u + t.load) l with
        | inr i =>
          have := (k2 i hc).1
          rw [q2] at this
          cases this
        | inl m =>
          obtain ⟨_, w1, w2⟩ := k1 m hc
          rw [q6] at w1 w2
          rw [hc] at e39
          simp only [q6] at e39
          have e41 : s41 N (whn t u l) (openR (ofc t b) m) = some true := by
            unfold s41
            rw [s47_eq, amid_iff.2 ⟨w1, w2⟩]; rfl
          have eh : ((whn t u l).high == (bestV t a b u).til) = true := by rw [q3, beq_self_eq_true]
          simp only [eb, es, eo, e00, e04, beq_self_eq_true, Bool.not_true, Bool.false_and, Bool.or_self, Bool.false_eq_true, if_false, if_true, s12_eq L, e12', e37, bind_some', o1, e38, hopen',
            decide_eq_false (show ¬((bestV t a b u).til > 2879) by omega), decide_eq_false (show ¬(soonV t a b u > (bestV t a b u).til) by omega), e40', e39, s21_eq L, e21,
            decide_eq_false (show ¬((l.length : Int) < (l.length : Int)) by omega), decide_eq_false (show ¬(openR (ofc t b) m > (bestV t a b u).til) by omega), decide_eq_false (show ¬(openR (ofc t b) m < soonV t a b u) by omega), eh, e41, Bool.true_and] at tail ⊢
          exact tail
theorem plain6 : Plain6 := fun _ n0 n1 n2 _ _ ht _ _ _ h1 h2 => law6 ht h1.1 h2.1 n0 n1 n2
end Go.Abs.Tr
