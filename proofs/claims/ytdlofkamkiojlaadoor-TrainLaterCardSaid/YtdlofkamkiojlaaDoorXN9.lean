/- The plain law of TrainLater. Conditions: none. -/
import Derived.Test.YtdlofkamkiojlaaDoorXNg
import Derived.Test.YtdlofkamkiojlaaDoorXLg
import Derived.Test.YtdlofkamkiojlaaDoorXHa
import Derived.Test.YtdlofkamkiojlaaDoorXRi
namespace Go.Abs.Tr
open Go Go.Abs
set_option linter.unusedSimpArgs false
set_option linter.unusedVariables false

theorem law9 {t : Table} (ht : OkTable t) (n0 n1 n2 n3 : Int) : ∃ N, s9 N t n0 n1 n2 n3 = some true := by
  obtain ⟨N, L⟩ := lens_of ht
  refine ⟨N, ?_⟩
  have hN := L.n4
  unfold s9
  cases hv : V t with
  | false => simp only [s35_false L hv, bind_some', Bool.not_false, Bool.true_or, if_true, arrived_true]
  | true =>
    rw [s35_true L hv, bind_some']
    have G := good_of hv
    by_cases h2 : (t.offices.length : Int) < 2
    · simp only [decide_eq_true h2, Bool.or_true, if_true, arrived_true, bind_some']
    · simp only [decide_eq_false h2, Bool.not_true, Bool.or_self, Bool.false_eq_true, if_false]
      rw [choose_two G (by omega) n0 n1]
      have hp := pair_ok G (by omega) n0 n1
      generalize frmV t n0 = a at hp ⊢
      generalize toV t n0 n1 = b at hp ⊢
      have hat := turn_in n2 (m := 2880) (by omega)
      rw [s36_eq N n2 (m := 2880) (by omega), bind_some']
      generalize turnV n2 2880 = at' at hat ⊢
      obtain ⟨a0, a1⟩ := hat
      obtain ⟨w, hw, hw1, _⟩ := s45_in N (s := ⟨at', 2879⟩) a0 (by show (2879 : Int) ≤ 3000; omega) n3
      obtain ⟨w0, w1⟩ := hw1 (by show at' ≤ 2879; omega)
      have w0' : at' ≤ w := w0
      have w1' : w ≤ 2879 := w1
      have hb := betw_ok hp a0 (show at' ≤ 2879 by omega)
      have hb2 := betw_ok hp (show 0 ≤ w by omega) w1'
      have hp' := hp
      simp only [pairV, Bool.and_eq_true, amid_iff, Bool.not_eq_true'] at hp'
      obtain ⟨⟨⟨c0, c1⟩, d0, d1⟩, hab⟩ := hp'
      have hne : a ≠ b := by simpa using hab
      have eR : reachR t a at' = ((List.range t.offices.length).map (reach1 t a at'), 0) := by
        unfold reachR askS
        rw [hv, amid_iff.2 ⟨c0, c1⟩, amid_iff.2 ⟨a0, show at' ≤ 2879 by omega⟩]; rfl
      have r1 : reach1 t a at' a.toNat = at' := by
        unfold reach1
        have : (((a.toNat : Nat) : Int) == a) = true := by rw [beq_iff_eq]; omega
        rw [this]; rfl
      have r2 : reach1 t a at' b.toNat = if (bestV t a b at').til == 2880 then -1 else (bestV t a b at').til := by
        unfold reach1
        have : (((b.toNat : Nat) : Int) == a) = false := by rw [beq_eq_false_iff_ne]; omega
        rw [this]
        have : ((b.toNat : Nat) : Int) = b := by omega
        rw [this]; rfl
      obtain ⟨o1, o2, o3⟩ := G.ofc c0 (by omega)
      have hlen : (((List.range t.offices.length).map (reach1 t a at')).length : Int) = (t.offices.length : Int) := by simp
      simp only [s46_eq, bind_some', hw, s27_eq L, s33_eq L, eR, hlen, e00, beq_self_eq_true, Bool.not_true, Bool.or_self, Bool.false_eq_true, if_false, ix_map _ c0 (show a < (t.offices.length : Int) by omega),
        ix_map _ d0 (show b < (t.offices.length : Int) by omega), r1, r2, sure_ok hv hb, sure_ok hv hb2, o1]
      have hh := (best_in G a b a0 (show at' ≤ 2879 by omega)).1
      have cond : (if (!((if ((bestV t a b at').til == 2880) = true then ((0 : Int), (4 : Int)) else ((bestV t a b at').til, 0)).2 == 0)) = true then
          (if (!((if ((bestV t a b at').til == 2880) = true then ((0 : Int), (4 : Int)) else ((bestV t a b at').til, 0)).2 == 4)) = true then some true
            else some (!((if ((bestV t a b at').til == 2880) = true then (-1 : Int) else (bestV t a b at').til) == -1))).bind fun v38 => some v38
          else some false) = some false ∧
          (if ((if ((bestV t a b at').til == 2880) = true then ((0 : Int), (4 : Int)) else ((bestV t a b at').til, 0)).2 == 0) = true then
            some (!((if ((bestV t a b at').til == 2880) = true then (-1 : Int) else (bestV t a b at').til) == (if ((bestV t a b at').til == 2880) = true then ((0 : Int), (4 : Int)) else ((bestV t a b at').til, 0)).1))
          else some false) = some false := by
        cases ((bestV t a b at').til == 2880) <;> simp [bind_some']
      simp only [cond.1, cond.2, bind_some', Bool.false_eq_true, if_false]
      by_cases hop : openR (ofc t a) at' = at' ∧ openR (ofc t a) w = w
      · obtain ⟨p1, p2⟩ := hop
        have z1 := open_at (m := at') o3 (by omega)
        have z2 := open_at (m := w) o3 w1'
        rw [p1, beq_self_eq_true] at z1
        rw [p2, beq_self_eq_true] at z2
        simp only [s38_eq hN o2 o3 (show at' ≤ 2880 by omega), s38_eq hN o2 o3 (show w ≤ 2880 by omega), p1, p2, bind_some', beq_self_eq_true, Bool.not_true, Bool.false_eq_true, if_false]
        by_cases h : (bestV t a b w).til = 2880
        · have e : ((bestV t a b w).til == 2880) = true := by simpa using h
          simp only [e, if_true, e44, Bool.true_or, arrived_true, bind_some']
        · have e : ((bestV t a b w).til == 2880) = false := by simpa using h
          have hw2 := (best_in G a b (show 0 ≤ w by omega) w1').1
          obtain ⟨q1, q2, q3⟩ := best_is (t := t) (a := a) (b := b) (u := w) (by omega)
          obtain ⟨q4, q5, _⟩ := rts_legs q1
          obtain ⟨⟨g1, g2⟩, g3⟩ := (goes2' G q4).1 q2
          have ga : goesV t at' (bestV t a b w).route = 2 := (goes2' G q4).2 ⟨⟨by rw [q5]; exact z1.symm, by omega⟩, g3⟩
          obtain ⟨_, p, hp1⟩ := goesV_arr (two_ne q2)
          obtain ⟨_, q, hq1⟩ := goesV_arr (two_ne ga)
          have hne' : (bestV t a b w).route ≠ [] := fun e => by have := (legsV_legs q4).1.1; rw [e] at this; simp at this
          have hs := high_same hne' hp1 hq1
          have hm := (best_min q1 ga).1
          have e2 : ((bestV t a b at').til == 2880) = false := by rw [beq_eq_false_iff_ne]; omega
          simp only [e, e2, Bool.false_eq_true, if_false, e04, e00, Bool.false_or, Bool.true_and, decide_eq_true (show (bestV t a b at').til ≤ (bestV t a b w).til by omega), if_true, arrived_true, bind_some']
      · have hor : (if (!(openR (ofc t a) at' == at')) = true then some true else some (!(openR (ofc t a) w == w))) = some true := by
          by_cases h1 : openR (ofc t a) at' = at'
          · have h2 : ¬ openR (ofc t a) w = w := fun h => hop ⟨h1, h⟩
            simp [h1, h2]
          · simp [h1]
        simp only [s38_eq hN o2 o3 (show at' ≤ 2880 by omega), s38_eq hN o2 o3 (show w ≤ 2880 by omega), bind_some', hor, if_true, arrived_true]
theorem plain9 : Plain9 := fun _ n0 n1 n2 n3 ht _ _ _ _ => law9 ht n0 n1 n2 n3
end Go.Abs.Tr
