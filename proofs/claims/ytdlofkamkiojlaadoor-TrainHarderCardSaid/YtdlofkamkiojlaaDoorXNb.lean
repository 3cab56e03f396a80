/- The plain law of TrainHarder. Conditions: none. -/
import Derived.Test.YtdlofkamkiojlaaDoorXNa
import Derived.Test.YtdlofkamkiojlaaDoorXRj
namespace Go.Abs.Tr
open Go Go.Abs
set_option linter.unusedSimpArgs false
set_option linter.unusedVariables false

theorem apN {α : Type} {eb : Nat} {ys : List α} (h : ys.length ≤ 1000) (he : eb ≤ 100) : ap eb ([] : List α) ys = some ys := by
  have : (2 * ((([] : List α).length + ys.length)) + 1024) * eb ≤ 2 ^ 48 := by
    simp only [List.length_nil, Nat.zero_add]
    exact Nat.le_trans (Nat.mul_le_mul (show 2 * ys.length + 1024 ≤ 3024 by omega) he) (by decide)
  exact ap_ok this
theorem inA_ok {n : Nat} {j : Int} (h0 : 0 ≤ j) (h1 : j < n) : inA n j = some () := if_pos ⟨h0, h1⟩
theorem setA_ok {α : Type} {l : List α} {j : Int} (v : α) (h0 : 0 ≤ j) (h1 : j < l.length) : setA l j v = some (l.set j.toNat v) := if_pos ⟨h0, by omega⟩
theorem lenC_set {α : Type} {l : List α} {i : Nat} {v : α} : lenC l.length (l.set i v) = some () := if_pos (by simp)
theorem ixg {α : Type} {l : List α} {j : Int} (h0 : 0 ≤ j) (h1 : j.toNat < l.length) : ix l j = some l[j.toNat] := by
  unfold ix
  rw [if_pos h0, List.getElem?_eq_getElem h1]

theorem stepX {N : Nat} {t : Table} (hv : V t = true) {n1 n3 by' : Int} (b0 : 0 ≤ by') (b1 : by' < 30) : ∃ x, ((if (decide ((t.trains.length : Int) > 0)) then
      (s36 N n1 (t.trains.length : Int)).bind fun v11 =>
      (ap 40 ([]) t.trains).bind fun v12 =>
      if t.trains.isEmpty then
        none
      else
        (ix t.trains v11).bind fun v14 =>
        (s36 N n3 9).bind fun v15 =>
        (ck (v14.late.low - v15)).bind fun v16 =>
        (ix t.trains v11).bind fun v17 =>
        (ck (v17.late.high + by')).bind fun v18 =>
        (s46 N (mx 0 v16) (mn 90 v18)).bind fun v19 =>
        (inA v12.length v11).bind fun v20 =>
        (ix v12 v11).bind fun v21 =>
        (setA v12 v11 (Train.mk v21.stops v19)).bind fun v22 =>
        (lenC v12.length v22).bind fun v23 =>
        some ((Table.mk t.offices v22 t.load), t)
    else
      some (t, t)) : Option (Table × Table)) = some (x, t) ∧ V x = true ∧ Easy t x := by
  have G := good_of hv
  have t6 := G.t6
  by_cases h : (t.trains.length : Int) > 0
  · have hne : t.trains.isEmpty = false := by cases ht : t.trains with | nil => rw [ht] at h; simp at h | cons => rfl
    have hk := turn_in n1 (m := (t.trains.length : Int)) (by omega)
    have e1 := s36_eq N n1 (m := (t.trains.length : Int)) (by omega)
    generalize turnV n1 (t.trains.length : Int) = k at hk e1
    have hkn : k.toNat < t.trains.length := by omega
    have gx := G.ts _ (List.getElem_mem hkn)
    have l0 := gx.l0
    have l1 := gx.l1
    have l2 := gx.l2
    have hd := turn_in n3 (m := 9) (by omega)
    have e2 := s36_eq N n3 (m := 9) (by omega)
    generalize turnV n3 9 = d at hd e2
    have hm1 := mx_ge 0 (t.trains[k.toNat].late.low - d)
    have hm2 := mn_le 90 (t.trains[k.toNat].late.high + by')
    have hm3 : mx 0 (t.trains[k.toNat].late.low - d) ≤ t.trains[k.toNat].late.low := mx_le l0 (by omega)
    have hm4 := mn_ge (a := 90) (b := t.trains[k.toNat].late.high + by') (c := t.trains[k.toNat].late.high) l2 (by omega)
    obtain ⟨vx, ex⟩ := harder_x hv hkn (s := ⟨mx 0 (t.trains[k.toNat].late.low - d), mn 90 (t.trains[k.toNat].late.high + by')⟩) hm1.1 hm3 hm4 hm2.1
    refine ⟨_, ?_, vx, ex⟩
    rw [decide_eq_true h, if_pos rfl, e1, bind_some', apN (by omega) (by omega), bind_some', hne, if_neg Bool.false_ne_true, ixg hk.1 hkn, bind_some', e2, bind_some', ck_ok (by omega), bind_some', bind_some', ck_ok (by omega), bind_some', s46_eq, bind_some',
      inA_ok hk.1 hk.2, bind_some', bind_some', setA_ok _ hk.1 hk.2, bind_some', lenC_set, bind_some']
  · exact ⟨t, by rw [decide_eq_false h]; rfl, hv, Easy.refl t⟩
theorem last_ix {α : Type} {l : List α} {s : α} (h : l.getLast? = some s) : ix l ((l.length : Int) - 1) = some s := by
  have := ix_last (l := []) h
  rwa [List.append_nil] at this
theorem stepY {N : Nat} {t : Table} (hv : V t = true) {n0 n1 by' : Int} (b0 : 0 ≤ by') (b1 : by' < 30) (x : Table) : ∃ y, ((s36 N n0 2).bind fun v24 =>
    (if (v24 == 0) then
      (ck (t.load - by')).bind fun v30 =>
      some (x, (Table.mk t.offices t.trains (mx 0 v30)))
    else
      (s36 N n1 (t.offices.length : Int)).bind fun v31 =>
      (ix t.offices v31).bind fun v32 =>
      (ap 16 ([]) v32).bind fun v33 =>
      if v32.isEmpty then
        (if (decide ((0 : Int) > 0)) then
          (ck ((0 : Int) - 1)).bind fun v38 =>
          (ck ((0 : Int) - 1)).bind fun v39 =>
          (ix ([] : List Span) v39).bind fun v40 =>
          (ck ((0 : Int) - 1)).bind fun v41 =>
          (ix ([] : List Span) v41).bind fun v42 =>
          (ck (v42.high + by')).bind fun v43 =>
          (s46 N v40.low (mn 2879 v43)).bind fun v44 =>
          (ix ([] : List Span) v38).bind fun v45 =>
          none
        else
          some (([] : List Span), x, t)).bind fun o35 =>
        (ap 24 ([]) t.offices).bind fun v46 =>
        if t.offices.isEmpty then
          none
        else
          (inA v46.length v31).bind fun v48 =>
          (setA v46 v31 o35.1).bind fun v49 =>
          (lenC v46.length v49).bind fun v50 =>
          some (o35.2.1, (Table.mk v49 o35.2.2.trains o35.2.2.load))
      else
        (if (decide (((v33.length : Nat) : Int) > 0)) then
          (ck (((v33.length : Nat) : Int) - 1)).bind fun v56 =>
          (ck (((v33.length : Nat) : Int) - 1)).bind fun v57 =>
          (inA v33.length v57).bind fun v58 =>
          (ix v33 v57).bind fun v59 =>
          (ck (((v33.length : Nat) : Int) - 1)).bind fun v60 =>
          (inA v33.length v60).bind fun v61 =>
          (ix v33 v60).bind fun v62 =>
          (ck (v62.high + by')).bind fun v63 =>
          (s46 N v59.low (mn 2879 v63)).bind fun v64 =>
          (inA v33.length v56).bind fun v65 =>
          (ix v33 v56).bind fun v66 =>
          (setA v33 v56 v64).bind fun v67 =>
          (lenC v33.length v67).bind fun v68 =>
          some (v67, x, t)
        else
          (lenC v33.length v33).bind fun v69 =>
          some (v33, x, t)).bind fun o53 =>
        (ap 24 ([]) t.offices).bind fun v70 =>
        if t.offices.isEmpty then
          none
        else
          (inA v70.length v31).bind fun v72 =>
          (setA v70 v31 o53.1).bind fun v73 =>
          (lenC v70.length v73).bind fun v74 =>
          some (o53.2.1, (Table.mk v73 o53.2.2.trains o53.2.2.load))) : Option (Table × Table)) = some (x, y) ∧ V y = true ∧ Easy y t ∧ y.trains = t.trains := by
  have G := good_of hv
  have o1 := G.o1
  have o6 := G.o6
  have a0 := G.a0
  have a1 := G.a1
  rw [s36_eq N n0 (m := 2) (by omega), bind_some']
  by_cases h : turnV n0 2 = 0
  · have hm := mx_ge 0 (t.load - by')
    have hm2 : mx 0 (t.load - by') ≤ t.load := mx_le a0 (by omega)
    obtain ⟨vy, ey⟩ := easier_l hv hm.1 hm2
    refine ⟨_, ?_, vy, ey, rfl⟩
    have e : (turnV n0 2 == 0) = true := by simpa using h
    rw [e, if_pos rfl, ck_ok (by omega), bind_some']
  · have e : (turnV n0 2 == 0) = false := by simpa using h
    rw [e, if_neg Bool.false_ne_true]
    have hk := turn_in n1 (m := (t.offices.length : Int)) (by omega)
    rw [s36_eq N n1 (m := (t.offices.length : Int)) (by omega), bind_some']
    generalize turnV n1 (t.offices.length : Int) = k at hk
    have hkn : k.toNat < t.offices.length := by omega
    obtain ⟨g3, gv⟩ := G.os _ (List.getElem_mem hkn)
    have hoe : t.offices.isEmpty = false := by cases ht : t.offices with | nil => rw [ht] at o1; simp at o1 | cons => rfl
    rw [ixg hk.1 hkn, bind_some', apN (by omega) (by omega), bind_some']
    cases hl : t.offices[k.toNat].getLast? with
    | none =>
      have hnil : t.offices[k.toNat] = [] := List.getLast?_eq_none_iff.1 hl
      obtain ⟨vy, ey⟩ := easier_o hv hkn (l' := []) (by rw [hnil]) rfl (fun m hm => by rw [hnil] at hm; exact hm) (fun m => by rw [hnil]; exact Int.le_refl _)
      refine ⟨_, ?_, vy, ey, rfl⟩
      rw [hnil, show ([] : List Span).isEmpty = true from rfl, if_pos rfl, decide_eq_false (show ¬((0 : Int) > 0) by omega), if_neg Bool.false_ne_true, bind_some', apN (by omega) (by omega), bind_some', hoe, if_neg Bool.false_ne_true,
        inA_ok hk.1 hk.2, bind_some', setA_ok _ hk.1 hk.2, bind_some', lenC_set, bind_some']
    | some s =>
      have hne : t.offices[k.toNat].isEmpty = false := by cases ht : t.offices[k.toNat] with | nil => rw [ht] at hl; cases hl | cons => rfl
      have hpos : 0 < t.offices[k.toNat].length := by
        rcases Nat.eq_zero_or_pos t.offices[k.toNat].length with h | h
        · rw [List.length_eq_zero_iff.1 h] at hl; cases hl
        · exact h
      have hs := legal_iff.1 (officeV_legal _ 0 (by omega) gv s (List.mem_of_getLast? hl))
      have hm1 := mn_le 2879 (s.high + by')
      have hm2 := mn_ge (a := 2879) (b := s.high + by') (c := s.high) hs.2 (by omega)
      obtain ⟨q1, q2, q3⟩ := ext_ok _ 0 s (mn 2879 (s.high + by')) hl hm2 hm1.1 gv
      obtain ⟨vy, ey⟩ := easier_o hv hkn (l' := t.offices[k.toNat].set (t.offices[k.toNat].length - 1) ⟨s.low, mn 2879 (s.high + by')⟩) (by simp) q1 q2 q3
      refine ⟨_, ?_, vy, ey, rfl⟩
      have hli := last_ix hl
      have hin : inA t.offices[k.toNat].length ((t.offices[k.toNat].length : Int) - 1) = some () := inA_ok (by omega) (by omega)
      have htn : ((t.offices[k.toNat].length : Int) - 1).toNat = t.offices[k.toNat].length - 1 := by omega
      have c1 : ck ((t.offices[k.toNat].length : Int) - 1) = some ((t.offices[k.toNat].length : Int) - 1) := ck_ok (by omega)
      have c2 : ck (s.high + by') = some (s.high + by') := ck_ok (by omega)
      have hs1 : ∀ v, setA t.offices[k.toNat] ((t.offices[k.toNat].length : Int) - 1) v = some (t.offices[k.toNat].set (t.offices[k.toNat].length - 1) v) := fun v => by rw [setA_ok v (by omega) (by omega), htn]
      have hs2 : ∀ v, setA t.offices k v = some (t.offices.set k.toNat v) := fun v => setA_ok v hk.1 hk.2
      have ha : ap 24 ([] : List (List Span)) t.offices = some t.offices := apN (by omega) (by omega)
      simp only [hne, Bool.false_eq_true, if_false, decide_eq_true (show ((t.offices[k.toNat].length : Nat) : Int) > 0 by omega), if_true, c1, bind_some', hin, hli, c2, s46_eq, hs1, lenC_set, ha, hoe, inA_ok hk.1 hk.2, hs2]

def sR (b : Int) : Int × Int := if b == 2880 then (0, 4) else (b, 0)
theorem hard_cond {bt bx bY : Int} (h1 : bt ≤ 2880) (h2 : bx ≤ 2880) (p1 : bt < 2880 → bY ≤ bt) (p2 : bx < 2880 → bt ≤ bx) :
    ((((((sR bt).2 == 0) && ((!((sR bY).2 == 0)) || (decide ((sR bY).1 > (sR bt).1)))) || (((sR bx).2 == 0) && ((!((sR bt).2 == 0)) || (decide ((sR bx).1 < (sR bt).1))))) || ((sR bY).2 == 30)) || ((sR bx).2 == 30)) = false := by
  have e0 : ∀ b : Int, b = 2880 → sR b = (0, 4) := fun b h => by subst h; rfl
  have e1 : ∀ b : Int, b ≠ 2880 → sR b = (b, 0) := fun b h => by
    unfold sR
    rw [if_neg (by simpa using h)]
  by_cases hb : bt = 2880
  · have h3 : bx = 2880 := by
      rcases Int.lt_or_le bx 2880 with h | h
      · have := p2 h; omega
      · omega
    rw [e0 bt hb, e0 bx h3]
    by_cases hy : bY = 2880
    · rw [e0 bY hy]; rfl
    · rw [e1 bY hy]; rfl
  · have h4 := p1 (by omega)
    rw [e1 bt hb, e1 bY (by omega)]
    simp only [e00, Bool.not_true, Bool.true_and, Bool.false_or, decide_eq_false (show ¬(bY > bt) by omega), show ((0 : Int) == 30) = false from rfl, Bool.or_false]
    by_cases h3 : bx = 2880
    · rw [e0 bx h3]; rfl
    · have := p2 (by omega)
      rw [e1 bx h3]
      simp only [e00, Bool.true_and, decide_eq_false (show ¬(bx < bt) by omega), show ((0 : Int) == 30) = false from rfl, Bool.or_false]
theorem law10 {t : Table} (ht : OkTable t) (n0 n1 n2 n3 n4 n5 : Int) {legs : List Int} (hlg : legs.length ≤ big) : ∃ N, s10 N t n0 n1 n2 n3 n4 n5 legs = some true := by
  obtain ⟨N, L⟩ := lens_of ht
  refine ⟨N, ?_⟩
  have hN := L.n4
  unfold s10
  cases hv : V t with
  | false => simp only [s35_false L hv, bind_some', Bool.not_false, Bool.true_or, if_true, arrived_true]
  | true =>
    rw [s35_true L hv, bind_some']
    have G := good_of hv
    by_cases h2 : (t.offices.length : Int) < 2
    · simp only [decide_eq_true h2, Bool.or_true, if_true, arrived_true, bind_some']
    · rw [decide_eq_false h2, Bool.or_false, Bool.not_true, if_neg Bool.false_ne_true, s36_eq N n2 (m := 30) (by omega), bind_some']
      have hby := turn_in n2 (m := 30) (by omega)
      generalize turnV n2 30 = by' at hby ⊢
      obtain ⟨x, e1, vx, ex⟩ := stepX (N := N) hv (n1 := n1) (n3 := n3) hby.1 hby.2
      rw [e1, bind_some']
      obtain ⟨y, e2, vy, ey, hyt⟩ := stepY (N := N) hv (n0 := n0) (n1 := n1) hby.1 hby.2 x
      have e2' := fun (f : Table × Table → Option Bool) => congrArg (fun o => o.bind f) e2
      simp only [Option.bind_assoc] at e2'
      refine (e2' _).trans ?_
      rw [bind_some']
      have Gx := good_of vx
      have Gy := good_of vy
      rw [choose_two G (by omega) n4 n3]
      have hp := pair_ok G (by omega) n4 n3
      generalize frmV t n4 = a at hp ⊢
      generalize toV t n4 n3 = b at hp ⊢
      have hat := turn_in n5 (m := 2880) (by omega)
      rw [s36_eq N n5 (m := 2880) (by omega), bind_some']
      generalize turnV n5 2880 = u at hat ⊢
      obtain ⟨u0, u1⟩ := hat
      have u1' : u ≤ 2879 := by omega
      have hpx : pairV x a b = true := by unfold pairV at hp ⊢; rw [← ex.no]; exact hp
      have hpy : pairV y a b = true := by unfold pairV at hp ⊢; rw [ey.no]; exact hp
      obtain ⟨Lx, Ly⟩ : Lens N x ∧ Lens N y := by
        have mk : ∀ {z : Table}, Good z → Lens N z := fun {z} g => by
          have o6 := g.o6
          have t6 := g.t6
          have nb : 1000 ≤ big := by decide
          exact { o := by omega, tr := by omega, os := fun l hl => (by have := (g.os l hl).1; omega), ts := fun q hq => (by have := (g.ts q hq).n5; omega), no := by omega, nt := by omega, nos := fun l hl => (by have := (g.os l hl).1; omega), nts := fun q hq => (by have := (g.ts q hq).n5; omega), n4 := hN, n10 := L.n10 }
        exact ⟨mk Gx, mk Gy⟩
      have hbt := (best_in G a b u0 u1').1
      have hbx := (best_in Gx a b u0 u1').1
      have hby' := (best_in Gy a b u0 u1').1
      rw [s27_eq L, bind_some', s27_eq Lx, bind_some', s27_eq Ly, bind_some', show sureR t a b u = sR (bestV t a b u).til from sure_ok hv (betw_ok hp u0 u1'), show sureR x a b u = sR (bestV x a b u).til from sure_ok vx (betw_ok hpx u0 u1'), show sureR y a b u = sR (bestV y a b u).til from sure_ok vy (betw_ok hpy u0 u1'),
        hard_cond hbt hbx (fun h => ey.best Gy G h) (fun h => ex.best G Gx h), if_neg Bool.false_ne_true]
      obtain ⟨r, ra, rb, e42, hr⟩ := s42_eq L G hlg
      rw [e42, bind_some']
      rcases hr with rfl | ⟨hr, hra, hrb⟩
      · simp only [List.length_nil, Bool.true_or, if_true, arrived_true, bind_some', show (((0 : Nat) : Int) == 0) = true from rfl]
      · by_cases hab : ra = rb
        · have : (ra == rb) = true := by simpa using hab
          simp only [this, Bool.or_true, if_true, arrived_true, bind_some']
        · have hab' : (ra == rb) = false := by simpa using hab
          have hl := legs_mem hr
          have hlen : ((r.length : Int) == 0) = false := by rw [beq_eq_false_iff_ne]; omega
          have isr : isR t r = true := by unfold isR; rw [hr, hra, hrb, hab']; rfl
          have hask : ∀ z : Table, isR z r = true → askR z r u = true := fun z h => by unfold askR; rw [h, amid_iff.2 ⟨u0, u1'⟩]; rfl
          have isx : isR x r = true := by rw [← ex.e_isR]; exact isr
          have isy : isR y r = true := by rw [ey.e_isR]; exact isr
          have e16 : ∀ z : Table, V z = true → isR z r = true → goesR z r u = (goesV z u r, 0) := fun z h1 h2 => by unfold goesR; rw [h1, hask z h2]; rfl
          rw [show (((r, ra, rb) : List Leg × Int × Int).1.length : Int) = (r.length : Int) from rfl, hlen, show ((((r, ra, rb) : List Leg × Int × Int).2.1 == ((r, ra, rb) : List Leg × Int × Int).2.2)) = false from hab', Bool.or_self, if_neg Bool.false_ne_true,
            s16_eq L, bind_some', s16_eq Lx, bind_some', s16_eq Ly, bind_some', e16 t hv isr, e16 x vx isx, e16 y vy isy]
          have h1 : goesV x u r = 2 → goesV t u r = 2 := fun h => ex.goes G Gx (by rw [← ex.legs]; exact hr) h
          have h2 := ey.goes_ge (fun q => by unfold tr; rw [hyt]) u r
          have hc : ((!(goesV x u r == 2)) || (goesV t u r == 2)) = true := by
            by_cases h : goesV x u r = 2
            · rw [h1 h]; simp
            · have : (goesV x u r == 2) = false := by simpa using h
              rw [this]; rfl
          simp only [e00, Bool.and_self, Bool.true_and, hc, decide_eq_true (show goesV y u r ≥ goesV t u r from h2), if_true, arrived_true, bind_some']
theorem plain10 : Plain10 := fun _ n0 n1 n2 n3 n4 n5 _ ht _ _ _ _ _ _ h2 => law10 ht n0 n1 n2 n3 n4 n5 h2.1
end Go.Abs.Tr
