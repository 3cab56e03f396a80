/- Printed walk: the statement TrainLater. Conditions: none. -/
import Derived.Test.YtdlofkamkiojlaaDoorXGl
set_option maxRecDepth 100000
set_option maxHeartbeats 1000000
set_option linter.unusedVariables false
namespace Go.Abs.Tr
open Go Go.Abs Go.Proofs
def s9 (N : Nat) (a0 : Table) (a1_0 : Int) (a1_1 : Int) (a1_2 : Int) (a1_3 : Int) : Option (Bool) :=
  (s35 N a0).bind fun v1 =>
  if ((!v1) || (decide ((a0.offices.length : Int) < 2))) then
    (s23 4000).bind fun v5 =>
    some v5
  else
    (s36 N a1_0 (a0.offices.length : Int)).bind fun v6 =>
    (ck (v6 + 1)).bind fun v7 =>
    (ck ((a0.offices.length : Int) - 1)).bind fun v8 =>
    (s36 N a1_1 v8).bind fun v9 =>
    (ck (v7 + v9)).bind fun v10 =>
    (s36 N v10 (a0.offices.length : Int)).bind fun v11 =>
    (s36 N a1_2 2880).bind fun v12 =>
    (s46 N v12 2879).bind fun v13 =>
    (s45 N v13 a1_3).bind fun v14 =>
    (s27 N a0 v6 v11 v12).bind fun v15 =>
    (s27 N a0 v6 v11 v14).bind fun v16 =>
    (s33 N a0 v6 v12).bind fun v17 =>
    (if ((!(v17.2 == 0)) || (!((v17.1.length : Int) == (a0.offices.length : Int)))) then some true else 
      (ix v17.1 v6).bind fun v22 =>
      some (!(v22 == v12))).bind fun v23 =>
    (if v23 then some true else 
      (if (v15.2 == 0) then 
        (ix v17.1 v11).bind fun v28 =>
        some (!(v28 == v15.1))
       else some false).bind fun v29 =>
      some v29).bind fun v30 =>
    (if v30 then some true else 
      (if (!(v15.2 == 0)) then 
        (if (!(v15.2 == 4)) then some true else 
          (ix v17.1 v11).bind fun v37 =>
          some (!(v37 == (-1)))).bind fun v38 =>
        some v38
       else some false).bind fun v39 =>
      some v39).bind fun v40 =>
    if v40 then
      some false
    else
      (ix a0.offices v6).bind fun v42 =>
      (s38 N v42 v12).bind fun v43 =>
      (if (!(v43 == v12)) then some true else 
        (ix a0.offices v6).bind fun v46 =>
        (s38 N v46 v14).bind fun v47 =>
        some (!(v47 == v14))).bind fun v48 =>
      if v48 then
        (s23 4000).bind fun v50 =>
        some v50
      else
        (if ((v16.2 == 4) || (((v16.2 == 0) && (v15.2 == 0)) && (decide (v15.1 ≤ v16.1)))) then 
          (s23 4000).bind fun v59 =>
          some v59
         else some false).bind fun v60 =>
        some v60
theorem at9 : ctx.P.funcs[9]? = some Tryd.f9 := by kernel_rfl
theorem s9_ev {N : Nat} {a0 : Table} {a1_0 : Int} {a1_1 : Int} {a1_2 : Int} {a1_3 : Int} {r : Bool} (h : s9 N a0 a1_0 a1_1 a1_2 a1_3 = some r) : ∀ H, Ev ctx (.call 9 [.agg (eTable a0), .agg [.int .i64 a1_0, .int .i64 a1_1, .int .i64 a1_2, .int .i64 a1_3]] H (.bool r) H) := by
  refine Ev.of_pure at9 rfl rfl (Nat.le_of_ble_eq_true rfl) (pCons (pv (pTab _)) (pCons (pv (pCons (.int _ _) (pCons (.int _ _) (pCons (.int _ _) (pCons (.int _ _) pNil))))) pNil)) (.bool _) ?_
  unfold s9 at h
  refine Wp.seq ?_
  refine Wp.reg rfl ?_
  refine Wg.box rfl rfl rfl rfl ?_
  refine Wg.box rfl rfl rfl rfl ?_
  refine Wg.li rfl rfl rfl rfl (fun _ => rfl) ?_
  refine Wg.nil ?_
  refine ⟨fun _ => ?_, fun h => absurd (by decide) h⟩
  refine Wp.seq ?_
  refine Wp.seq ?_
  refine Wp.reg rfl ?_
  refine Wg.li rfl rfl rfl rfl (fun _ => rfl) ?_
  obtain ⟨v1, hv1, h⟩ := ob h
  refine Wg.call rfl rfl rfl rfl (s35_ev hv1 _) ?_
  iterate 2 refine Wg.li rfl rfl rfl rfl (fun _ => rfl) ?_
  have hv2 := ifOr (!v1) (decide ((a0.offices.length : Int) < 2))
  refine Wg.grp 5 23 18 ((!v1) || (decide ((a0.offices.length : Int) < 2))) (!v1) rfl rfl (Nat.le_of_ble_eq_true rfl) (fun hb3 => ?_) (fun hb3 => ?_) ?_
  · have hv2 := iT hv2 hb3
    iterate 4 refine Wg.skip rfl rfl ?_
    refine Wg.li rfl rfl rfl rfl (fun _ => rfl) ?_
    refine Wg.nil ⟨some_b hv2, ?_, rfl⟩
    repeat (first | exact Env.le_refl _ | refine Env.le_put rfl ?_)
  · have hv2 := iF hv2 hb3
    iterate 5 refine Wg.li rfl rfl rfl rfl (fun _ => rfl) ?_
    refine Wg.nil ⟨some_b hv2, ?_, rfl⟩
    repeat (first | exact Env.le_refl _ | refine Env.le_put rfl ?_)
  refine Wg.nil ?_
  refine ⟨fun _ => ?_, fun h => absurd (by decide) h⟩
  refine Wp.cond ((!v1) || (decide ((a0.offices.length : Int) < 2))) rfl (fun hb4 => ?_) (fun hb4 => ?_)
  · have h := iT h hb4
    refine Wp.seq ?_
    refine Wp.reg rfl ?_
    obtain ⟨v5, hv5, h⟩ := ob h
    refine Wg.call rfl rfl rfl rfl (s23_ev hv5 _) ?_
    refine Wg.li rfl rfl rfl rfl (fun _ => rfl) ?_
    refine Wg.nil ?_
    refine ⟨fun _ => ?_, fun h => absurd (by decide) h⟩
    refine Wp.ret ?_
    refine ⟨fun h => absurd h (by decide), fun _ => ?_⟩
    have h := Option.some.inj h
    subst h
    exact ⟨.inr (by decide), _, rfl, rfl⟩
  · have h := iF h hb4
    refine Wp.skip ?_
    refine ⟨fun _ => ?_, fun h => absurd (by decide) h⟩
    refine Wp.seq ?_
    refine Wp.reg rfl ?_
    iterate 5 refine Wg.li rfl rfl rfl rfl (fun _ => rfl) ?_
    obtain ⟨v6, hv6, h⟩ := ob h
    refine Wg.call rfl rfl rfl rfl (s36_ev hv6 _) ?_
    refine Wg.li rfl rfl rfl rfl (fun _ => rfl) ?_
    refine Wg.nil ?_
    refine ⟨fun _ => ?_, fun h => absurd (by decide) h⟩
    refine Wp.seq ?_
    refine Wp.drw _ [3, 5, 11] rfl (by kernel_rfl) (Nat.le_refl _) ?_
    refine Wg.li rfl rfl rfl rfl (fun _ => rfl) ?_
    obtain ⟨v7, hv7, h⟩ := ob h
    refine Wg.bin (k := .i64) (k2 := .i64) (a := v6) (b := 1) rfl rfl rfl rfl rfl (bAdd hv7) ?_
    iterate 5 refine Wg.li rfl rfl rfl rfl (fun _ => rfl) ?_
    obtain ⟨v8, hv8, h⟩ := ob h
    refine Wg.bin (k := .i64) (k2 := .i64) (a := (a0.offices.length : Int)) (b := 1) rfl rfl rfl rfl rfl (bSub hv8) ?_
    obtain ⟨v9, hv9, h⟩ := ob h
    refine Wg.call rfl rfl rfl rfl (s36_ev hv9 _) ?_
    obtain ⟨v10, hv10, h⟩ := ob h
    refine Wg.bin (k := .i64) (k2 := .i64) (a := v7) (b := v9) rfl rfl rfl rfl rfl (bAdd hv10) ?_
    iterate 3 refine Wg.li rfl rfl rfl rfl (fun _ => rfl) ?_
    obtain ⟨v11, hv11, h⟩ := ob h
    refine Wg.call rfl rfl rfl rfl (s36_ev hv11 _) ?_
    refine Wg.li rfl rfl rfl rfl (fun _ => rfl) ?_
    refine Wg.nil ?_
    refine ⟨fun _ => ?_, fun h => absurd (by decide) h⟩
    refine Wp.seq ?_
    refine Wp.reg rfl ?_
    iterate 2 refine Wg.li rfl rfl rfl rfl (fun _ => rfl) ?_
    obtain ⟨v12, hv12, h⟩ := ob h
    refine Wg.call rfl rfl rfl rfl (s36_ev hv12 _) ?_
    refine Wg.li rfl rfl rfl rfl (fun _ => rfl) ?_
    refine Wg.nil ?_
    refine ⟨fun _ => ?_, fun h => absurd (by decide) h⟩
    refine Wp.seq ?_
    refine Wp.drw _ [3] rfl (by kernel_rfl) (Nat.le_refl _) ?_
    refine Wg.li rfl rfl rfl rfl (fun _ => rfl) ?_
    obtain ⟨v13, hv13, h⟩ := ob h
    refine Wg.call rfl rfl rfl rfl (s46_ev hv13 _) ?_
    iterate 2 refine Wg.li rfl rfl rfl rfl (fun _ => rfl) ?_
    obtain ⟨v14, hv14, h⟩ := ob h
    refine Wg.call rfl rfl rfl rfl (s45_ev hv14 _) ?_
    refine Wg.li rfl rfl rfl rfl (fun _ => rfl) ?_
    refine Wg.nil ?_
    refine ⟨fun _ => ?_, fun h => absurd (by decide) h⟩
    refine Wp.seq ?_
    refine Wp.reg rfl ?_
    iterate 4 refine Wg.li rfl rfl rfl rfl (fun _ => rfl) ?_
    obtain ⟨v15, hv15, h⟩ := ob h
    refine Wg.call rfl rfl rfl rfl (s27_ev hv15 _) ?_
    iterate 5 refine Wg.li rfl rfl rfl rfl (fun _ => rfl) ?_
    refine Wg.nil ?_
    refine ⟨fun _ => ?_, fun h => absurd (by decide) h⟩
    refine Wp.seq ?_
    refine Wp.reg rfl ?_
    iterate 4 refine Wg.li rfl rfl rfl rfl (fun _ => rfl) ?_
    obtain ⟨v16, hv16, h⟩ := ob h
    refine Wg.call rfl rfl rfl rfl (s27_ev hv16 _) ?_
    iterate 5 refine Wg.li rfl rfl rfl rfl (fun _ => rfl) ?_
    refine Wg.nil ?_
    refine ⟨fun _ => ?_, fun h => absurd (by decide) h⟩
    refine Wp.seq ?_
    refine Wp.reg rfl ?_
    iterate 3 refine Wg.li rfl rfl rfl rfl (fun _ => rfl) ?_
    obtain ⟨v17, hv17, h⟩ := ob h
    refine Wg.call rfl rfl rfl rfl (s33_ev hv17 _) ?_
    iterate 5 refine Wg.li rfl rfl rfl rfl (fun _ => rfl) ?_
    refine Wg.nil ?_
    refine ⟨fun _ => ?_, fun h => absurd (by decide) h⟩
    refine Wp.seq ?_
    refine Wp.seq ?_
    refine Wp.reg rfl ?_
    iterate 3 refine Wg.li rfl rfl rfl rfl (fun _ => rfl) ?_
    have hv18 := ifOr (!(v17.2 == 0)) (!((v17.1.length : Int) == (a0.offices.length : Int)))
    refine Wg.grp 7 85 78 ((!(v17.2 == 0)) || (!((v17.1.length : Int) == (a0.offices.length : Int)))) (!(v17.2 == 0)) rfl rfl (Nat.le_of_ble_eq_true rfl) (fun hb19 => ?_) (fun hb19 => ?_) ?_
    · have hv18 := iT hv18 hb19
      iterate 6 refine Wg.skip rfl rfl ?_
      refine Wg.li rfl rfl rfl rfl (fun _ => rfl) ?_
      refine Wg.nil ⟨some_b hv18, ?_, rfl⟩
      repeat (first | exact Env.le_refl _ | refine Env.le_put rfl ?_)
    · have hv18 := iF hv18 hb19
      iterate 7 refine Wg.li rfl rfl rfl rfl (fun _ => rfl) ?_
      refine Wg.nil ⟨some_b hv18, ?_, rfl⟩
      repeat (first | exact Env.le_refl _ | refine Env.le_put rfl ?_)
    refine Wg.li rfl rfl rfl rfl (fun _ => rfl) ?_
    obtain ⟨v23, hv20, h⟩ := ob h
    refine Wg.grp 7 93 86 v23 ((!(v17.2 == 0)) || (!((v17.1.length : Int) == (a0.offices.length : Int)))) rfl rfl (Nat.le_of_ble_eq_true rfl) (fun hb21 => ?_) (fun hb21 => ?_) ?_
    · have hv20 := iT hv20 hb21
      iterate 6 refine Wg.skip rfl rfl ?_
      refine Wg.li rfl rfl rfl rfl (fun _ => rfl) ?_
      refine Wg.nil ⟨some_b hv20, ?_, rfl⟩
      repeat (first | exact Env.le_refl _ | refine Env.le_put rfl ?_)
    · have hv20 := iF hv20 hb21
      iterate 2 refine Wg.li rfl rfl rfl rfl (fun _ => rfl) ?_
      obtain ⟨v22, hv22, hv20⟩ := ob hv20
      refine Wg.idx (f := eInt) (xs := v17.1) (c := .unk) rfl rfl rfl rfl rfl rfl rfl lInt (by decide) hv22 ?_
      iterate 4 refine Wg.li rfl rfl rfl rfl (fun _ => rfl) ?_
      refine Wg.nil ⟨some_b hv20, ?_, rfl⟩
      repeat (first | exact Env.le_refl _ | refine Env.le_put rfl ?_)
    refine Wg.li rfl rfl rfl rfl (fun _ => rfl) ?_
    obtain ⟨v30, hv24, h⟩ := ob h
    refine Wg.grp 11 105 94 v30 v23 rfl rfl (Nat.le_of_ble_eq_true rfl) (fun hb25 => ?_) (fun hb25 => ?_) ?_
    · have hv24 := iT hv24 hb25
      iterate 10 refine Wg.skip rfl rfl ?_
      refine Wg.li rfl rfl rfl rfl (fun _ => rfl) ?_
      refine Wg.nil ⟨some_b hv24, ?_, rfl⟩
      repeat (first | exact Env.le_refl _ | refine Env.le_put rfl ?_)
    · have hv24 := iF hv24 hb25
      iterate 3 refine Wg.li rfl rfl rfl rfl (fun _ => rfl) ?_
      obtain ⟨v29, hv26, hv24⟩ := ob hv24
      refine Wg.grp 7 104 97 v29 (v15.2 == 0) rfl rfl (Nat.le_of_ble_eq_true rfl) (fun hb27 => ?_) (fun hb27 => ?_) ?_
      · have hv26 := iT hv26 hb27
        iterate 2 refine Wg.li rfl rfl rfl rfl (fun _ => rfl) ?_
        obtain ⟨v28, hv28, hv26⟩ := ob hv26
        refine Wg.idx (f := eInt) (xs := v17.1) (c := .unk) rfl rfl rfl rfl rfl rfl rfl lInt (by decide) hv28 ?_
        iterate 4 refine Wg.li rfl rfl rfl rfl (fun _ => rfl) ?_
        refine Wg.nil ⟨some_b hv26, ?_, rfl⟩
        repeat (first | exact Env.le_refl _ | refine Env.le_put rfl ?_)
      · have hv26 := iF hv26 hb27
        iterate 6 refine Wg.skip rfl rfl ?_
        refine Wg.li rfl rfl rfl rfl (fun _ => rfl) ?_
        refine Wg.nil ⟨some_b hv26, ?_, rfl⟩
        repeat (first | exact Env.le_refl _ | refine Env.le_put rfl ?_)
      refine Wg.li rfl rfl rfl rfl (fun _ => rfl) ?_
      refine Wg.nil ⟨some_b hv24, ?_, rfl⟩
      repeat (first | exact Env.le_refl _ | refine Env.le_put rfl ?_)
    refine Wg.li rfl rfl rfl rfl (fun _ => rfl) ?_
    obtain ⟨v40, hv31, h⟩ := ob h
    refine Wg.grp 14 120 106 v40 v30 rfl rfl (Nat.le_of_ble_eq_true rfl) (fun hb32 => ?_) (fun hb32 => ?_) ?_
    · have hv31 := iT hv31 hb32
      iterate 13 refine Wg.skip rfl rfl ?_
      refine Wg.li rfl rfl rfl rfl (fun _ => rfl) ?_
      refine Wg.nil ⟨some_b hv31, ?_, rfl⟩
      repeat (first | exact Env.le_refl _ | refine Env.le_put rfl ?_)
    · have hv31 := iF hv31 hb32
      iterate 3 refine Wg.li rfl rfl rfl rfl (fun _ => rfl) ?_
      obtain ⟨v39, hv33, hv31⟩ := ob hv31
      refine Wg.grp 10 119 109 v39 (!(v15.2 == 0)) rfl rfl (Nat.le_of_ble_eq_true rfl) (fun hb34 => ?_) (fun hb34 => ?_) ?_
      · have hv33 := iT hv33 hb34
        iterate 3 refine Wg.li rfl rfl rfl rfl (fun _ => rfl) ?_
        obtain ⟨v38, hv35, hv33⟩ := ob hv33
        refine Wg.grp 6 118 112 v38 (!(v15.2 == 4)) rfl rfl (Nat.le_of_ble_eq_true rfl) (fun hb36 => ?_) (fun hb36 => ?_) ?_
        · have hv35 := iT hv35 hb36
          iterate 5 refine Wg.skip rfl rfl ?_
          refine Wg.li rfl rfl rfl rfl (fun _ => rfl) ?_
          refine Wg.nil ⟨some_b hv35, ?_, rfl⟩
          repeat (first | exact Env.le_refl _ | refine Env.le_put rfl ?_)
        · have hv35 := iF hv35 hb36
          iterate 2 refine Wg.li rfl rfl rfl rfl (fun _ => rfl) ?_
          obtain ⟨v37, hv37, hv35⟩ := ob hv35
          refine Wg.idx (f := eInt) (xs := v17.1) (c := .unk) rfl rfl rfl rfl rfl rfl rfl lInt (by decide) hv37 ?_
          iterate 3 refine Wg.li rfl rfl rfl rfl (fun _ => rfl) ?_
          refine Wg.nil ⟨some_b hv35, ?_, rfl⟩
          repeat (first | exact Env.le_refl _ | refine Env.le_put rfl ?_)
        refine Wg.li rfl rfl rfl rfl (fun _ => rfl) ?_
        refine Wg.nil ⟨some_b hv33, ?_, rfl⟩
        repeat (first | exact Env.le_refl _ | refine Env.le_put rfl ?_)
      · have hv33 := iF hv33 hb34
        iterate 9 refine Wg.skip rfl rfl ?_
        refine Wg.li rfl rfl rfl rfl (fun _ => rfl) ?_
        refine Wg.nil ⟨some_b hv33, ?_, rfl⟩
        repeat (first | exact Env.le_refl _ | refine Env.le_put rfl ?_)
      refine Wg.li rfl rfl rfl rfl (fun _ => rfl) ?_
      refine Wg.nil ⟨some_b hv31, ?_, rfl⟩
      repeat (first | exact Env.le_refl _ | refine Env.le_put rfl ?_)
    refine Wg.nil ?_
    refine ⟨fun _ => ?_, fun h => absurd (by decide) h⟩
    refine Wp.cond v40 rfl (fun hb41 => ?_) (fun hb41 => ?_)
    · have h := iT h hb41
      refine Wp.seq ?_
      refine Wp.reg rfl ?_
      refine Wg.li rfl rfl rfl rfl (fun _ => rfl) ?_
      refine Wg.nil ?_
      refine ⟨fun _ => ?_, fun h => absurd (by decide) h⟩
      refine Wp.ret ?_
      refine ⟨fun h => absurd h (by decide), fun _ => ?_⟩
      have h := Option.some.inj h
      subst h
      exact ⟨.inr (by decide), _, rfl, rfl⟩
    · have h := iF h hb41
      refine Wp.skip ?_
      refine ⟨fun _ => ?_, fun h => absurd (by decide) h⟩
      refine Wp.seq ?_
      refine Wp.seq ?_
      refine Wp.reg rfl ?_
      iterate 3 refine Wg.li rfl rfl rfl rfl (fun _ => rfl) ?_
      obtain ⟨v42, hv42, h⟩ := ob h
      refine Wg.idx (f := (eLs eSpan)) (xs := a0.offices) (c := .unk) rfl rfl rfl rfl rfl rfl rfl lLs (by decide) hv42 ?_
      iterate 2 refine Wg.li rfl rfl rfl rfl (fun _ => rfl) ?_
      obtain ⟨v43, hv43, h⟩ := ob h
      refine Wg.call rfl rfl rfl rfl (s38_ev hv43 _) ?_
      iterate 3 refine Wg.li rfl rfl rfl rfl (fun _ => rfl) ?_
      obtain ⟨v48, hv44, h⟩ := ob h
      refine Wg.grp 10 140 130 v48 (!(v43 == v12)) rfl rfl (Nat.le_of_ble_eq_true rfl) (fun hb45 => ?_) (fun hb45 => ?_) ?_
      · have hv44 := iT hv44 hb45
        iterate 9 refine Wg.skip rfl rfl ?_
        refine Wg.li rfl rfl rfl rfl (fun _ => rfl) ?_
        refine Wg.nil ⟨some_b hv44, ?_, rfl⟩
        repeat (first | exact Env.le_refl _ | refine Env.le_put rfl ?_)
      · have hv44 := iF hv44 hb45
        iterate 3 refine Wg.li rfl rfl rfl rfl (fun _ => rfl) ?_
        obtain ⟨v46, hv46, hv44⟩ := ob hv44
        refine Wg.idx (f := (eLs eSpan)) (xs := a0.offices) (c := .unk) rfl rfl rfl rfl rfl rfl rfl lLs (by decide) hv46 ?_
        iterate 2 refine Wg.li rfl rfl rfl rfl (fun _ => rfl) ?_
        obtain ⟨v47, hv47, hv44⟩ := ob hv44
        refine Wg.call rfl rfl rfl rfl (s38_ev hv47 _) ?_
        iterate 3 refine Wg.li rfl rfl rfl rfl (fun _ => rfl) ?_
        refine Wg.nil ⟨some_b hv44, ?_, rfl⟩
        repeat (first | exact Env.le_refl _ | refine Env.le_put rfl ?_)
      refine Wg.nil ?_
      refine ⟨fun _ => ?_, fun h => absurd (by decide) h⟩
      refine Wp.cond v48 rfl (fun hb49 => ?_) (fun hb49 => ?_)
      · have h := iT h hb49
        refine Wp.seq ?_
        refine Wp.reg rfl ?_
        obtain ⟨v50, hv50, h⟩ := ob h
        refine Wg.call rfl rfl rfl rfl (s23_ev hv50 _) ?_
        refine Wg.li rfl rfl rfl rfl (fun _ => rfl) ?_
        refine Wg.nil ?_
        refine ⟨fun _ => ?_, fun h => absurd (by decide) h⟩
        refine Wp.ret ?_
        refine ⟨fun h => absurd h (by decide), fun _ => ?_⟩
        have h := Option.some.inj h
        subst h
        exact ⟨.inr (by decide), _, rfl, rfl⟩
      · have h := iF h hb49
        refine Wp.skip ?_
        refine ⟨fun _ => ?_, fun h => absurd (by decide) h⟩
        refine Wp.seq ?_
        refine Wp.reg rfl ?_
        iterate 3 refine Wg.li rfl rfl rfl rfl (fun _ => rfl) ?_
        have hv51 := ifOr (v16.2 == 4) (((v16.2 == 0) && (v15.2 == 0)) && (decide (v15.1 ≤ v16.1)))
        refine Wg.grp 12 156 144 ((v16.2 == 4) || (((v16.2 == 0) && (v15.2 == 0)) && (decide (v15.1 ≤ v16.1)))) (v16.2 == 4) rfl rfl (Nat.le_of_ble_eq_true rfl) (fun hb52 => ?_) (fun hb52 => ?_) ?_
        · have hv51 := iT hv51 hb52
          iterate 11 refine Wg.skip rfl rfl ?_
          refine Wg.li rfl rfl rfl rfl (fun _ => rfl) ?_
          refine Wg.nil ⟨some_b hv51, ?_, rfl⟩
          repeat (first | exact Env.le_refl _ | refine Env.le_put rfl ?_)
        · have hv51 := iF hv51 hb52
          iterate 3 refine Wg.li rfl rfl rfl rfl (fun _ => rfl) ?_
          have hv53 := ifAnd (v16.2 == 0) (v15.2 == 0)
          refine Wg.grp 3 150 147 ((v16.2 == 0) && (v15.2 == 0)) (v16.2 == 0) rfl rfl (Nat.le_of_ble_eq_true rfl) (fun hb54 => ?_) (fun hb54 => ?_) ?_
          · have hv53 := iT hv53 hb54
            iterate 3 refine Wg.li rfl rfl rfl rfl (fun _ => rfl) ?_
            refine Wg.nil ⟨some_b hv53, ?_, rfl⟩
            repeat (first | exact Env.le_refl _ | refine Env.le_put rfl ?_)
          · have hv53 := iF hv53 hb54
            iterate 2 refine Wg.skip rfl rfl ?_
            refine Wg.li rfl rfl rfl rfl (fun _ => rfl) ?_
            refine Wg.nil ⟨some_b hv53, ?_, rfl⟩
            repeat (first | exact Env.le_refl _ | refine Env.le_put rfl ?_)
          refine Wg.li rfl rfl rfl rfl (fun _ => rfl) ?_
          have hv55 := ifAnd ((v16.2 == 0) && (v15.2 == 0)) (decide (v15.1 ≤ v16.1))
          refine Wg.grp 4 155 151 (((v16.2 == 0) && (v15.2 == 0)) && (decide (v15.1 ≤ v16.1))) ((v16.2 == 0) && (v15.2 == 0)) rfl rfl (Nat.le_of_ble_eq_true rfl) (fun hb56 => ?_) (fun hb56 => ?_) ?_
          · have hv55 := iT hv55 hb56
            iterate 4 refine Wg.li rfl rfl rfl rfl (fun _ => rfl) ?_
            refine Wg.nil ⟨some_b hv55, ?_, rfl⟩
            repeat (first | exact Env.le_refl _ | refine Env.le_put rfl ?_)
          · have hv55 := iF hv55 hb56
            iterate 3 refine Wg.skip rfl rfl ?_
            refine Wg.li rfl rfl rfl rfl (fun _ => rfl) ?_
            refine Wg.nil ⟨some_b hv55, ?_, rfl⟩
            repeat (first | exact Env.le_refl _ | refine Env.le_put rfl ?_)
          refine Wg.li rfl rfl rfl rfl (fun _ => rfl) ?_
          refine Wg.nil ⟨some_b hv51, ?_, rfl⟩
          repeat (first | exact Env.le_refl _ | refine Env.le_put rfl ?_)
        refine Wg.li rfl rfl rfl rfl (fun _ => rfl) ?_
        obtain ⟨v60, hv57, h⟩ := ob h
        refine Wg.grp 2 159 157 v60 ((v16.2 == 4) || (((v16.2 == 0) && (v15.2 == 0)) && (decide (v15.1 ≤ v16.1)))) rfl rfl (Nat.le_of_ble_eq_true rfl) (fun hb58 => ?_) (fun hb58 => ?_) ?_
        · have hv57 := iT hv57 hb58
          obtain ⟨v59, hv59, hv57⟩ := ob hv57
          refine Wg.call rfl rfl rfl rfl (s23_ev hv59 _) ?_
          refine Wg.li rfl rfl rfl rfl (fun _ => rfl) ?_
          refine Wg.nil ⟨some_b hv57, ?_, rfl⟩
          repeat (first | exact Env.le_refl _ | refine Env.le_put rfl ?_)
        · have hv57 := iF hv57 hb58
          iterate 1 refine Wg.skip rfl rfl ?_
          refine Wg.li rfl rfl rfl rfl (fun _ => rfl) ?_
          refine Wg.nil ⟨some_b hv57, ?_, rfl⟩
          repeat (first | exact Env.le_refl _ | refine Env.le_put rfl ?_)
        refine Wg.li rfl rfl rfl rfl (fun _ => rfl) ?_
        refine Wg.nil ?_
        refine ⟨fun _ => ?_, fun h => absurd (by decide) h⟩
        refine Wp.ret ?_
        have h := Option.some.inj h
        subst h
        exact ⟨.inr (by decide), _, rfl, rfl⟩
end Go.Abs.Tr
