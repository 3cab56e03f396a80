/- Printed walk: the statement TrainTrue. Conditions: none. -/
import Derived.Test.YtdlofkamkiojlaaDoorXGl
set_option maxRecDepth 100000
set_option maxHeartbeats 1000000
set_option linter.unusedVariables false
namespace Go.Abs.Tr
open Go Go.Abs Go.Proofs
def s6 (N : Nat) (a0 : Table) (a1_0 : Int) (a1_1 : Int) (a1_2 : Int) (a2 : (List Int)) (a3 : (List Int)) : Option (Bool) :=
  (s35 N a0).bind fun v1 =>
  if ((!v1) || (decide ((a0.offices.length : Int) < 2))) then
    (s23 4000).bind fun v5 =>
    some v5
  else
    (s36 N a1_0 (a0.offices.length : Int)).bind fun v6 =>
    (ck (v6 + 1)).bind fun v7 =>
    (ck ((a0.offices.length : Int) - 1)).bind fun v8 =>
    (s36 N a1_1 v8).bind fun v9 =>
    (ck (v7 + v9)).bind fun v10 =>
    (s36 N v10 (a0.offices.length : Int)).bind fun v11 =>
    (s36 N a1_2 2880).bind fun v12 =>
    (s24 N a0 v6 v11 v12).bind fun v13 =>
    (s27 N a0 v6 v11 v12).bind fun v14 =>
    (s29 N a0 v6 v11 v12).bind fun v15 =>
    if (((!(v14.2 == v13.2)) || ((!(v13.2 == 0)) && (((!(v13.2 == 4)) || (!((v13.1.length : Int) == 0))) || (!(v14.1 == 0))))) || ((!(v15.2 == 0)) && ((!(v15.2 == 4)) || (v13.2 == 0)))) then
      some false
    else
      ((if (v13.2 == 0) then
        (s12 N a0 v13.1 v6 v11).bind fun v34 =>
        (if ((!(v34.2 == 0)) || (!v34.1)) then some true else 
          (s37 N a0 v13.1 v6 v11).bind fun v39 =>
          some (!v39)).bind fun v40 =>
        (if v40 then some true else 
          (ix a0.offices v6).bind fun v43 =>
          (s38 N v43 v12).bind fun v44 =>
          some (!(v44 == v12))).bind fun v45 =>
        if ((v45 || (decide (v14.1 > 2879))) || (decide (v15.1 > v14.1))) then
          some (.inr false)
        else
          (s40 N a0 a2).bind fun v51 =>
          (s39 N a0 v13.1 v12 v51).bind fun v52 =>
          (s21 N a0 v13.1 v12).bind fun v53 =>
          (if (((((decide (v52.1 < (v13.1.length : Int))) || (decide (v52.2 > v14.1))) || (decide (v52.2 < v15.1))) || (!(v53.2 == 0))) || (!(v53.1.high == v14.1))) then some true else 
            (s41 N v53.1 v52.2).bind fun v64 =>
            some (!v64)).bind fun v65 =>
          if v65 then
            some (.inr false)
          else
            some (.inl ())
      else
        some (.inl ()) : Option (Unit ⊕ Bool))).bind fun o31 => match o31 with
      | .inl s67 =>
        (s42 N a0 a3).bind fun v68 =>
        if ((((v68.1.length : Int) == 0) || (!(v68.2.1 == v6))) || (!(v68.2.2 == v11))) then
          (s23 4000).bind fun v74 =>
          some v74
        else
          (s16 N a0 v68.1 v12).bind fun v75 =>
          (s21 N a0 v68.1 v12).bind fun v76 =>
          if ((!(v75.2 == 0)) || ((v75.1 == 2) && (!(v76.2 == 0)))) then
            some false
          else
            (if (((!(v75.1 == 2)) || (v76.1.high == 2880)) || ((v13.2 == 0) && ((decide (v14.1 < v76.1.high)) || ((v14.1 == v76.1.high) && (decide ((v13.1.length : Int) ≤ (v68.1.length : Int))))))) then 
              (s23 4000).bind fun v94 =>
              some v94
             else some false).bind fun v95 =>
            some v95
      | .inr s96 =>
        some s96
abbrev F6 : Fr := { r := false, N := 288, m := 0 }
theorem at6 : ctx.P.funcs[6]? = some Tryd.f6 := by kernel_rfl
theorem s6_ev {N : Nat} {a0 : Table} {a1_0 : Int} {a1_1 : Int} {a1_2 : Int} {a2 : (List Int)} {a3 : (List Int)} {r : Bool} (h : s6 N a0 a1_0 a1_1 a1_2 a2 a3 = some r) : ∀ H, Ev ctx (.call 6 [.agg (eTable a0), .agg [.int .i64 a1_0, .int .i64 a1_1, .int .i64 a1_2], lst eInt a2 .unk, lst eInt a3 .unk] H (.bool r) H) := by
  refine Ev.of_pure at6 rfl rfl (Nat.le_of_ble_eq_true rfl) (pCons (pv (pTab _)) (pCons (pv (pCons (.int _ _) (pCons (.int _ _) (pCons (.int _ _) pNil)))) (pCons (Pure.lst pInt _ pUnk) (pCons (Pure.lst pInt _ pUnk) pNil)))) (.bool _) ?_
  unfold s6 at h
  refine Wp.seq ?_
  refine Wp.reg rfl ?_
  refine Wg.box rfl rfl rfl rfl ?_
  refine Wg.box rfl rfl rfl rfl ?_
  refine Wg.li rfl rfl rfl rfl (fun _ => rfl) ?_
  refine Wg.nil ?_
  refine ⟨fun _ => ?_, fun h => absurd (by decide) h⟩
  refine Wp.seq ?_
  refine Wp.seq ?_
  refine Wp.reg rfl ?_
  refine Wg.li rfl rfl rfl rfl (fun _ => rfl) ?_
  obtain ⟨v1, hv1, h⟩ := ob h
  refine Wg.call rfl rfl rfl rfl (s35_ev hv1 _) ?_
  iterate 2 refine Wg.li rfl rfl rfl rfl (fun _ => rfl) ?_
  have hv2 := ifOr (!v1) (decide ((a0.offices.length : Int) < 2))
  refine Wg.grp 5 38 33 ((!v1) || (decide ((a0.offices.length : Int) < 2))) (!v1) rfl rfl (Nat.le_of_ble_eq_true rfl) (fun hb3 => ?_) (fun hb3 => ?_) ?_
  · have hv2 := iT hv2 hb3
    iterate 4 refine Wg.skip rfl rfl ?_
    refine Wg.li rfl rfl rfl rfl (fun _ => rfl) ?_
    refine Wg.nil ⟨some_b hv2, ?_, rfl⟩
    repeat (first | exact Env.le_refl _ | refine Env.le_put rfl ?_)
  · have hv2 := iF hv2 hb3
    iterate 5 refine Wg.li rfl rfl rfl rfl (fun _ => rfl) ?_
    refine Wg.nil ⟨some_b hv2, ?_, rfl⟩
    repeat (first | exact Env.le_refl _ | refine Env.le_put rfl ?_)
  refine Wg.nil ?_
  refine ⟨fun _ => ?_, fun h => absurd (by decide) h⟩
  refine Wp.cond ((!v1) || (decide ((a0.offices.length : Int) < 2))) rfl (fun hb4 => ?_) (fun hb4 => ?_)
  · have h := iT h hb4
    refine Wp.seq ?_
    refine Wp.reg rfl ?_
    obtain ⟨v5, hv5, h⟩ := ob h
    refine Wg.call rfl rfl rfl rfl (s23_ev hv5 _) ?_
    refine Wg.li rfl rfl rfl rfl (fun _ => rfl) ?_
    refine Wg.nil ?_
    refine ⟨fun _ => ?_, fun h => absurd (by decide) h⟩
    refine Wp.ret ?_
    refine ⟨fun h => absurd h (by decide), fun _ => ?_⟩
    have h := Option.some.inj h
    subst h
    exact ⟨.inr (by decide), _, rfl, rfl⟩
  · have h := iF h hb4
    refine Wp.skip ?_
    refine ⟨fun _ => ?_, fun h => absurd (by decide) h⟩
    refine Wp.seq ?_
    refine Wp.reg rfl ?_
    iterate 5 refine Wg.li rfl rfl rfl rfl (fun _ => rfl) ?_
    obtain ⟨v6, hv6, h⟩ := ob h
    refine Wg.call rfl rfl rfl rfl (s36_ev hv6 _) ?_
    refine Wg.li rfl rfl rfl rfl (fun _ => rfl) ?_
    refine Wg.nil ?_
    refine ⟨fun _ => ?_, fun h => absurd (by decide) h⟩
    refine Wp.seq ?_
    refine Wp.drw _ [3, 5, 11] rfl (by kernel_rfl) (Nat.le_refl _) ?_
    refine Wg.li rfl rfl rfl rfl (fun _ => rfl) ?_
    obtain ⟨v7, hv7, h⟩ := ob h
    refine Wg.bin (k := .i64) (k2 := .i64) (a := v6) (b := 1) rfl rfl rfl rfl rfl (bAdd hv7) ?_
    iterate 5 refine Wg.li rfl rfl rfl rfl (fun _ => rfl) ?_
    obtain ⟨v8, hv8, h⟩ := ob h
    refine Wg.bin (k := .i64) (k2 := .i64) (a := (a0.offices.length : Int)) (b := 1) rfl rfl rfl rfl rfl (bSub hv8) ?_
    obtain ⟨v9, hv9, h⟩ := ob h
    refine Wg.call rfl rfl rfl rfl (s36_ev hv9 _) ?_
    obtain ⟨v10, hv10, h⟩ := ob h
    refine Wg.bin (k := .i64) (k2 := .i64) (a := v7) (b := v9) rfl rfl rfl rfl rfl (bAdd hv10) ?_
    iterate 3 refine Wg.li rfl rfl rfl rfl (fun _ => rfl) ?_
    obtain ⟨v11, hv11, h⟩ := ob h
    refine Wg.call rfl rfl rfl rfl (s36_ev hv11 _) ?_
    refine Wg.li rfl rfl rfl rfl (fun _ => rfl) ?_
    refine Wg.nil ?_
    refine ⟨fun _ => ?_, fun h => absurd (by decide) h⟩
    refine Wp.seq ?_
    refine Wp.reg rfl ?_
    iterate 2 refine Wg.li rfl rfl rfl rfl (fun _ => rfl) ?_
    obtain ⟨v12, hv12, h⟩ := ob h
    refine Wg.call rfl rfl rfl rfl (s36_ev hv12 _) ?_
    refine Wg.li rfl rfl rfl rfl (fun _ => rfl) ?_
    refine Wg.nil ?_
    refine ⟨fun _ => ?_, fun h => absurd (by decide) h⟩
    refine Wp.seq ?_
    refine Wp.reg rfl ?_
    iterate 4 refine Wg.li rfl rfl rfl rfl (fun _ => rfl) ?_
    obtain ⟨v13, hv13, h⟩ := ob h
    refine Wg.call rfl rfl rfl rfl (s24_ev hv13 _) ?_
    iterate 5 refine Wg.li rfl rfl rfl rfl (fun _ => rfl) ?_
    refine Wg.nil ?_
    refine ⟨fun _ => ?_, fun h => absurd (by decide) h⟩
    refine Wp.seq ?_
    refine Wp.reg rfl ?_
    iterate 4 refine Wg.li rfl rfl rfl rfl (fun _ => rfl) ?_
    obtain ⟨v14, hv14, h⟩ := ob h
    refine Wg.call rfl rfl rfl rfl (s27_ev hv14 _) ?_
    iterate 5 refine Wg.li rfl rfl rfl rfl (fun _ => rfl) ?_
    refine Wg.nil ?_
    refine ⟨fun _ => ?_, fun h => absurd (by decide) h⟩
    refine Wp.seq ?_
    refine Wp.reg rfl ?_
    iterate 4 refine Wg.li rfl rfl rfl rfl (fun _ => rfl) ?_
    obtain ⟨v15, hv15, h⟩ := ob h
    refine Wg.call rfl rfl rfl rfl (s29_ev hv15 _) ?_
    iterate 5 refine Wg.li rfl rfl rfl rfl (fun _ => rfl) ?_
    refine Wg.nil ?_
    refine ⟨fun _ => ?_, fun h => absurd (by decide) h⟩
    refine Wp.seq ?_
    refine Wp.seq ?_
    refine Wp.reg rfl ?_
    iterate 4 refine Wg.li rfl rfl rfl rfl (fun _ => rfl) ?_
    have hv16 := ifOr (!(v14.2 == v13.2)) ((!(v13.2 == 0)) && (((!(v13.2 == 4)) || (!((v13.1.length : Int) == 0))) || (!(v14.1 == 0))))
    refine Wg.grp 16 106 90 ((!(v14.2 == v13.2)) || ((!(v13.2 == 0)) && (((!(v13.2 == 4)) || (!((v13.1.length : Int) == 0))) || (!(v14.1 == 0))))) (!(v14.2 == v13.2)) rfl rfl (Nat.le_of_ble_eq_true rfl) (fun hb17 => ?_) (fun hb17 => ?_) ?_
    · have hv16 := iT hv16 hb17
      iterate 15 refine Wg.skip rfl rfl ?_
      refine Wg.li rfl rfl rfl rfl (fun _ => rfl) ?_
      refine Wg.nil ⟨some_b hv16, ?_, rfl⟩
      repeat (first | exact Env.le_refl _ | refine Env.le_put rfl ?_)
    · have hv16 := iF hv16 hb17
      iterate 3 refine Wg.li rfl rfl rfl rfl (fun _ => rfl) ?_
      have hv18 := ifAnd (!(v13.2 == 0)) (((!(v13.2 == 4)) || (!((v13.1.length : Int) == 0))) || (!(v14.1 == 0)))
      refine Wg.grp 12 105 93 ((!(v13.2 == 0)) && (((!(v13.2 == 4)) || (!((v13.1.length : Int) == 0))) || (!(v14.1 == 0)))) (!(v13.2 == 0)) rfl rfl (Nat.le_of_ble_eq_true rfl) (fun hb19 => ?_) (fun hb19 => ?_) ?_
      · have hv18 := iT hv18 hb19
        iterate 3 refine Wg.li rfl rfl rfl rfl (fun _ => rfl) ?_
        have hv20 := ifOr (!(v13.2 == 4)) (!((v13.1.length : Int) == 0))
        refine Wg.grp 4 100 96 ((!(v13.2 == 4)) || (!((v13.1.length : Int) == 0))) (!(v13.2 == 4)) rfl rfl (Nat.le_of_ble_eq_true rfl) (fun hb21 => ?_) (fun hb21 => ?_) ?_
        · have hv20 := iT hv20 hb21
          iterate 3 refine Wg.skip rfl rfl ?_
          refine Wg.li rfl rfl rfl rfl (fun _ => rfl) ?_
          refine Wg.nil ⟨some_b hv20, ?_, rfl⟩
          repeat (first | exact Env.le_refl _ | refine Env.le_put rfl ?_)
        · have hv20 := iF hv20 hb21
          iterate 4 refine Wg.li rfl rfl rfl rfl (fun _ => rfl) ?_
          refine Wg.nil ⟨some_b hv20, ?_, rfl⟩
          repeat (first | exact Env.le_refl _ | refine Env.le_put rfl ?_)
        refine Wg.li rfl rfl rfl rfl (fun _ => rfl) ?_
        have hv22 := ifOr ((!(v13.2 == 4)) || (!((v13.1.length : Int) == 0))) (!(v14.1 == 0))
        refine Wg.grp 3 104 101 (((!(v13.2 == 4)) || (!((v13.1.length : Int) == 0))) || (!(v14.1 == 0))) ((!(v13.2 == 4)) || (!((v13.1.length : Int) == 0))) rfl rfl (Nat.le_of_ble_eq_true rfl) (fun hb23 => ?_) (fun hb23 => ?_) ?_
        · have hv22 := iT hv22 hb23
          iterate 2 refine Wg.skip rfl rfl ?_
          refine Wg.li rfl rfl rfl rfl (fun _ => rfl) ?_
          refine Wg.nil ⟨some_b hv22, ?_, rfl⟩
          repeat (first | exact Env.le_refl _ | refine Env.le_put rfl ?_)
        · have hv22 := iF hv22 hb23
          iterate 3 refine Wg.li rfl rfl rfl rfl (fun _ => rfl) ?_
          refine Wg.nil ⟨some_b hv22, ?_, rfl⟩
          repeat (first | exact Env.le_refl _ | refine Env.le_put rfl ?_)
        refine Wg.li rfl rfl rfl rfl (fun _ => rfl) ?_
        refine Wg.nil ⟨some_b hv18, ?_, rfl⟩
        repeat (first | exact Env.le_refl _ | refine Env.le_put rfl ?_)
      · have hv18 := iF hv18 hb19
        iterate 11 refine Wg.skip rfl rfl ?_
        refine Wg.li rfl rfl rfl rfl (fun _ => rfl) ?_
        refine Wg.nil ⟨some_b hv18, ?_, rfl⟩
        repeat (first | exact Env.le_refl _ | refine Env.le_put rfl ?_)
      refine Wg.li rfl rfl rfl rfl (fun _ => rfl) ?_
      refine Wg.nil ⟨some_b hv16, ?_, rfl⟩
      repeat (first | exact Env.le_refl _ | refine Env.le_put rfl ?_)
    refine Wg.li rfl rfl rfl rfl (fun _ => rfl) ?_
    have hv24 := ifOr ((!(v14.2 == v13.2)) || ((!(v13.2 == 0)) && (((!(v13.2 == 4)) || (!((v13.1.length : Int) == 0))) || (!(v14.1 == 0))))) ((!(v15.2 == 0)) && ((!(v15.2 == 4)) || (v13.2 == 0)))
    refine Wg.grp 11 118 107 (((!(v14.2 == v13.2)) || ((!(v13.2 == 0)) && (((!(v13.2 == 4)) || (!((v13.1.length : Int) == 0))) || (!(v14.1 == 0))))) || ((!(v15.2 == 0)) && ((!(v15.2 == 4)) || (v13.2 == 0)))) ((!(v14.2 == v13.2)) || ((!(v13.2 == 0)) && (((!(v13.2 == 4)) || (!((v13.1.length : Int) == 0))) || (!(v14.1 == 0))))) rfl rfl (Nat.le_of_ble_eq_true rfl) (fun hb25 => ?_) (fun hb25 => ?_) ?_
    · have hv24 := iT hv24 hb25
      iterate 10 refine Wg.skip rfl rfl ?_
      refine Wg.li rfl rfl rfl rfl (fun _ => rfl) ?_
      refine Wg.nil ⟨some_b hv24, ?_, rfl⟩
      repeat (first | exact Env.le_refl _ | refine Env.le_put rfl ?_)
    · have hv24 := iF hv24 hb25
      iterate 3 refine Wg.li rfl rfl rfl rfl (fun _ => rfl) ?_
      have hv26 := ifAnd (!(v15.2 == 0)) ((!(v15.2 == 4)) || (v13.2 == 0))
      refine Wg.grp 7 117 110 ((!(v15.2 == 0)) && ((!(v15.2 == 4)) || (v13.2 == 0))) (!(v15.2 == 0)) rfl rfl (Nat.le_of_ble_eq_true rfl) (fun hb27 => ?_) (fun hb27 => ?_) ?_
      · have hv26 := iT hv26 hb27
        iterate 3 refine Wg.li rfl rfl rfl rfl (fun _ => rfl) ?_
        have hv28 := ifOr (!(v15.2 == 4)) (v13.2 == 0)
        refine Wg.grp 3 116 113 ((!(v15.2 == 4)) || (v13.2 == 0)) (!(v15.2 == 4)) rfl rfl (Nat.le_of_ble_eq_true rfl) (fun hb29 => ?_) (fun hb29 => ?_) ?_
        · have hv28 := iT hv28 hb29
          iterate 2 refine Wg.skip rfl rfl ?_
          refine Wg.li rfl rfl rfl rfl (fun _ => rfl) ?_
          refine Wg.nil ⟨some_b hv28, ?_, rfl⟩
          repeat (first | exact Env.le_refl _ | refine Env.le_put rfl ?_)
        · have hv28 := iF hv28 hb29
          iterate 3 refine Wg.li rfl rfl rfl rfl (fun _ => rfl) ?_
          refine Wg.nil ⟨some_b hv28, ?_, rfl⟩
          repeat (first | exact Env.le_refl _ | refine Env.le_put rfl ?_)
        refine Wg.li rfl rfl rfl rfl (fun _ => rfl) ?_
        refine Wg.nil ⟨some_b hv26, ?_, rfl⟩
        repeat (first | exact Env.le_refl _ | refine Env.le_put rfl ?_)
      · have hv26 := iF hv26 hb27
        iterate 6 refine Wg.skip rfl rfl ?_
        refine Wg.li rfl rfl rfl rfl (fun _ => rfl) ?_
        refine Wg.nil ⟨some_b hv26, ?_, rfl⟩
        repeat (first | exact Env.le_refl _ | refine Env.le_put rfl ?_)
      refine Wg.li rfl rfl rfl rfl (fun _ => rfl) ?_
      refine Wg.nil ⟨some_b hv24, ?_, rfl⟩
      repeat (first | exact Env.le_refl _ | refine Env.le_put rfl ?_)
    refine Wg.nil ?_
    refine ⟨fun _ => ?_, fun h => absurd (by decide) h⟩
    refine Wp.cond (((!(v14.2 == v13.2)) || ((!(v13.2 == 0)) && (((!(v13.2 == 4)) || (!((v13.1.length : Int) == 0))) || (!(v14.1 == 0))))) || ((!(v15.2 == 0)) && ((!(v15.2 == 4)) || (v13.2 == 0)))) rfl (fun hb30 => ?_) (fun hb30 => ?_)
    · have h := iT h hb30
      refine Wp.seq ?_
      refine Wp.reg rfl ?_
      refine Wg.li rfl rfl rfl rfl (fun _ => rfl) ?_
      refine Wg.nil ?_
      refine ⟨fun _ => ?_, fun h => absurd (by decide) h⟩
      refine Wp.ret ?_
      refine ⟨fun h => absurd h (by decide), fun _ => ?_⟩
      have h := Option.some.inj h
      subst h
      exact ⟨.inr (by decide), _, rfl, rfl⟩
    · have h := iF h hb30
      refine Wp.skip ?_
      refine ⟨fun _ => ?_, fun h => absurd (by decide) h⟩
      refine Wp.seq ?_
      refine Wp.seq ?_
      refine Wp.reg rfl ?_
      iterate 2 refine Wg.li rfl rfl rfl rfl (fun _ => rfl) ?_
      refine Wg.nil ?_
      refine ⟨fun _ => ?_, fun h => absurd (by decide) h⟩
      obtain ⟨o31, hx32, h⟩ := ob h
      refine Wp.after (Q' := fun x e' H' => match o31 with | .inl s => x = .normal ∧ Sub ctx F6 (Env.ofList [(3, lst eInt a3 .unk), (4, .ro (eTable a0)), (9, .int .i64 v6), (10, .int .i64 v11), (11, .int .i64 v12), (12, lst eLeg v13.1 .unk), (13, .int .i64 v13.2), (14, .int .i64 v14.1)]) (hp []) e' H' | .inr s => x = .ret ∧ ∃ vs, resA ctx e' H' [.tmp 8] = some vs ∧ retA vs = .bool s) ?_ ?_
      · refine Wp.cond (v13.2 == 0) rfl (fun hb33 => ?_) (fun hb33 => ?_)
        · have hx32 := iT hx32 hb33
          refine Wp.seq ?_
          refine Wp.reg rfl ?_
          iterate 4 refine Wg.li rfl rfl rfl rfl (fun _ => rfl) ?_
          obtain ⟨v34, hv34, hx32⟩ := ob hx32
          refine Wg.call rfl rfl rfl rfl (s12_ev hv34 _) ?_
          iterate 5 refine Wg.li rfl rfl rfl rfl (fun _ => rfl) ?_
          refine Wg.nil ?_
          refine ⟨fun _ => ?_, fun h => absurd (by decide) h⟩
          refine Wp.seq ?_
          refine Wp.seq ?_
          refine Wp.reg rfl ?_
          iterate 3 refine Wg.li rfl rfl rfl rfl (fun _ => rfl) ?_
          have hv35 := ifOr (!(v34.2 == 0)) (!v34.1)
          refine Wg.grp 3 134 131 ((!(v34.2 == 0)) || (!v34.1)) (!(v34.2 == 0)) rfl rfl (Nat.le_of_ble_eq_true rfl) (fun hb36 => ?_) (fun hb36 => ?_) ?_
          · have hv35 := iT hv35 hb36
            iterate 2 refine Wg.skip rfl rfl ?_
            refine Wg.li rfl rfl rfl rfl (fun _ => rfl) ?_
            refine Wg.nil ⟨some_b hv35, ?_, rfl⟩
            repeat (first | exact Env.le_refl _ | refine Env.le_put rfl ?_)
          · have hv35 := iF hv35 hb36
            iterate 3 refine Wg.li rfl rfl rfl rfl (fun _ => rfl) ?_
            refine Wg.nil ⟨some_b hv35, ?_, rfl⟩
            repeat (first | exact Env.le_refl _ | refine Env.le_put rfl ?_)
          refine Wg.li rfl rfl rfl rfl (fun _ => rfl) ?_
          obtain ⟨v40, hv37, hx32⟩ := ob hx32
          refine Wg.grp 7 142 135 v40 ((!(v34.2 == 0)) || (!v34.1)) rfl rfl (Nat.le_of_ble_eq_true rfl) (fun hb38 => ?_) (fun hb38 => ?_) ?_
          · have hv37 := iT hv37 hb38
            iterate 6 refine Wg.skip rfl rfl ?_
            refine Wg.li rfl rfl rfl rfl (fun _ => rfl) ?_
            refine Wg.nil ⟨some_b hv37, ?_, rfl⟩
            repeat (first | exact Env.le_refl _ | refine Env.le_put rfl ?_)
          · have hv37 := iF hv37 hb38
            iterate 4 refine Wg.li rfl rfl rfl rfl (fun _ => rfl) ?_
            obtain ⟨v39, hv39, hv37⟩ := ob hv37
            refine Wg.call rfl rfl rfl rfl (s37_ev hv39 _) ?_
            iterate 2 refine Wg.li rfl rfl rfl rfl (fun _ => rfl) ?_
            refine Wg.nil ⟨some_b hv37, ?_, rfl⟩
            repeat (first | exact Env.le_refl _ | refine Env.le_put rfl ?_)
          refine Wg.li rfl rfl rfl rfl (fun _ => rfl) ?_
          obtain ⟨v45, hv41, hx32⟩ := ob hx32
          refine Wg.grp 10 153 143 v45 v40 rfl rfl (Nat.le_of_ble_eq_true rfl) (fun hb42 => ?_) (fun hb42 => ?_) ?_
          · have hv41 := iT hv41 hb42
            iterate 9 refine Wg.skip rfl rfl ?_
            refine Wg.li rfl rfl rfl rfl (fun _ => rfl) ?_
            refine Wg.nil ⟨some_b hv41, ?_, rfl⟩
            repeat (first | exact Env.le_refl _ | refine Env.le_put rfl ?_)
          · have hv41 := iF hv41 hb42
            iterate 3 refine Wg.li rfl rfl rfl rfl (fun _ => rfl) ?_
            obtain ⟨v43, hv43, hv41⟩ := ob hv41
            refine Wg.idx (f := (eLs eSpan)) (xs := a0.offices) (c := .unk) rfl rfl rfl rfl rfl rfl rfl lLs (by decide) hv43 ?_
            iterate 2 refine Wg.li rfl rfl rfl rfl (fun _ => rfl) ?_
            obtain ⟨v44, hv44, hv41⟩ := ob hv41
            refine Wg.call rfl rfl rfl rfl (s38_ev hv44 _) ?_
            iterate 3 refine Wg.li rfl rfl rfl rfl (fun _ => rfl) ?_
            refine Wg.nil ⟨some_b hv41, ?_, rfl⟩
            repeat (first | exact Env.le_refl _ | refine Env.le_put rfl ?_)
          refine Wg.li rfl rfl rfl rfl (fun _ => rfl) ?_
          have hv46 := ifOr v45 (decide (v14.1 > 2879))
          refine Wg.grp 3 157 154 (v45 || (decide (v14.1 > 2879))) v45 rfl rfl (Nat.le_of_ble_eq_true rfl) (fun hb47 => ?_) (fun hb47 => ?_) ?_
          · have hv46 := iT hv46 hb47
            iterate 2 refine Wg.skip rfl rfl ?_
            refine Wg.li rfl rfl rfl rfl (fun _ => rfl) ?_
            refine Wg.nil ⟨some_b hv46, ?_, rfl⟩
            repeat (first | exact Env.le_refl _ | refine Env.le_put rfl ?_)
          · have hv46 := iF hv46 hb47
            iterate 3 refine Wg.li rfl rfl rfl rfl (fun _ => rfl) ?_
            refine Wg.nil ⟨some_b hv46, ?_, rfl⟩
            repeat (first | exact Env.le_refl _ | refine Env.le_put rfl ?_)
          refine Wg.li rfl rfl rfl rfl (fun _ => rfl) ?_
          have hv48 := ifOr (v45 || (decide (v14.1 > 2879))) (decide (v15.1 > v14.1))
          refine Wg.grp 4 162 158 ((v45 || (decide (v14.1 > 2879))) || (decide (v15.1 > v14.1))) (v45 || (decide (v14.1 > 2879))) rfl rfl (Nat.le_of_ble_eq_true rfl) (fun hb49 => ?_) (fun hb49 => ?_) ?_
          · have hv48 := iT hv48 hb49
            iterate 3 refine Wg.skip rfl rfl ?_
            refine Wg.li rfl rfl rfl rfl (fun _ => rfl) ?_
            refine Wg.nil ⟨some_b hv48, ?_, rfl⟩
            repeat (first | exact Env.le_refl _ | refine Env.le_put rfl ?_)
          · have hv48 := iF hv48 hb49
            iterate 4 refine Wg.li rfl rfl rfl rfl (fun _ => rfl) ?_
            refine Wg.nil ⟨some_b hv48, ?_, rfl⟩
            repeat (first | exact Env.le_refl _ | refine Env.le_put rfl ?_)
          refine Wg.nil ?_
          refine ⟨fun _ => ?_, fun h => absurd (by decide) h⟩
          refine Wp.cond ((v45 || (decide (v14.1 > 2879))) || (decide (v15.1 > v14.1))) rfl (fun hb50 => ?_) (fun hb50 => ?_)
          · have hx32 := iT hx32 hb50
            refine Wp.seq ?_
            refine Wp.reg rfl ?_
            refine Wg.li rfl rfl rfl rfl (fun _ => rfl) ?_
            refine Wg.nil ?_
            refine ⟨fun _ => ?_, fun h => absurd (by decide) h⟩
            refine Wp.ret ?_
            refine ⟨fun h => absurd h (by decide), fun _ => ?_⟩
            have hx32 := Option.some.inj hx32
            subst hx32
            exact ⟨by decide, _, rfl, rfl⟩
          · have hx32 := iF hx32 hb50
            refine Wp.skip ?_
            refine ⟨fun _ => ?_, fun h => absurd (by decide) h⟩
            refine Wp.seq ?_
            refine Wp.drw _ [0, 3] rfl (by kernel_rfl) (Nat.le_refl _) ?_
            iterate 5 refine Wg.li rfl rfl rfl rfl (fun _ => rfl) ?_
            obtain ⟨v51, hv51, hx32⟩ := ob hx32
            refine Wg.call rfl rfl rfl rfl (s40_ev hv51 _) ?_
            obtain ⟨v52, hv52, hx32⟩ := ob hx32
            refine Wg.call rfl rfl rfl rfl (s39_ev hv52 _) ?_
            iterate 5 refine Wg.li rfl rfl rfl rfl (fun _ => rfl) ?_
            refine Wg.nil ?_
            refine ⟨fun _ => ?_, fun h => absurd (by decide) h⟩
            refine Wp.seq ?_
            refine Wp.reg rfl ?_
            iterate 3 refine Wg.li rfl rfl rfl rfl (fun _ => rfl) ?_
            obtain ⟨v53, hv53, hx32⟩ := ob hx32
            refine Wg.call rfl rfl rfl rfl (s21_ev hv53 _) ?_
            iterate 3 refine Wg.li rfl rfl rfl rfl (fun _ => rfl) ?_
            refine Wg.alloc rfl rfl rfl rfl ?_
            refine Wg.heavy true (Nat.le_of_ble_eq_true rfl) rfl rfl rfl rfl ?_
            refine Wg.li rfl rfl rfl rfl (fun _ => rfl) ?_
            refine Wg.nil ?_
            refine ⟨fun _ => ?_, fun h => absurd (by decide) h⟩
            refine Wp.seq ?_
            refine Wp.reg rfl ?_
            iterate 5 refine Wg.li rfl rfl rfl rfl (fun _ => rfl) ?_
            have hv54 := ifOr (decide (v52.1 < (v13.1.length : Int))) (decide (v52.2 > v14.1))
            refine Wg.grp 4 188 184 ((decide (v52.1 < (v13.1.length : Int))) || (decide (v52.2 > v14.1))) (decide (v52.1 < (v13.1.length : Int))) rfl rfl (Nat.le_of_ble_eq_true rfl) (fun hb55 => ?_) (fun hb55 => ?_) ?_
            · have hv54 := iT hv54 hb55
              iterate 3 refine Wg.skip rfl rfl ?_
              refine Wg.li rfl rfl rfl rfl (fun _ => rfl) ?_
              refine Wg.nil ⟨some_b hv54, ?_, rfl⟩
              repeat (first | exact Env.le_refl _ | refine Env.le_put rfl ?_)
            · have hv54 := iF hv54 hb55
              iterate 4 refine Wg.li rfl rfl rfl rfl (fun _ => rfl) ?_
              refine Wg.nil ⟨some_b hv54, ?_, rfl⟩
              repeat (first | exact Env.le_refl _ | refine Env.le_put rfl ?_)
            refine Wg.li rfl rfl rfl rfl (fun _ => rfl) ?_
            have hv56 := ifOr ((decide (v52.1 < (v13.1.length : Int))) || (decide (v52.2 > v14.1))) (decide (v52.2 < v15.1))
            refine Wg.grp 4 193 189 (((decide (v52.1 < (v13.1.length : Int))) || (decide (v52.2 > v14.1))) || (decide (v52.2 < v15.1))) ((decide (v52.1 < (v13.1.length : Int))) || (decide (v52.2 > v14.1))) rfl rfl (Nat.le_of_ble_eq_true rfl) (fun hb57 => ?_) (fun hb57 => ?_) ?_
            · have hv56 := iT hv56 hb57
              iterate 3 refine Wg.skip rfl rfl ?_
              refine Wg.li rfl rfl rfl rfl (fun _ => rfl) ?_
              refine Wg.nil ⟨some_b hv56, ?_, rfl⟩
              repeat (first | exact Env.le_refl _ | refine Env.le_put rfl ?_)
            · have hv56 := iF hv56 hb57
              iterate 4 refine Wg.li rfl rfl rfl rfl (fun _ => rfl) ?_
              refine Wg.nil ⟨some_b hv56, ?_, rfl⟩
              repeat (first | exact Env.le_refl _ | refine Env.le_put rfl ?_)
            refine Wg.li rfl rfl rfl rfl (fun _ => rfl) ?_
            have hv58 := ifOr (((decide (v52.1 < (v13.1.length : Int))) || (decide (v52.2 > v14.1))) || (decide (v52.2 < v15.1))) (!(v53.2 == 0))
            refine Wg.grp 3 197 194 ((((decide (v52.1 < (v13.1.length : Int))) || (decide (v52.2 > v14.1))) || (decide (v52.2 < v15.1))) || (!(v53.2 == 0))) (((decide (v52.1 < (v13.1.length : Int))) || (decide (v52.2 > v14.1))) || (decide (v52.2 < v15.1))) rfl rfl (Nat.le_of_ble_eq_true rfl) (fun hb59 => ?_) (fun hb59 => ?_) ?_
            · have hv58 := iT hv58 hb59
              iterate 2 refine Wg.skip rfl rfl ?_
              refine Wg.li rfl rfl rfl rfl (fun _ => rfl) ?_
              refine Wg.nil ⟨some_b hv58, ?_, rfl⟩
              repeat (first | exact Env.le_refl _ | refine Env.le_put rfl ?_)
            · have hv58 := iF hv58 hb59
              iterate 3 refine Wg.li rfl rfl rfl rfl (fun _ => rfl) ?_
              refine Wg.nil ⟨some_b hv58, ?_, rfl⟩
              repeat (first | exact Env.le_refl _ | refine Env.le_put rfl ?_)
            refine Wg.li rfl rfl rfl rfl (fun _ => rfl) ?_
            have hv60 := ifOr ((((decide (v52.1 < (v13.1.length : Int))) || (decide (v52.2 > v14.1))) || (decide (v52.2 < v15.1))) || (!(v53.2 == 0))) (!(v53.1.high == v14.1))
            refine Wg.grp 5 203 198 (((((decide (v52.1 < (v13.1.length : Int))) || (decide (v52.2 > v14.1))) || (decide (v52.2 < v15.1))) || (!(v53.2 == 0))) || (!(v53.1.high == v14.1))) ((((decide (v52.1 < (v13.1.length : Int))) || (decide (v52.2 > v14.1))) || (decide (v52.2 < v15.1))) || (!(v53.2 == 0))) rfl rfl (Nat.le_of_ble_eq_true rfl) (fun hb61 => ?_) (fun hb61 => ?_) ?_
            · have hv60 := iT hv60 hb61
              iterate 4 refine Wg.skip rfl rfl ?_
              refine Wg.li rfl rfl rfl rfl (fun _ => rfl) ?_
              refine Wg.nil ⟨some_b hv60, ?_, rfl⟩
              repeat (first | exact Env.le_refl _ | refine Env.le_put rfl ?_)
            · have hv60 := iF hv60 hb61
              refine Wg.li rfl rfl rfl rfl (fun _ => rfl) ?_
              refine Wg.ld rfl rfl rfl rfl rfl rfl ?_
              iterate 3 refine Wg.li rfl rfl rfl rfl (fun _ => rfl) ?_
              refine Wg.nil ⟨some_b hv60, ?_, rfl⟩
              repeat (first | exact Env.le_refl _ | refine Env.le_put rfl ?_)
            refine Wg.li rfl rfl rfl rfl (fun _ => rfl) ?_
            obtain ⟨v65, hv62, hx32⟩ := ob hx32
            refine Wg.grp 5 209 204 v65 (((((decide (v52.1 < (v13.1.length : Int))) || (decide (v52.2 > v14.1))) || (decide (v52.2 < v15.1))) || (!(v53.2 == 0))) || (!(v53.1.high == v14.1))) rfl rfl (Nat.le_of_ble_eq_true rfl) (fun hb63 => ?_) (fun hb63 => ?_) ?_
            · have hv62 := iT hv62 hb63
              iterate 4 refine Wg.skip rfl rfl ?_
              refine Wg.li rfl rfl rfl rfl (fun _ => rfl) ?_
              refine Wg.nil ⟨some_b hv62, ?_, rfl⟩
              repeat (first | exact Env.le_refl _ | refine Env.le_put rfl ?_)
            · have hv62 := iF hv62 hb63
              refine Wg.ld rfl rfl rfl rfl rfl rfl ?_
              refine Wg.li rfl rfl rfl rfl (fun _ => rfl) ?_
              obtain ⟨v64, hv64, hv62⟩ := ob hv62
              refine Wg.call rfl rfl rfl rfl (s41_ev hv64 _) ?_
              iterate 2 refine Wg.li rfl rfl rfl rfl (fun _ => rfl) ?_
              refine Wg.nil ⟨some_b hv62, ?_, rfl⟩
              repeat (first | exact Env.le_refl _ | refine Env.le_put rfl ?_)
            refine Wg.nil ?_
            refine ⟨fun _ => ?_, fun h => absurd (by decide) h⟩
            refine Wp.cond v65 rfl (fun hb66 => ?_) (fun hb66 => ?_)
            · have hx32 := iT hx32 hb66
              refine Wp.seq ?_
              refine Wp.reg rfl ?_
              refine Wg.li rfl rfl rfl rfl (fun _ => rfl) ?_
              refine Wg.nil ?_
              refine ⟨fun _ => ?_, fun h => absurd (by decide) h⟩
              refine Wp.ret ?_
              have hx32 := Option.some.inj hx32
              subst hx32
              exact ⟨by decide, _, rfl, rfl⟩
            · have hx32 := iF hx32 hb66
              refine Wp.skip ?_
              have hx32 := Option.some.inj hx32
              subst hx32
              exact ⟨by decide, (Sub.canon [] [] [(3, lst eInt a3 .unk), (4, .ro (eTable a0)), (9, .int .i64 v6), (10, .int .i64 v11), (11, .int .i64 v12), (12, lst eLeg v13.1 .unk), (13, .int .i64 v13.2), (14, .int .i64 v14.1)] rfl (by decide) trivial (.pure rfl (Pure.lst pInt _ pUnk) (.pure rfl (.ro (pTab _)) (.pure rfl (.int _ _) (.pure rfl (.int _ _) (.pure rfl (.int _ _) (.pure rfl (Pure.lst pLeg _ pUnk) (.pure rfl (.int _ _) (.pure rfl (.int _ _) .nil)))))))))⟩
        · have hx32 := iF hx32 hb33
          refine Wp.skip ?_
          have hx32 := Option.some.inj hx32
          subst hx32
          exact ⟨by decide, (Sub.canon [] [] [(3, lst eInt a3 .unk), (4, .ro (eTable a0)), (9, .int .i64 v6), (10, .int .i64 v11), (11, .int .i64 v12), (12, lst eLeg v13.1 .unk), (13, .int .i64 v13.2), (14, .int .i64 v14.1)] rfl (by decide) trivial (.pure rfl (Pure.lst pInt _ pUnk) (.pure rfl (.ro (pTab _)) (.pure rfl (.int _ _) (.pure rfl (.int _ _) (.pure rfl (.int _ _) (.pure rfl (Pure.lst pLeg _ pUnk) (.pure rfl (.int _ _) (.pure rfl (.int _ _) .nil)))))))))⟩
      · intro x e' H' hP
        rcases o31 with s67 | s96
        · obtain ⟨hPx, hP2⟩ := hP
          subst hPx
          have hP := And.intro (True.intro) hP2
          refine ⟨fun _ => ?_, fun h => absurd (by decide) h⟩
          refine Sub.use hP.2 ?_
          refine Wp.seq ?_
          refine Wp.reg rfl ?_
          iterate 2 refine Wg.li rfl rfl rfl rfl (fun _ => rfl) ?_
          obtain ⟨v68, hv68, h⟩ := ob h
          refine Wg.call rfl rfl rfl rfl (s42_ev hv68 _) ?_
          iterate 7 refine Wg.li rfl rfl rfl rfl (fun _ => rfl) ?_
          refine Wg.nil ?_
          refine ⟨fun _ => ?_, fun h => absurd (by decide) h⟩
          refine Wp.seq ?_
          refine Wp.seq ?_
          refine Wp.reg rfl ?_
          iterate 4 refine Wg.li rfl rfl rfl rfl (fun _ => rfl) ?_
          have hv69 := ifOr ((v68.1.length : Int) == 0) (!(v68.2.1 == v6))
          refine Wg.grp 4 224 220 (((v68.1.length : Int) == 0) || (!(v68.2.1 == v6))) ((v68.1.length : Int) == 0) rfl rfl (Nat.le_of_ble_eq_true rfl) (fun hb70 => ?_) (fun hb70 => ?_) ?_
          · have hv69 := iT hv69 hb70
            iterate 3 refine Wg.skip rfl rfl ?_
            refine Wg.li rfl rfl rfl rfl (fun _ => rfl) ?_
            refine Wg.nil ⟨some_b hv69, ?_, rfl⟩
            repeat (first | exact Env.le_refl _ | refine Env.le_put rfl ?_)
          · have hv69 := iF hv69 hb70
            iterate 4 refine Wg.li rfl rfl rfl rfl (fun _ => rfl) ?_
            refine Wg.nil ⟨some_b hv69, ?_, rfl⟩
            repeat (first | exact Env.le_refl _ | refine Env.le_put rfl ?_)
          refine Wg.li rfl rfl rfl rfl (fun _ => rfl) ?_
          have hv71 := ifOr (((v68.1.length : Int) == 0) || (!(v68.2.1 == v6))) (!(v68.2.2 == v11))
          refine Wg.grp 4 229 225 ((((v68.1.length : Int) == 0) || (!(v68.2.1 == v6))) || (!(v68.2.2 == v11))) (((v68.1.length : Int) == 0) || (!(v68.2.1 == v6))) rfl rfl (Nat.le_of_ble_eq_true rfl) (fun hb72 => ?_) (fun hb72 => ?_) ?_
          · have hv71 := iT hv71 hb72
            iterate 3 refine Wg.skip rfl rfl ?_
            refine Wg.li rfl rfl rfl rfl (fun _ => rfl) ?_
            refine Wg.nil ⟨some_b hv71, ?_, rfl⟩
            repeat (first | exact Env.le_refl _ | refine Env.le_put rfl ?_)
          · have hv71 := iF hv71 hb72
            iterate 4 refine Wg.li rfl rfl rfl rfl (fun _ => rfl) ?_
            refine Wg.nil ⟨some_b hv71, ?_, rfl⟩
            repeat (first | exact Env.le_refl _ | refine Env.le_put rfl ?_)
          refine Wg.nil ?_
          refine ⟨fun _ => ?_, fun h => absurd (by decide) h⟩
          refine Wp.cond ((((v68.1.length : Int) == 0) || (!(v68.2.1 == v6))) || (!(v68.2.2 == v11))) rfl (fun hb73 => ?_) (fun hb73 => ?_)
          · have h := iT h hb73
            refine Wp.seq ?_
            refine Wp.reg rfl ?_
            obtain ⟨v74, hv74, h⟩ := ob h
            refine Wg.call rfl rfl rfl rfl (s23_ev hv74 _) ?_
            refine Wg.li rfl rfl rfl rfl (fun _ => rfl) ?_
            refine Wg.nil ?_
            refine ⟨fun _ => ?_, fun h => absurd (by decide) h⟩
            refine Wp.ret ?_
            refine ⟨fun h => absurd h (by decide), fun _ => ?_⟩
            have h := Option.some.inj h
            subst h
            exact ⟨.inr (by decide), _, rfl, rfl⟩
          · have h := iF h hb73
            refine Wp.skip ?_
            refine ⟨fun _ => ?_, fun h => absurd (by decide) h⟩
            refine Wp.seq ?_
            refine Wp.reg rfl ?_
            iterate 3 refine Wg.li rfl rfl rfl rfl (fun _ => rfl) ?_
            obtain ⟨v75, hv75, h⟩ := ob h
            refine Wg.call rfl rfl rfl rfl (s16_ev hv75 _) ?_
            iterate 5 refine Wg.li rfl rfl rfl rfl (fun _ => rfl) ?_
            refine Wg.nil ?_
            refine ⟨fun _ => ?_, fun h => absurd (by decide) h⟩
            refine Wp.seq ?_
            refine Wp.reg rfl ?_
            iterate 3 refine Wg.li rfl rfl rfl rfl (fun _ => rfl) ?_
            obtain ⟨v76, hv76, h⟩ := ob h
            refine Wg.call rfl rfl rfl rfl (s21_ev hv76 _) ?_
            iterate 3 refine Wg.li rfl rfl rfl rfl (fun _ => rfl) ?_
            refine Wg.alloc rfl rfl rfl rfl ?_
            refine Wg.heavy true (Nat.le_of_ble_eq_true rfl) rfl rfl rfl rfl ?_
            refine Wg.li rfl rfl rfl rfl (fun _ => rfl) ?_
            refine Wg.nil ?_
            refine ⟨fun _ => ?_, fun h => absurd (by decide) h⟩
            refine Wp.seq ?_
            refine Wp.seq ?_
            refine Wp.reg rfl ?_
            iterate 3 refine Wg.li rfl rfl rfl rfl (fun _ => rfl) ?_
            have hv77 := ifOr (!(v75.2 == 0)) ((v75.1 == 2) && (!(v76.2 == 0)))
            refine Wg.grp 7 254 247 ((!(v75.2 == 0)) || ((v75.1 == 2) && (!(v76.2 == 0)))) (!(v75.2 == 0)) rfl rfl (Nat.le_of_ble_eq_true rfl) (fun hb78 => ?_) (fun hb78 => ?_) ?_
            · have hv77 := iT hv77 hb78
              iterate 6 refine Wg.skip rfl rfl ?_
              refine Wg.li rfl rfl rfl rfl (fun _ => rfl) ?_
              refine Wg.nil ⟨some_b hv77, ?_, rfl⟩
              repeat (first | exact Env.le_refl _ | refine Env.le_put rfl ?_)
            · have hv77 := iF hv77 hb78
              iterate 3 refine Wg.li rfl rfl rfl rfl (fun _ => rfl) ?_
              have hv79 := ifAnd (v75.1 == 2) (!(v76.2 == 0))
              refine Wg.grp 3 253 250 ((v75.1 == 2) && (!(v76.2 == 0))) (v75.1 == 2) rfl rfl (Nat.le_of_ble_eq_true rfl) (fun hb80 => ?_) (fun hb80 => ?_) ?_
              · have hv79 := iT hv79 hb80
                iterate 3 refine Wg.li rfl rfl rfl rfl (fun _ => rfl) ?_
                refine Wg.nil ⟨some_b hv79, ?_, rfl⟩
                repeat (first | exact Env.le_refl _ | refine Env.le_put rfl ?_)
              · have hv79 := iF hv79 hb80
                iterate 2 refine Wg.skip rfl rfl ?_
                refine Wg.li rfl rfl rfl rfl (fun _ => rfl) ?_
                refine Wg.nil ⟨some_b hv79, ?_, rfl⟩
                repeat (first | exact Env.le_refl _ | refine Env.le_put rfl ?_)
              refine Wg.li rfl rfl rfl rfl (fun _ => rfl) ?_
              refine Wg.nil ⟨some_b hv77, ?_, rfl⟩
              repeat (first | exact Env.le_refl _ | refine Env.le_put rfl ?_)
            refine Wg.nil ?_
            refine ⟨fun _ => ?_, fun h => absurd (by decide) h⟩
            refine Wp.cond ((!(v75.2 == 0)) || ((v75.1 == 2) && (!(v76.2 == 0)))) rfl (fun hb81 => ?_) (fun hb81 => ?_)
            · have h := iT h hb81
              refine Wp.seq ?_
              refine Wp.reg rfl ?_
              refine Wg.li rfl rfl rfl rfl (fun _ => rfl) ?_
              refine Wg.nil ?_
              refine ⟨fun _ => ?_, fun h => absurd (by decide) h⟩
              refine Wp.ret ?_
              refine ⟨fun h => absurd h (by decide), fun _ => ?_⟩
              have h := Option.some.inj h
              subst h
              exact ⟨.inr (by decide), _, rfl, rfl⟩
            · have h := iF h hb81
              refine Wp.skip ?_
              refine ⟨fun _ => ?_, fun h => absurd (by decide) h⟩
              refine Wp.seq ?_
              refine Wp.reg rfl ?_
              iterate 3 refine Wg.li rfl rfl rfl rfl (fun _ => rfl) ?_
              have hv82 := ifOr (!(v75.1 == 2)) (v76.1.high == 2880)
              refine Wg.grp 4 261 257 ((!(v75.1 == 2)) || (v76.1.high == 2880)) (!(v75.1 == 2)) rfl rfl (Nat.le_of_ble_eq_true rfl) (fun hb83 => ?_) (fun hb83 => ?_) ?_
              · have hv82 := iT hv82 hb83
                iterate 3 refine Wg.skip rfl rfl ?_
                refine Wg.li rfl rfl rfl rfl (fun _ => rfl) ?_
                refine Wg.nil ⟨some_b hv82, ?_, rfl⟩
                repeat (first | exact Env.le_refl _ | refine Env.le_put rfl ?_)
              · have hv82 := iF hv82 hb83
                refine Wg.li rfl rfl rfl rfl (fun _ => rfl) ?_
                refine Wg.ld rfl rfl rfl rfl rfl rfl ?_
                iterate 2 refine Wg.li rfl rfl rfl rfl (fun _ => rfl) ?_
                refine Wg.nil ⟨some_b hv82, ?_, rfl⟩
                repeat (first | exact Env.le_refl _ | refine Env.le_put rfl ?_)
              refine Wg.li rfl rfl rfl rfl (fun _ => rfl) ?_
              have hv84 := ifOr ((!(v75.1 == 2)) || (v76.1.high == 2880)) ((v13.2 == 0) && ((decide (v14.1 < v76.1.high)) || ((v14.1 == v76.1.high) && (decide ((v13.1.length : Int) ≤ (v68.1.length : Int))))))
              refine Wg.grp 22 284 262 (((!(v75.1 == 2)) || (v76.1.high == 2880)) || ((v13.2 == 0) && ((decide (v14.1 < v76.1.high)) || ((v14.1 == v76.1.high) && (decide ((v13.1.length : Int) ≤ (v68.1.length : Int))))))) ((!(v75.1 == 2)) || (v76.1.high == 2880)) rfl rfl (Nat.le_of_ble_eq_true rfl) (fun hb85 => ?_) (fun hb85 => ?_) ?_
              · have hv84 := iT hv84 hb85
                iterate 21 refine Wg.skip rfl rfl ?_
                refine Wg.li rfl rfl rfl rfl (fun _ => rfl) ?_
                refine Wg.nil ⟨some_b hv84, ?_, rfl⟩
                repeat (first | exact Env.le_refl _ | refine Env.le_put rfl ?_)
              · have hv84 := iF hv84 hb85
                iterate 3 refine Wg.li rfl rfl rfl rfl (fun _ => rfl) ?_
                have hv86 := ifAnd (v13.2 == 0) ((decide (v14.1 < v76.1.high)) || ((v14.1 == v76.1.high) && (decide ((v13.1.length : Int) ≤ (v68.1.length : Int)))))
                refine Wg.grp 18 283 265 ((v13.2 == 0) && ((decide (v14.1 < v76.1.high)) || ((v14.1 == v76.1.high) && (decide ((v13.1.length : Int) ≤ (v68.1.length : Int)))))) (v13.2 == 0) rfl rfl (Nat.le_of_ble_eq_true rfl) (fun hb87 => ?_) (fun hb87 => ?_) ?_
                · have hv86 := iT hv86 hb87
                  iterate 2 refine Wg.li rfl rfl rfl rfl (fun _ => rfl) ?_
                  refine Wg.ld rfl rfl rfl rfl rfl rfl ?_
                  iterate 2 refine Wg.li rfl rfl rfl rfl (fun _ => rfl) ?_
                  have hv88 := ifOr (decide (v14.1 < v76.1.high)) ((v14.1 == v76.1.high) && (decide ((v13.1.length : Int) ≤ (v68.1.length : Int))))
                  refine Wg.grp 12 282 270 ((decide (v14.1 < v76.1.high)) || ((v14.1 == v76.1.high) && (decide ((v13.1.length : Int) ≤ (v68.1.length : Int))))) (decide (v14.1 < v76.1.high)) rfl rfl (Nat.le_of_ble_eq_true rfl) (fun hb89 => ?_) (fun hb89 => ?_) ?_
                  · have hv88 := iT hv88 hb89
                    iterate 11 refine Wg.skip rfl rfl ?_
                    refine Wg.li rfl rfl rfl rfl (fun _ => rfl) ?_
                    refine Wg.nil ⟨some_b hv88, ?_, rfl⟩
                    repeat (first | exact Env.le_refl _ | refine Env.le_put rfl ?_)
                  · have hv88 := iF hv88 hb89
                    iterate 2 refine Wg.li rfl rfl rfl rfl (fun _ => rfl) ?_
                    refine Wg.ld rfl rfl rfl rfl rfl rfl ?_
                    iterate 2 refine Wg.li rfl rfl rfl rfl (fun _ => rfl) ?_
                    have hv90 := ifAnd (v14.1 == v76.1.high) (decide ((v13.1.length : Int) ≤ (v68.1.length : Int)))
                    refine Wg.grp 6 281 275 ((v14.1 == v76.1.high) && (decide ((v13.1.length : Int) ≤ (v68.1.length : Int)))) (v14.1 == v76.1.high) rfl rfl (Nat.le_of_ble_eq_true rfl) (fun hb91 => ?_) (fun hb91 => ?_) ?_
                    · have hv90 := iT hv90 hb91
                      iterate 6 refine Wg.li rfl rfl rfl rfl (fun _ => rfl) ?_
                      refine Wg.nil ⟨some_b hv90, ?_, rfl⟩
                      repeat (first | exact Env.le_refl _ | refine Env.le_put rfl ?_)
                    · have hv90 := iF hv90 hb91
                      iterate 5 refine Wg.skip rfl rfl ?_
                      refine Wg.li rfl rfl rfl rfl (fun _ => rfl) ?_
                      refine Wg.nil ⟨some_b hv90, ?_, rfl⟩
                      repeat (first | exact Env.le_refl _ | refine Env.le_put rfl ?_)
                    refine Wg.li rfl rfl rfl rfl (fun _ => rfl) ?_
                    refine Wg.nil ⟨some_b hv88, ?_, rfl⟩
                    repeat (first | exact Env.le_refl _ | refine Env.le_put rfl ?_)
                  refine Wg.li rfl rfl rfl rfl (fun _ => rfl) ?_
                  refine Wg.nil ⟨some_b hv86, ?_, rfl⟩
                  repeat (first | exact Env.le_refl _ | refine Env.le_put rfl ?_)
                · have hv86 := iF hv86 hb87
                  iterate 17 refine Wg.skip rfl rfl ?_
                  refine Wg.li rfl rfl rfl rfl (fun _ => rfl) ?_
                  refine Wg.nil ⟨some_b hv86, ?_, rfl⟩
                  repeat (first | exact Env.le_refl _ | refine Env.le_put rfl ?_)
                refine Wg.li rfl rfl rfl rfl (fun _ => rfl) ?_
                refine Wg.nil ⟨some_b hv84, ?_, rfl⟩
                repeat (first | exact Env.le_refl _ | refine Env.le_put rfl ?_)
              refine Wg.li rfl rfl rfl rfl (fun _ => rfl) ?_
              obtain ⟨v95, hv92, h⟩ := ob h
              refine Wg.grp 2 287 285 v95 (((!(v75.1 == 2)) || (v76.1.high == 2880)) || ((v13.2 == 0) && ((decide (v14.1 < v76.1.high)) || ((v14.1 == v76.1.high) && (decide ((v13.1.length : Int) ≤ (v68.1.length : Int))))))) rfl rfl (Nat.le_of_ble_eq_true rfl) (fun hb93 => ?_) (fun hb93 => ?_) ?_
              · have hv92 := iT hv92 hb93
                obtain ⟨v94, hv94, hv92⟩ := ob hv92
                refine Wg.call rfl rfl rfl rfl (s23_ev hv94 _) ?_
                refine Wg.li rfl rfl rfl rfl (fun _ => rfl) ?_
                refine Wg.nil ⟨some_b hv92, ?_, rfl⟩
                repeat (first | exact Env.le_refl _ | refine Env.le_put rfl ?_)
              · have hv92 := iF hv92 hb93
                iterate 1 refine Wg.skip rfl rfl ?_
                refine Wg.li rfl rfl rfl rfl (fun _ => rfl) ?_
                refine Wg.nil ⟨some_b hv92, ?_, rfl⟩
                repeat (first | exact Env.le_refl _ | refine Env.le_put rfl ?_)
              refine Wg.li rfl rfl rfl rfl (fun _ => rfl) ?_
              refine Wg.nil ?_
              refine ⟨fun _ => ?_, fun h => absurd (by decide) h⟩
              refine Wp.ret ?_
              have h := Option.some.inj h
              subst h
              exact ⟨.inr (by decide), _, rfl, rfl⟩
        · have hPx := hP.1
          subst hPx
          refine ⟨fun h => absurd h (by decide), fun _ => ?_⟩
          exact ⟨.inr rfl, by obtain ⟨vs, h1, h2⟩ := hP.2; exact ⟨vs, h1, by rw [h2]; have h := Option.some.inj h; subst h; rfl⟩⟩
end Go.Abs.Tr
