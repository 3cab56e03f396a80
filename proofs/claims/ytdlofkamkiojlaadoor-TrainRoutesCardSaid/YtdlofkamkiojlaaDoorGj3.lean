/- Printed walk: the statement TrainRoutes. Conditions: none. -/
import Derived.Test.YtdlofkamkiojlaaDoorGi
import Derived.Test.YtdlofkamkiojlaaDoorGb
set_option maxRecDepth 100000
set_option maxHeartbeats 1000000
set_option linter.unusedVariables false
namespace Go.Abs.Tr
open Go Go.Abs Go.Proofs
def s3 (N : Nat) (a0 : Table) (a1 : (List Leg)) (a2_0 : Int) (a2_1 : Int) (a2_2 : Int) : Option (Bool) :=
  (s12 N a0 a1 a2_0 a2_1).bind fun v1 =>
  (s13 N a0 a1 a2_0 a2_1).bind fun v2 =>
  (if ((!(v1.1 == v2.1)) || (!(v1.2 == v2.2))) then some true else 
    (s14 N a0).bind fun v7 =>
    (s15 N a0).bind fun v8 =>
    some (!(v7 == v8))).bind fun v9 =>
  if v9 then
    some false
  else
    (s16 N a0 a1 a2_2).bind fun v11 =>
    (s17 N a0 a1 a2_2).bind fun v12 =>
    if ((!(v11.1 == v12.1)) || (!(v11.2 == v12.2))) then
      some false
    else
      (s18 N a0 a1 a2_2).bind fun v16 =>
      (s19 N a0 a1 a2_2).bind fun v17 =>
      (s20 N v16.1 v17.1).bind fun v18 =>
      if ((!v18) || (!(v16.2 == v17.2))) then
        some false
      else
        (s21 N a0 a1 a2_2).bind fun v22 =>
        (s22 N a0 a1 a2_2).bind fun v23 =>
        (if (((v22.1.low == v23.1.low) && ((v22.1.high == v23.1.high) && true)) && (v22.2 == v23.2)) then 
          (s23 4000).bind fun v28 =>
          some v28
         else some false).bind fun v29 =>
        some v29
abbrev F3 : Fr := { r := false, N := 128, m := 0 }
theorem at3 : ctx.P.funcs[3]? = some Tryd.f3 := by kernel_rfl
theorem s3_ev {N : Nat} {a0 : Table} {a1 : (List Leg)} {a2_0 : Int} {a2_1 : Int} {a2_2 : Int} {r : Bool} (h : s3 N a0 a1 a2_0 a2_1 a2_2 = some r) : ∀ H, Ev ctx (.call 3 [.agg (eTable a0), lst eLeg a1 .unk, .agg [.int .i64 a2_0, .int .i64 a2_1, .int .i64 a2_2]] H (.bool r) H) := by
  refine Ev.of_pure at3 rfl rfl (Nat.le_of_ble_eq_true rfl) (pCons (pv (pTab _)) (pCons (Pure.lst pLeg _ pUnk) (pCons (pv (pCons (.int _ _) (pCons (.int _ _) (pCons (.int _ _) pNil)))) pNil))) (.bool _) ?_
  unfold s3 at h
  refine Wp.seq ?_
  refine Wp.reg rfl ?_
  refine Wg.box rfl rfl rfl rfl ?_
  refine Wg.box rfl rfl rfl rfl ?_
  refine Wg.li rfl rfl rfl rfl (fun _ => rfl) ?_
  refine Wg.nil ?_
  refine ⟨fun _ => ?_, fun h => absurd (by decide) h⟩
  refine Wp.seq ?_
  refine Wp.reg rfl ?_
  iterate 6 refine Wg.li rfl rfl rfl rfl (fun _ => rfl) ?_
  obtain ⟨v1, hv1, h⟩ := ob h
  refine Wg.call rfl rfl rfl rfl (s12_ev hv1 _) ?_
  iterate 5 refine Wg.li rfl rfl rfl rfl (fun _ => rfl) ?_
  refine Wg.nil ?_
  refine ⟨fun _ => ?_, fun h => absurd (by decide) h⟩
  refine Wp.seq ?_
  refine Wp.reg rfl ?_
  iterate 6 refine Wg.li rfl rfl rfl rfl (fun _ => rfl) ?_
  obtain ⟨v2, hv2, h⟩ := ob h
  refine Wg.call rfl rfl rfl rfl (s13_ev hv2 _) ?_
  iterate 5 refine Wg.li rfl rfl rfl rfl (fun _ => rfl) ?_
  refine Wg.nil ?_
  refine ⟨fun _ => ?_, fun h => absurd (by decide) h⟩
  refine Wp.seq ?_
  refine Wp.seq ?_
  refine Wp.drw _ [9, 11] rfl (by kernel_rfl) (Nat.le_refl _) ?_
  iterate 4 refine Wg.li rfl rfl rfl rfl (fun _ => rfl) ?_
  have hv3 := ifOr (!(v1.1 == v2.1)) (!(v1.2 == v2.2))
  refine Wg.grp 4 44 40 ((!(v1.1 == v2.1)) || (!(v1.2 == v2.2))) (!(v1.1 == v2.1)) rfl rfl (Nat.le_of_ble_eq_true rfl) (fun hb4 => ?_) (fun hb4 => ?_) ?_
  · have hv3 := iT hv3 hb4
    iterate 3 refine Wg.skip rfl rfl ?_
    refine Wg.li rfl rfl rfl rfl (fun _ => rfl) ?_
    refine Wg.nil ⟨some_b hv3, ?_, rfl⟩
    repeat (first | exact Env.le_refl _ | refine Env.le_put rfl ?_)
  · have hv3 := iF hv3 hb4
    iterate 4 refine Wg.li rfl rfl rfl rfl (fun _ => rfl) ?_
    refine Wg.nil ⟨some_b hv3, ?_, rfl⟩
    repeat (first | exact Env.le_refl _ | refine Env.le_put rfl ?_)
  refine Wg.li rfl rfl rfl rfl (fun _ => rfl) ?_
  obtain ⟨v9, hv5, h⟩ := ob h
  refine Wg.grp 6 51 45 v9 ((!(v1.1 == v2.1)) || (!(v1.2 == v2.2))) rfl rfl (Nat.le_of_ble_eq_true rfl) (fun hb6 => ?_) (fun hb6 => ?_) ?_
  · have hv5 := iT hv5 hb6
    iterate 5 refine Wg.skip rfl rfl ?_
    refine Wg.li rfl rfl rfl rfl (fun _ => rfl) ?_
    refine Wg.nil ⟨some_b hv5, ?_, rfl⟩
    repeat (first | exact Env.le_refl _ | refine Env.le_put rfl ?_)
  · have hv5 := iF hv5 hb6
    refine Wg.li rfl rfl rfl rfl (fun _ => rfl) ?_
    obtain ⟨v7, hv7, hv5⟩ := ob hv5
    refine Wg.call rfl rfl rfl rfl (s14_ev hv7 _) ?_
    refine Wg.li rfl rfl rfl rfl (fun _ => rfl) ?_
    obtain ⟨v8, hv8, hv5⟩ := ob hv5
    refine Wg.call rfl rfl rfl rfl (s15_ev hv8 _) ?_
    iterate 2 refine Wg.li rfl rfl rfl rfl (fun _ => rfl) ?_
    refine Wg.nil ⟨some_b hv5, ?_, rfl⟩
    repeat (first | exact Env.le_refl _ | refine Env.le_put rfl ?_)
  refine Wg.nil ?_
  refine ⟨fun _ => ?_, fun h => absurd (by decide) h⟩
  refine Wp.cond v9 rfl (fun hb10 => ?_) (fun hb10 => ?_)
  · have h := iT h hb10
    refine Wp.seq ?_
    refine Wp.reg rfl ?_
    refine Wg.li rfl rfl rfl rfl (fun _ => rfl) ?_
    refine Wg.nil ?_
    refine ⟨fun _ => ?_, fun h => absurd (by decide) h⟩
    refine Wp.ret ?_
    refine ⟨fun h => absurd h (by decide), fun _ => ?_⟩
    have h := Option.some.inj h
    subst h
    exact ⟨.inr (by decide), _, rfl, rfl⟩
  · have h := iF h hb10
    refine Wp.skip ?_
    refine ⟨fun _ => ?_, fun h => absurd (by decide) h⟩
    refine Wp.seq ?_
    refine Wp.reg rfl ?_
    iterate 4 refine Wg.li rfl rfl rfl rfl (fun _ => rfl) ?_
    obtain ⟨v11, hv11, h⟩ := ob h
    refine Wg.call rfl rfl rfl rfl (s16_ev hv11 _) ?_
    iterate 5 refine Wg.li rfl rfl rfl rfl (fun _ => rfl) ?_
    refine Wg.nil ?_
    refine ⟨fun _ => ?_, fun h => absurd (by decide) h⟩
    refine Wp.seq ?_
    refine Wp.reg rfl ?_
    iterate 4 refine Wg.li rfl rfl rfl rfl (fun _ => rfl) ?_
    obtain ⟨v12, hv12, h⟩ := ob h
    refine Wg.call rfl rfl rfl rfl (s17_ev hv12 _) ?_
    iterate 5 refine Wg.li rfl rfl rfl rfl (fun _ => rfl) ?_
    refine Wg.nil ?_
    refine ⟨fun _ => ?_, fun h => absurd (by decide) h⟩
    refine Wp.seq ?_
    refine Wp.seq ?_
    refine Wp.reg rfl ?_
    iterate 4 refine Wg.li rfl rfl rfl rfl (fun _ => rfl) ?_
    have hv13 := ifOr (!(v11.1 == v12.1)) (!(v11.2 == v12.2))
    refine Wg.grp 4 75 71 ((!(v11.1 == v12.1)) || (!(v11.2 == v12.2))) (!(v11.1 == v12.1)) rfl rfl (Nat.le_of_ble_eq_true rfl) (fun hb14 => ?_) (fun hb14 => ?_) ?_
    · have hv13 := iT hv13 hb14
      iterate 3 refine Wg.skip rfl rfl ?_
      refine Wg.li rfl rfl rfl rfl (fun _ => rfl) ?_
      refine Wg.nil ⟨some_b hv13, ?_, rfl⟩
      repeat (first | exact Env.le_refl _ | refine Env.le_put rfl ?_)
    · have hv13 := iF hv13 hb14
      iterate 4 refine Wg.li rfl rfl rfl rfl (fun _ => rfl) ?_
      refine Wg.nil ⟨some_b hv13, ?_, rfl⟩
      repeat (first | exact Env.le_refl _ | refine Env.le_put rfl ?_)
    refine Wg.nil ?_
    refine ⟨fun _ => ?_, fun h => absurd (by decide) h⟩
    refine Wp.cond ((!(v11.1 == v12.1)) || (!(v11.2 == v12.2))) rfl (fun hb15 => ?_) (fun hb15 => ?_)
    · have h := iT h hb15
      refine Wp.seq ?_
      refine Wp.reg rfl ?_
      refine Wg.li rfl rfl rfl rfl (fun _ => rfl) ?_
      refine Wg.nil ?_
      refine ⟨fun _ => ?_, fun h => absurd (by decide) h⟩
      refine Wp.ret ?_
      refine ⟨fun h => absurd h (by decide), fun _ => ?_⟩
      have h := Option.some.inj h
      subst h
      exact ⟨.inr (by decide), _, rfl, rfl⟩
    · have h := iF h hb15
      refine Wp.skip ?_
      refine ⟨fun _ => ?_, fun h => absurd (by decide) h⟩
      refine Wp.seq ?_
      refine Wp.reg rfl ?_
      iterate 4 refine Wg.li rfl rfl rfl rfl (fun _ => rfl) ?_
      obtain ⟨v16, hv16, h⟩ := ob h
      refine Wg.call rfl rfl rfl rfl (s18_ev hv16 _) ?_
      iterate 5 refine Wg.li rfl rfl rfl rfl (fun _ => rfl) ?_
      refine Wg.nil ?_
      refine ⟨fun _ => ?_, fun h => absurd (by decide) h⟩
      refine Wp.seq ?_
      refine Wp.reg rfl ?_
      iterate 4 refine Wg.li rfl rfl rfl rfl (fun _ => rfl) ?_
      obtain ⟨v17, hv17, h⟩ := ob h
      refine Wg.call rfl rfl rfl rfl (s19_ev hv17 _) ?_
      iterate 5 refine Wg.li rfl rfl rfl rfl (fun _ => rfl) ?_
      refine Wg.nil ?_
      refine ⟨fun _ => ?_, fun h => absurd (by decide) h⟩
      refine Wp.seq ?_
      refine Wp.seq ?_
      refine Wp.reg rfl ?_
      iterate 2 refine Wg.li rfl rfl rfl rfl (fun _ => rfl) ?_
      obtain ⟨v18, hv18, h⟩ := ob h
      refine Wg.call rfl rfl rfl rfl (s20_ev hv18 _) ?_
      iterate 2 refine Wg.li rfl rfl rfl rfl (fun _ => rfl) ?_
      have hv19 := ifOr (!v18) (!(v16.2 == v17.2))
      refine Wg.grp 4 100 96 ((!v18) || (!(v16.2 == v17.2))) (!v18) rfl rfl (Nat.le_of_ble_eq_true rfl) (fun hb20 => ?_) (fun hb20 => ?_) ?_
      · have hv19 := iT hv19 hb20
        iterate 3 refine Wg.skip rfl rfl ?_
        refine Wg.li rfl rfl rfl rfl (fun _ => rfl) ?_
        refine Wg.nil ⟨some_b hv19, ?_, rfl⟩
        repeat (first | exact Env.le_refl _ | refine Env.le_put rfl ?_)
      · have hv19 := iF hv19 hb20
        iterate 4 refine Wg.li rfl rfl rfl rfl (fun _ => rfl) ?_
        refine Wg.nil ⟨some_b hv19, ?_, rfl⟩
        repeat (first | exact Env.le_refl _ | refine Env.le_put rfl ?_)
      refine Wg.nil ?_
      refine ⟨fun _ => ?_, fun h => absurd (by decide) h⟩
      refine Wp.cond ((!v18) || (!(v16.2 == v17.2))) rfl (fun hb21 => ?_) (fun hb21 => ?_)
      · have h := iT h hb21
        refine Wp.seq ?_
        refine Wp.reg rfl ?_
        refine Wg.li rfl rfl rfl rfl (fun _ => rfl) ?_
        refine Wg.nil ?_
        refine ⟨fun _ => ?_, fun h => absurd (by decide) h⟩
        refine Wp.ret ?_
        refine ⟨fun h => absurd h (by decide), fun _ => ?_⟩
        have h := Option.some.inj h
        subst h
        exact ⟨.inr (by decide), _, rfl, rfl⟩
      · have h := iF h hb21
        refine Wp.skip ?_
        refine ⟨fun _ => ?_, fun h => absurd (by decide) h⟩
        refine Wp.seq ?_
        refine Wp.reg rfl ?_
        iterate 4 refine Wg.li rfl rfl rfl rfl (fun _ => rfl) ?_
        obtain ⟨v22, hv22, h⟩ := ob h
        refine Wg.call rfl rfl rfl rfl (s21_ev hv22 _) ?_
        iterate 3 refine Wg.li rfl rfl rfl rfl (fun _ => rfl) ?_
        refine Wg.alloc rfl rfl rfl rfl ?_
        refine Wg.heavy true (Nat.le_of_ble_eq_true rfl) rfl rfl rfl rfl ?_
        refine Wg.li rfl rfl rfl rfl (fun _ => rfl) ?_
        refine Wg.nil ?_
        refine ⟨fun _ => ?_, fun h => absurd (by decide) h⟩
        refine Wp.seq ?_
        refine Wp.reg rfl ?_
        iterate 4 refine Wg.li rfl rfl rfl rfl (fun _ => rfl) ?_
        obtain ⟨v23, hv23, h⟩ := ob h
        refine Wg.call rfl rfl rfl rfl (s22_ev hv23 _) ?_
        iterate 3 refine Wg.li rfl rfl rfl rfl (fun _ => rfl) ?_
        refine Wg.alloc rfl rfl rfl rfl ?_
        refine Wg.heavy true (Nat.le_of_ble_eq_true rfl) rfl rfl rfl rfl ?_
        refine Wg.li rfl rfl rfl rfl (fun _ => rfl) ?_
        refine Wg.nil ?_
        refine ⟨fun _ => ?_, fun h => absurd (by decide) h⟩
        refine Wp.seq ?_
        refine Wp.reg rfl ?_
        iterate 2 refine Wg.ld rfl rfl rfl rfl rfl rfl ?_
        iterate 2 refine Wg.li rfl rfl rfl rfl (fun _ => rfl) ?_
        have hv24 := ifAnd ((v22.1.low == v23.1.low) && ((v22.1.high == v23.1.high) && true)) (v22.2 == v23.2)
        refine Wg.grp 4 124 120 (((v22.1.low == v23.1.low) && ((v22.1.high == v23.1.high) && true)) && (v22.2 == v23.2)) ((v22.1.low == v23.1.low) && ((v22.1.high == v23.1.high) && true)) rfl rfl (Nat.le_of_ble_eq_true rfl) (fun hb25 => ?_) (fun hb25 => ?_) ?_
        · have hv24 := iT hv24 hb25
          iterate 4 refine Wg.li rfl rfl rfl rfl (fun _ => rfl) ?_
          refine Wg.nil ⟨some_b hv24, ?_, rfl⟩
          repeat (first | exact Env.le_refl _ | refine Env.le_put rfl ?_)
        · have hv24 := iF hv24 hb25
          iterate 3 refine Wg.skip rfl rfl ?_
          refine Wg.li rfl rfl rfl rfl (fun _ => rfl) ?_
          refine Wg.nil ⟨some_b hv24, ?_, rfl⟩
          repeat (first | exact Env.le_refl _ | refine Env.le_put rfl ?_)
        refine Wg.li rfl rfl rfl rfl (fun _ => rfl) ?_
        obtain ⟨v29, hv26, h⟩ := ob h
        refine Wg.grp 2 127 125 v29 (((v22.1.low == v23.1.low) && ((v22.1.high == v23.1.high) && true)) && (v22.2 == v23.2)) rfl rfl (Nat.le_of_ble_eq_true rfl) (fun hb27 => ?_) (fun hb27 => ?_) ?_
        · have hv26 := iT hv26 hb27
          obtain ⟨v28, hv28, hv26⟩ := ob hv26
          refine Wg.call rfl rfl rfl rfl (s23_ev hv28 _) ?_
          refine Wg.li rfl rfl rfl rfl (fun _ => rfl) ?_
          refine Wg.nil ⟨some_b hv26, ?_, rfl⟩
          repeat (first | exact Env.le_refl _ | refine Env.le_put rfl ?_)
        · have hv26 := iF hv26 hb27
          iterate 1 refine Wg.skip rfl rfl ?_
          refine Wg.li rfl rfl rfl rfl (fun _ => rfl) ?_
          refine Wg.nil ⟨some_b hv26, ?_, rfl⟩
          repeat (first | exact Env.le_refl _ | refine Env.le_put rfl ?_)
        refine Wg.li rfl rfl rfl rfl (fun _ => rfl) ?_
        refine Wg.nil ?_
        refine ⟨fun _ => ?_, fun h => absurd (by decide) h⟩
        refine Wp.ret ?_
        have h := Option.some.inj h
        subst h
        exact ⟨.inr (by decide), _, rfl, rfl⟩
end Go.Abs.Tr
