/- Printed walk: the statement TrainReaches. Conditions: none. -/
import Derived.Test.YtdlofkamkiojlaaDoorGi
import Derived.Test.YtdlofkamkiojlaaDoorGk
set_option maxRecDepth 100000
set_option maxHeartbeats 1000000
set_option linter.unusedVariables false
namespace Go.Abs.Tr
open Go Go.Abs Go.Proofs
def s5 (N : Nat) (a0 : Table) (a1_0 : Int) (a1_1 : Int) (a1_2 : Int) : Option (Bool) :=
  (s31 N a0 a1_0 a1_1 a1_2).bind fun v1 =>
  (s32 N a0 a1_0 a1_1 a1_2).bind fun v2 =>
  if ((!(v1.1 == v2.1)) || (!(v1.2 == v2.2))) then
    some false
  else
    (s33 N a0 a1_0 a1_2).bind fun v6 =>
    (s34 N a0 a1_0 a1_2).bind fun v7 =>
    (s20 N v6.1 v7.1).bind fun v8 =>
    (if (v8 && (v6.2 == v7.2)) then 
      (s23 4000).bind fun v13 =>
      some v13
     else some false).bind fun v14 =>
    some v14
abbrev F5 : Fr := { r := false, N := 70, m := 0 }
theorem at5 : ctx.P.funcs[5]? = some Tryd.f5 := by kernel_rfl
theorem s5_ev {N : Nat} {a0 : Table} {a1_0 : Int} {a1_1 : Int} {a1_2 : Int} {r : Bool} (h : s5 N a0 a1_0 a1_1 a1_2 = some r) : ∀ H, Ev ctx (.call 5 [.agg (eTable a0), .agg [.int .i64 a1_0, .int .i64 a1_1, .int .i64 a1_2]] H (.bool r) H) := by
  refine Ev.of_pure at5 rfl rfl (Nat.le_of_ble_eq_true rfl) (pCons (pv (pTab _)) (pCons (pv (pCons (.int _ _) (pCons (.int _ _) (pCons (.int _ _) pNil)))) pNil)) (.bool _) ?_
  unfold s5 at h
  refine Wp.seq ?_
  refine Wp.reg rfl ?_
  refine Wg.box rfl rfl rfl rfl ?_
  refine Wg.box rfl rfl rfl rfl ?_
  refine Wg.li rfl rfl rfl rfl (fun _ => rfl) ?_
  refine Wg.nil ?_
  refine ⟨fun _ => ?_, fun h => absurd (by decide) h⟩
  refine Wp.seq ?_
  refine Wp.reg rfl ?_
  iterate 7 refine Wg.li rfl rfl rfl rfl (fun _ => rfl) ?_
  obtain ⟨v1, hv1, h⟩ := ob h
  refine Wg.call rfl rfl rfl rfl (s31_ev hv1 _) ?_
  iterate 5 refine Wg.li rfl rfl rfl rfl (fun _ => rfl) ?_
  refine Wg.nil ?_
  refine ⟨fun _ => ?_, fun h => absurd (by decide) h⟩
  refine Wp.seq ?_
  refine Wp.reg rfl ?_
  iterate 7 refine Wg.li rfl rfl rfl rfl (fun _ => rfl) ?_
  obtain ⟨v2, hv2, h⟩ := ob h
  refine Wg.call rfl rfl rfl rfl (s32_ev hv2 _) ?_
  iterate 5 refine Wg.li rfl rfl rfl rfl (fun _ => rfl) ?_
  refine Wg.nil ?_
  refine ⟨fun _ => ?_, fun h => absurd (by decide) h⟩
  refine Wp.seq ?_
  refine Wp.seq ?_
  refine Wp.reg rfl ?_
  iterate 4 refine Wg.li rfl rfl rfl rfl (fun _ => rfl) ?_
  have hv3 := ifOr (!(v1.1 == v2.1)) (!(v1.2 == v2.2))
  refine Wg.grp 4 40 36 ((!(v1.1 == v2.1)) || (!(v1.2 == v2.2))) (!(v1.1 == v2.1)) rfl rfl (Nat.le_of_ble_eq_true rfl) (fun hb4 => ?_) (fun hb4 => ?_) ?_
  · have hv3 := iT hv3 hb4
    iterate 3 refine Wg.skip rfl rfl ?_
    refine Wg.li rfl rfl rfl rfl (fun _ => rfl) ?_
    refine Wg.nil ⟨some_b hv3, ?_, rfl⟩
    repeat (first | exact Env.le_refl _ | refine Env.le_put rfl ?_)
  · have hv3 := iF hv3 hb4
    iterate 4 refine Wg.li rfl rfl rfl rfl (fun _ => rfl) ?_
    refine Wg.nil ⟨some_b hv3, ?_, rfl⟩
    repeat (first | exact Env.le_refl _ | refine Env.le_put rfl ?_)
  refine Wg.nil ?_
  refine ⟨fun _ => ?_, fun h => absurd (by decide) h⟩
  refine Wp.cond ((!(v1.1 == v2.1)) || (!(v1.2 == v2.2))) rfl (fun hb5 => ?_) (fun hb5 => ?_)
  · have h := iT h hb5
    refine Wp.seq ?_
    refine Wp.reg rfl ?_
    refine Wg.li rfl rfl rfl rfl (fun _ => rfl) ?_
    refine Wg.nil ?_
    refine ⟨fun _ => ?_, fun h => absurd (by decide) h⟩
    refine Wp.ret ?_
    refine ⟨fun h => absurd h (by decide), fun _ => ?_⟩
    have h := Option.some.inj h
    subst h
    exact ⟨.inr (by decide), _, rfl, rfl⟩
  · have h := iF h hb5
    refine Wp.skip ?_
    refine ⟨fun _ => ?_, fun h => absurd (by decide) h⟩
    refine Wp.seq ?_
    refine Wp.reg rfl ?_
    iterate 5 refine Wg.li rfl rfl rfl rfl (fun _ => rfl) ?_
    obtain ⟨v6, hv6, h⟩ := ob h
    refine Wg.call rfl rfl rfl rfl (s33_ev hv6 _) ?_
    iterate 5 refine Wg.li rfl rfl rfl rfl (fun _ => rfl) ?_
    refine Wg.nil ?_
    refine ⟨fun _ => ?_, fun h => absurd (by decide) h⟩
    refine Wp.seq ?_
    refine Wp.reg rfl ?_
    iterate 5 refine Wg.li rfl rfl rfl rfl (fun _ => rfl) ?_
    obtain ⟨v7, hv7, h⟩ := ob h
    refine Wg.call rfl rfl rfl rfl (s34_ev hv7 _) ?_
    iterate 5 refine Wg.li rfl rfl rfl rfl (fun _ => rfl) ?_
    refine Wg.nil ?_
    refine ⟨fun _ => ?_, fun h => absurd (by decide) h⟩
    refine Wp.seq ?_
    refine Wp.reg rfl ?_
    iterate 2 refine Wg.li rfl rfl rfl rfl (fun _ => rfl) ?_
    obtain ⟨v8, hv8, h⟩ := ob h
    refine Wg.call rfl rfl rfl rfl (s20_ev hv8 _) ?_
    refine Wg.li rfl rfl rfl rfl (fun _ => rfl) ?_
    have hv9 := ifAnd v8 (v6.2 == v7.2)
    refine Wg.grp 4 66 62 (v8 && (v6.2 == v7.2)) v8 rfl rfl (Nat.le_of_ble_eq_true rfl) (fun hb10 => ?_) (fun hb10 => ?_) ?_
    · have hv9 := iT hv9 hb10
      iterate 4 refine Wg.li rfl rfl rfl rfl (fun _ => rfl) ?_
      refine Wg.nil ⟨some_b hv9, ?_, rfl⟩
      repeat (first | exact Env.le_refl _ | refine Env.le_put rfl ?_)
    · have hv9 := iF hv9 hb10
      iterate 3 refine Wg.skip rfl rfl ?_
      refine Wg.li rfl rfl rfl rfl (fun _ => rfl) ?_
      refine Wg.nil ⟨some_b hv9, ?_, rfl⟩
      repeat (first | exact Env.le_refl _ | refine Env.le_put rfl ?_)
    refine Wg.li rfl rfl rfl rfl (fun _ => rfl) ?_
    obtain ⟨v14, hv11, h⟩ := ob h
    refine Wg.grp 2 69 67 v14 (v8 && (v6.2 == v7.2)) rfl rfl (Nat.le_of_ble_eq_true rfl) (fun hb12 => ?_) (fun hb12 => ?_) ?_
    · have hv11 := iT hv11 hb12
      obtain ⟨v13, hv13, hv11⟩ := ob hv11
      refine Wg.call rfl rfl rfl rfl (s23_ev hv13 _) ?_
      refine Wg.li rfl rfl rfl rfl (fun _ => rfl) ?_
      refine Wg.nil ⟨some_b hv11, ?_, rfl⟩
      repeat (first | exact Env.le_refl _ | refine Env.le_put rfl ?_)
    · have hv11 := iF hv11 hb12
      iterate 1 refine Wg.skip rfl rfl ?_
      refine Wg.li rfl rfl rfl rfl (fun _ => rfl) ?_
      refine Wg.nil ⟨some_b hv11, ?_, rfl⟩
      repeat (first | exact Env.le_refl _ | refine Env.le_put rfl ?_)
    refine Wg.li rfl rfl rfl rfl (fun _ => rfl) ?_
    refine Wg.nil ?_
    refine ⟨fun _ => ?_, fun h => absurd (by decide) h⟩
    refine Wp.ret ?_
    have h := Option.some.inj h
    subst h
    exact ⟨.inr (by decide), _, rfl, rfl⟩
end Go.Abs.Tr
