/- Printed walk: the statement TrainBests. Conditions: none. -/
import Derived.Test.YtdlofkamkiojlaaDoorGi
import Derived.Test.YtdlofkamkiojlaaDoorGk
set_option maxRecDepth 100000
set_option maxHeartbeats 1000000
set_option linter.unusedVariables false
namespace Go.Abs.Tr
open Go Go.Abs Go.Proofs
def s4 (N : Nat) (a0 : Table) (a1_0 : Int) (a1_1 : Int) (a1_2 : Int) : Option (Bool) :=
  (s24 N a0 a1_0 a1_1 a1_2).bind fun v1 =>
  (s25 N a0 a1_0 a1_1 a1_2).bind fun v2 =>
  (s26 N v1.1 v2.1).bind fun v3 =>
  if ((!v3) || (!(v1.2 == v2.2))) then
    some false
  else
    (s27 N a0 a1_0 a1_1 a1_2).bind fun v7 =>
    (s28 N a0 a1_0 a1_1 a1_2).bind fun v8 =>
    if ((!(v7.1 == v8.1)) || (!(v7.2 == v8.2))) then
      some false
    else
      (s29 N a0 a1_0 a1_1 a1_2).bind fun v12 =>
      (s30 N a0 a1_0 a1_1 a1_2).bind fun v13 =>
      (if ((v12.1 == v13.1) && (v12.2 == v13.2)) then 
        (s23 4000).bind fun v18 =>
        some v18
       else some false).bind fun v19 =>
      some v19
abbrev F4 : Fr := { r := false, N := 105, m := 0 }
theorem at4 : ctx.P.funcs[4]? = some Tryd.f4 := by kernel_rfl
theorem s4_ev {N : Nat} {a0 : Table} {a1_0 : Int} {a1_1 : Int} {a1_2 : Int} {r : Bool} (h : s4 N a0 a1_0 a1_1 a1_2 = some r) : ∀ H, Ev ctx (.call 4 [.agg (eTable a0), .agg [.int .i64 a1_0, .int .i64 a1_1, .int .i64 a1_2]] H (.bool r) H) := by
  refine Ev.of_pure at4 rfl rfl (Nat.le_of_ble_eq_true rfl) (pCons (pv (pTab _)) (pCons (pv (pCons (.int _ _) (pCons (.int _ _) (pCons (.int _ _) pNil)))) pNil)) (.bool _) ?_
  unfold s4 at h
  refine Wp.seq ?_
  refine Wp.reg rfl ?_
  refine Wg.box rfl rfl rfl rfl ?_
  refine Wg.box rfl rfl rfl rfl ?_
  refine Wg.li rfl rfl rfl rfl (fun _ => rfl) ?_
  refine Wg.nil ?_
  refine ⟨fun _ => ?_, fun h => absurd (by decide) h⟩
  refine Wp.seq ?_
  refine Wp.reg rfl ?_
  iterate 7 refine Wg.li rfl rfl rfl rfl (fun _ => rfl) ?_
  obtain ⟨v1, hv1, h⟩ := ob h
  refine Wg.call rfl rfl rfl rfl (s24_ev hv1 _) ?_
  iterate 5 refine Wg.li rfl rfl rfl rfl (fun _ => rfl) ?_
  refine Wg.nil ?_
  refine ⟨fun _ => ?_, fun h => absurd (by decide) h⟩
  refine Wp.seq ?_
  refine Wp.reg rfl ?_
  iterate 7 refine Wg.li rfl rfl rfl rfl (fun _ => rfl) ?_
  obtain ⟨v2, hv2, h⟩ := ob h
  refine Wg.call rfl rfl rfl rfl (s25_ev hv2 _) ?_
  iterate 5 refine Wg.li rfl rfl rfl rfl (fun _ => rfl) ?_
  refine Wg.nil ?_
  refine ⟨fun _ => ?_, fun h => absurd (by decide) h⟩
  refine Wp.seq ?_
  refine Wp.seq ?_
  refine Wp.reg rfl ?_
  iterate 2 refine Wg.li rfl rfl rfl rfl (fun _ => rfl) ?_
  obtain ⟨v3, hv3, h⟩ := ob h
  refine Wg.call rfl rfl rfl rfl (s26_ev hv3 _) ?_
  iterate 2 refine Wg.li rfl rfl rfl rfl (fun _ => rfl) ?_
  have hv4 := ifOr (!v3) (!(v1.2 == v2.2))
  refine Wg.grp 4 41 37 ((!v3) || (!(v1.2 == v2.2))) (!v3) rfl rfl (Nat.le_of_ble_eq_true rfl) (fun hb5 => ?_) (fun hb5 => ?_) ?_
  · have hv4 := iT hv4 hb5
    iterate 3 refine Wg.skip rfl rfl ?_
    refine Wg.li rfl rfl rfl rfl (fun _ => rfl) ?_
    refine Wg.nil ⟨some_b hv4, ?_, rfl⟩
    repeat (first | exact Env.le_refl _ | refine Env.le_put rfl ?_)
  · have hv4 := iF hv4 hb5
    iterate 4 refine Wg.li rfl rfl rfl rfl (fun _ => rfl) ?_
    refine Wg.nil ⟨some_b hv4, ?_, rfl⟩
    repeat (first | exact Env.le_refl _ | refine Env.le_put rfl ?_)
  refine Wg.nil ?_
  refine ⟨fun _ => ?_, fun h => absurd (by decide) h⟩
  refine Wp.cond ((!v3) || (!(v1.2 == v2.2))) rfl (fun hb6 => ?_) (fun hb6 => ?_)
  · have h := iT h hb6
    refine Wp.seq ?_
    refine Wp.reg rfl ?_
    refine Wg.li rfl rfl rfl rfl (fun _ => rfl) ?_
    refine Wg.nil ?_
    refine ⟨fun _ => ?_, fun h => absurd (by decide) h⟩
    refine Wp.ret ?_
    refine ⟨fun h => absurd h (by decide), fun _ => ?_⟩
    have h := Option.some.inj h
    subst h
    exact ⟨.inr (by decide), _, rfl, rfl⟩
  · have h := iF h hb6
    refine Wp.skip ?_
    refine ⟨fun _ => ?_, fun h => absurd (by decide) h⟩
    refine Wp.seq ?_
    refine Wp.reg rfl ?_
    iterate 7 refine Wg.li rfl rfl rfl rfl (fun _ => rfl) ?_
    obtain ⟨v7, hv7, h⟩ := ob h
    refine Wg.call rfl rfl rfl rfl (s27_ev hv7 _) ?_
    iterate 5 refine Wg.li rfl rfl rfl rfl (fun _ => rfl) ?_
    refine Wg.nil ?_
    refine ⟨fun _ => ?_, fun h => absurd (by decide) h⟩
    refine Wp.seq ?_
    refine Wp.reg rfl ?_
    iterate 7 refine Wg.li rfl rfl rfl rfl (fun _ => rfl) ?_
    obtain ⟨v8, hv8, h⟩ := ob h
    refine Wg.call rfl rfl rfl rfl (s28_ev hv8 _) ?_
    iterate 5 refine Wg.li rfl rfl rfl rfl (fun _ => rfl) ?_
    refine Wg.nil ?_
    refine ⟨fun _ => ?_, fun h => absurd (by decide) h⟩
    refine Wp.seq ?_
    refine Wp.seq ?_
    refine Wp.reg rfl ?_
    iterate 4 refine Wg.li rfl rfl rfl rfl (fun _ => rfl) ?_
    have hv9 := ifOr (!(v7.1 == v8.1)) (!(v7.2 == v8.2))
    refine Wg.grp 4 71 67 ((!(v7.1 == v8.1)) || (!(v7.2 == v8.2))) (!(v7.1 == v8.1)) rfl rfl (Nat.le_of_ble_eq_true rfl) (fun hb10 => ?_) (fun hb10 => ?_) ?_
    · have hv9 := iT hv9 hb10
      iterate 3 refine Wg.skip rfl rfl ?_
      refine Wg.li rfl rfl rfl rfl (fun _ => rfl) ?_
      refine Wg.nil ⟨some_b hv9, ?_, rfl⟩
      repeat (first | exact Env.le_refl _ | refine Env.le_put rfl ?_)
    · have hv9 := iF hv9 hb10
      iterate 4 refine Wg.li rfl rfl rfl rfl (fun _ => rfl) ?_
      refine Wg.nil ⟨some_b hv9, ?_, rfl⟩
      repeat (first | exact Env.le_refl _ | refine Env.le_put rfl ?_)
    refine Wg.nil ?_
    refine ⟨fun _ => ?_, fun h => absurd (by decide) h⟩
    refine Wp.cond ((!(v7.1 == v8.1)) || (!(v7.2 == v8.2))) rfl (fun hb11 => ?_) (fun hb11 => ?_)
    · have h := iT h hb11
      refine Wp.seq ?_
      refine Wp.reg rfl ?_
      refine Wg.li rfl rfl rfl rfl (fun _ => rfl) ?_
      refine Wg.nil ?_
      refine ⟨fun _ => ?_, fun h => absurd (by decide) h⟩
      refine Wp.ret ?_
      refine ⟨fun h => absurd h (by decide), fun _ => ?_⟩
      have h := Option.some.inj h
      subst h
      exact ⟨.inr (by decide), _, rfl, rfl⟩
    · have h := iF h hb11
      refine Wp.skip ?_
      refine ⟨fun _ => ?_, fun h => absurd (by decide) h⟩
      refine Wp.seq ?_
      refine Wp.reg rfl ?_
      iterate 7 refine Wg.li rfl rfl rfl rfl (fun _ => rfl) ?_
      obtain ⟨v12, hv12, h⟩ := ob h
      refine Wg.call rfl rfl rfl rfl (s29_ev hv12 _) ?_
      iterate 5 refine Wg.li rfl rfl rfl rfl (fun _ => rfl) ?_
      refine Wg.nil ?_
      refine ⟨fun _ => ?_, fun h => absurd (by decide) h⟩
      refine Wp.seq ?_
      refine Wp.reg rfl ?_
      iterate 7 refine Wg.li rfl rfl rfl rfl (fun _ => rfl) ?_
      obtain ⟨v13, hv13, h⟩ := ob h
      refine Wg.call rfl rfl rfl rfl (s30_ev hv13 _) ?_
      iterate 5 refine Wg.li rfl rfl rfl rfl (fun _ => rfl) ?_
      refine Wg.nil ?_
      refine ⟨fun _ => ?_, fun h => absurd (by decide) h⟩
      refine Wp.seq ?_
      refine Wp.reg rfl ?_
      iterate 4 refine Wg.li rfl rfl rfl rfl (fun _ => rfl) ?_
      have hv14 := ifAnd (v12.1 == v13.1) (v12.2 == v13.2)
      refine Wg.grp 4 101 97 ((v12.1 == v13.1) && (v12.2 == v13.2)) (v12.1 == v13.1) rfl rfl (Nat.le_of_ble_eq_true rfl) (fun hb15 => ?_) (fun hb15 => ?_) ?_
      · have hv14 := iT hv14 hb15
        iterate 4 refine Wg.li rfl rfl rfl rfl (fun _ => rfl) ?_
        refine Wg.nil ⟨some_b hv14, ?_, rfl⟩
        repeat (first | exact Env.le_refl _ | refine Env.le_put rfl ?_)
      · have hv14 := iF hv14 hb15
        iterate 3 refine Wg.skip rfl rfl ?_
        refine Wg.li rfl rfl rfl rfl (fun _ => rfl) ?_
        refine Wg.nil ⟨some_b hv14, ?_, rfl⟩
        repeat (first | exact Env.le_refl _ | refine Env.le_put rfl ?_)
      refine Wg.li rfl rfl rfl rfl (fun _ => rfl) ?_
      obtain ⟨v19, hv16, h⟩ := ob h
      refine Wg.grp 2 104 102 v19 ((v12.1 == v13.1) && (v12.2 == v13.2)) rfl rfl (Nat.le_of_ble_eq_true rfl) (fun hb17 => ?_) (fun hb17 => ?_) ?_
      · have hv16 := iT hv16 hb17
        obtain ⟨v18, hv18, hv16⟩ := ob hv16
        refine Wg.call rfl rfl rfl rfl (s23_ev hv18 _) ?_
        refine Wg.li rfl rfl rfl rfl (fun _ => rfl) ?_
        refine Wg.nil ⟨some_b hv16, ?_, rfl⟩
        repeat (first | exact Env.le_refl _ | refine Env.le_put rfl ?_)
      · have hv16 := iF hv16 hb17
        iterate 1 refine Wg.skip rfl rfl ?_
        refine Wg.li rfl rfl rfl rfl (fun _ => rfl) ?_
        refine Wg.nil ⟨some_b hv16, ?_, rfl⟩
        repeat (first | exact Env.le_refl _ | refine Env.le_put rfl ?_)
      refine Wg.li rfl rfl rfl rfl (fun _ => rfl) ?_
      refine Wg.nil ?_
      refine ⟨fun _ => ?_, fun h => absurd (by decide) h⟩
      refine Wp.ret ?_
      have h := Option.some.inj h
      subst h
      exact ⟨.inr (by decide), _, rfl, rfl⟩
end Go.Abs.Tr
