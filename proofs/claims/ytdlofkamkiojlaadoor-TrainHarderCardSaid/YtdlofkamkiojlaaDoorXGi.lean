/- Printed walks: the examples of the chapter. Conditions: none. -/
import Derived.Test.YtdlofkamkiojlaaDoorXGa
import Derived.Test.YtdlofkamkiojlaaDoorXGh
set_option maxRecDepth 100000
set_option maxHeartbeats 1000000
set_option linter.unusedVariables false
namespace Go.Abs.Tr
open Go Go.Abs Go.Proofs
def s48 (N : Nat) : Option (Table) :=
  (s46 N 480 1200).bind fun v1 =>
  (s46 N 480 720).bind fun v2 =>
  (s46 N 780 1140).bind fun v3 =>
  (s46 N 420 1320).bind fun v4 =>
  (s90 N 0 500 500).bind fun v5 =>
  (s90 N 1 560 565).bind fun v6 =>
  (s90 N 2 640 640).bind fun v7 =>
  (s46 N 0 20).bind fun v8 =>
  (s90 N 1 590 600).bind fun v9 =>
  (s90 N 2 650 650).bind fun v10 =>
  (s46 N 0 5).bind fun v11 =>
  (s90 N 0 700 700).bind fun v12 =>
  (s90 N 2 800 800).bind fun v13 =>
  (s46 N 0 60).bind fun v14 =>
  (s90 N 0 690 690).bind fun v15 =>
  (s90 N 1 705 710).bind fun v16 =>
  (s46 N 0 10).bind fun v17 =>
  some (Table.mk [[v1], [v2, v3], [v4]] [(Train.mk [v5, v6, v7] v8), (Train.mk [v9, v10] v11), (Train.mk [v12, v13] v14), (Train.mk [v15, v16] v17)] 10)
theorem at48 : ctx.P.funcs[48]? = some Tryd.f48 := by kernel_rfl
theorem s48_ev {N : Nat} {r : Table} (h : s48 N = some r) : ∀ H, Ev ctx (.call 48 [] H (.agg (eTable r)) H) := by
  refine Ev.of_pure at48 rfl rfl (Nat.le_of_ble_eq_true rfl) pNil (pv (pTab _)) ?_
  unfold s48 at h
  refine Wp.seq ?_
  refine Wp.reg rfl ?_
  refine Wg.alloc rfl rfl rfl rfl ?_
  refine Wg.nil ?_
  refine ⟨fun _ => ?_, fun h => absurd (by decide) h⟩
  refine Wp.seq ?_
  refine Wp.reg rfl ?_
  obtain ⟨v1, hv1, h⟩ := ob h
  refine Wg.call rfl rfl rfl rfl (s46_ev hv1 _) ?_
  refine Wg.li rfl rfl rfl rfl (fun _ => rfl) ?_
  obtain ⟨v2, hv2, h⟩ := ob h
  refine Wg.call rfl rfl rfl rfl (s46_ev hv2 _) ?_
  obtain ⟨v3, hv3, h⟩ := ob h
  refine Wg.call rfl rfl rfl rfl (s46_ev hv3 _) ?_
  refine Wg.li rfl rfl rfl rfl (fun _ => rfl) ?_
  obtain ⟨v4, hv4, h⟩ := ob h
  refine Wg.call rfl rfl rfl rfl (s46_ev hv4 _) ?_
  iterate 2 refine Wg.li rfl rfl rfl rfl (fun _ => rfl) ?_
  obtain ⟨v5, hv5, h⟩ := ob h
  refine Wg.call rfl rfl rfl rfl (s90_ev hv5 _) ?_
  obtain ⟨v6, hv6, h⟩ := ob h
  refine Wg.call rfl rfl rfl rfl (s90_ev hv6 _) ?_
  obtain ⟨v7, hv7, h⟩ := ob h
  refine Wg.call rfl rfl rfl rfl (s90_ev hv7 _) ?_
  refine Wg.li rfl rfl rfl rfl (fun _ => rfl) ?_
  obtain ⟨v8, hv8, h⟩ := ob h
  refine Wg.call rfl rfl rfl rfl (s46_ev hv8 _) ?_
  refine Wg.li rfl rfl rfl rfl (fun _ => rfl) ?_
  obtain ⟨v9, hv9, h⟩ := ob h
  refine Wg.call rfl rfl rfl rfl (s90_ev hv9 _) ?_
  obtain ⟨v10, hv10, h⟩ := ob h
  refine Wg.call rfl rfl rfl rfl (s90_ev hv10 _) ?_
  refine Wg.li rfl rfl rfl rfl (fun _ => rfl) ?_
  obtain ⟨v11, hv11, h⟩ := ob h
  refine Wg.call rfl rfl rfl rfl (s46_ev hv11 _) ?_
  refine Wg.li rfl rfl rfl rfl (fun _ => rfl) ?_
  obtain ⟨v12, hv12, h⟩ := ob h
  refine Wg.call rfl rfl rfl rfl (s90_ev hv12 _) ?_
  obtain ⟨v13, hv13, h⟩ := ob h
  refine Wg.call rfl rfl rfl rfl (s90_ev hv13 _) ?_
  refine Wg.li rfl rfl rfl rfl (fun _ => rfl) ?_
  obtain ⟨v14, hv14, h⟩ := ob h
  refine Wg.call rfl rfl rfl rfl (s46_ev hv14 _) ?_
  refine Wg.li rfl rfl rfl rfl (fun _ => rfl) ?_
  obtain ⟨v15, hv15, h⟩ := ob h
  refine Wg.call rfl rfl rfl rfl (s90_ev hv15 _) ?_
  obtain ⟨v16, hv16, h⟩ := ob h
  refine Wg.call rfl rfl rfl rfl (s90_ev hv16 _) ?_
  refine Wg.li rfl rfl rfl rfl (fun _ => rfl) ?_
  obtain ⟨v17, hv17, h⟩ := ob h
  refine Wg.call rfl rfl rfl rfl (s46_ev hv17 _) ?_
  iterate 3 refine Wg.li rfl rfl rfl rfl (fun _ => rfl) ?_
  refine Wg.heavy true (Nat.le_of_ble_eq_true rfl) rfl rfl rfl rfl ?_
  refine Wg.nil ?_
  refine ⟨fun _ => ?_, fun h => absurd (by decide) h⟩
  refine Sub.use (Sub.canon [some 0] [.cells (eTable (Table.mk [[v1], [v2, v3], [v4]] [(Train.mk [v5, v6, v7] v8), (Train.mk [v9, v10] v11), (Train.mk [v12, v13] v14), (Train.mk [v15, v16] v17)] 10))] [(0, .ptr 0 0)] rfl (by decide) ⟨.wk rfl (.cons (.unk (.cons (.unk (.refl _)) (.cons (.unk (.refl _)) (.cons (.unk (.refl _)) .nil)))) (.cons (.unk (.cons (.unk (.refl _)) (.cons (.refl _) (.cons (.refl _) (.cons (.unk (.refl _)) (.cons (.refl _) (.cons (.refl _) (.cons (.unk (.refl _)) (.cons (.refl _) (.cons (.refl _) (.cons (.unk (.refl _)) (.cons (.refl _) (.cons (.refl _) .nil))))))))))))) (.cons (.refl _) .nil))) (pTab _), trivial⟩ (.ptr rfl rfl .nil)) ?_
  refine Wp.ret ?_
  have h := Option.some.inj h
  subst h
  exact ⟨.inr (by decide), _, rfl, rfl⟩
def s50 (N : Nat) : Option ((List Leg)) :=
  (s49 N 0 0 1).bind fun v1 =>
  (s49 N 1 0 1).bind fun v2 =>
  some [v1, v2]
theorem at50 : ctx.P.funcs[50]? = some Tryd.f50 := by kernel_rfl
theorem s50_ev {N : Nat} {r : (List Leg)} (h : s50 N = some r) : ∀ H, Ev ctx (.call 50 [] H (lst eLeg r .unk) H) := by
  refine Ev.of_pure at50 rfl rfl (Nat.le_of_ble_eq_true rfl) pNil (Pure.lst pLeg _ pUnk) ?_
  unfold s50 at h
  refine Wp.seq ?_
  refine Wp.reg rfl ?_
  refine Wg.li rfl rfl rfl rfl (fun _ => rfl) ?_
  refine Wg.nil ?_
  refine ⟨fun _ => ?_, fun h => absurd (by decide) h⟩
  refine Wp.seq ?_
  refine Wp.reg rfl ?_
  obtain ⟨v1, hv1, h⟩ := ob h
  refine Wg.call rfl rfl rfl rfl (s49_ev hv1 _) ?_
  obtain ⟨v2, hv2, h⟩ := ob h
  refine Wg.call rfl rfl rfl rfl (s49_ev hv2 _) ?_
  iterate 2 refine Wg.li rfl rfl rfl rfl (fun _ => rfl) ?_
  refine Wg.nil ?_
  refine ⟨fun _ => ?_, fun h => absurd (by decide) h⟩
  refine Sub.use (Sub.canon [] [] [(0, lst eLeg [v1, v2] .unk)] rfl (by decide) trivial (.unk (c := .full) rfl pLeg .nil)) ?_
  refine Wp.ret ?_
  have h := Option.some.inj h
  subst h
  exact ⟨.inr (by decide), _, rfl, rfl⟩
def s23 (N : Nat) : Option (Bool) :=
  (s48 N).bind fun v1 =>
  (s50 N).bind fun v2 =>
  (s12 N v1 v2 0 2).bind fun v3 =>
  (s48 N).bind fun v4 =>
  (s49 N 0 0 2).bind fun v5 =>
  (s16 N v4 ([v5]) 495).bind fun v6 =>
  (s48 N).bind fun v7 =>
  (s50 N).bind fun v8 =>
  (s18 N v7 v8 495).bind fun v9 =>
  (s48 N).bind fun v10 =>
  (s49 N 3 0 1).bind fun v11 =>
  (s21 N v10 ([v11]) 600).bind fun v12 =>
  (if ((((((!(v3.2 == 0)) || (!(v6.2 == 0))) || (!(v9.2 == 0))) || (!(v12.2 == 0))) || (!v3.1)) || (!(v6.1 == 1))) then some true else 
    (s20 N v9.1 ([0])).bind fun v25 =>
    some (!v25)).bind fun v26 =>
  (if v26 then some true else 
    (s46 N 715 780).bind fun v29 =>
    some (!((v12.1.low == v29.low) && ((v12.1.high == v29.high) && true)))).bind fun v30 =>
  if v30 then
    some false
  else
    (s48 N).bind fun v32 =>
    (s24 N v32 0 2 480).bind fun v33 =>
    (s48 N).bind fun v34 =>
    (s27 N v34 0 2 480).bind fun v35 =>
    (s48 N).bind fun v36 =>
    (s29 N v36 0 2 480).bind fun v37 =>
    (s48 N).bind fun v38 =>
    (s31 N v38 0 2 700).bind fun v39 =>
    (s48 N).bind fun v40 =>
    (s33 N v40 0 600).bind fun v41 =>
    (if (((((v33.2 == 0) && (v35.2 == 0)) && (v37.2 == 0)) && (v39.2 == 0)) && (v41.2 == 0)) then 
      (s50 N).bind fun v52 =>
      (s26 N v33.1 v52).bind fun v53 =>
      some v53
     else some false).bind fun v54 =>
    (if (((v54 && (v35.1 == 665)) && (v37.1 == 650)) && (v39.1 == 490)) then 
      (s20 N v41.1 ([600, 780, 870])).bind fun v63 =>
      some v63
     else some false).bind fun v64 =>
    some v64
theorem at23 : ctx.P.funcs[23]? = some Tryd.f23 := by kernel_rfl
theorem s23_ev {N : Nat} {r : Bool} (h : s23 N = some r) : ∀ H, Ev ctx (.call 23 [] H (.bool r) H) := by
  refine Ev.of_pure at23 rfl rfl (Nat.le_of_ble_eq_true rfl) pNil (.bool _) ?_
  unfold s23 at h
  refine Wp.seq ?_
  refine Wp.reg rfl ?_
  refine Wg.li rfl rfl rfl rfl (fun _ => rfl) ?_
  refine Wg.nil ?_
  refine ⟨fun _ => ?_, fun h => absurd (by decide) h⟩
  refine Wp.seq ?_
  refine Wp.reg rfl ?_
  obtain ⟨v1, hv1, h⟩ := ob h
  refine Wg.call rfl rfl rfl rfl (s48_ev hv1 _) ?_
  obtain ⟨v2, hv2, h⟩ := ob h
  refine Wg.call rfl rfl rfl rfl (s50_ev hv2 _) ?_
  obtain ⟨v3, hv3, h⟩ := ob h
  refine Wg.call rfl rfl rfl rfl (s12_ev hv3 _) ?_
  iterate 5 refine Wg.li rfl rfl rfl rfl (fun _ => rfl) ?_
  refine Wg.nil ?_
  refine ⟨fun _ => ?_, fun h => absurd (by decide) h⟩
  refine Wp.seq ?_
  refine Wp.reg rfl ?_
  obtain ⟨v4, hv4, h⟩ := ob h
  refine Wg.call rfl rfl rfl rfl (s48_ev hv4 _) ?_
  obtain ⟨v5, hv5, h⟩ := ob h
  refine Wg.call rfl rfl rfl rfl (s49_ev hv5 _) ?_
  refine Wg.li rfl rfl rfl rfl (fun _ => rfl) ?_
  obtain ⟨v6, hv6, h⟩ := ob h
  refine Wg.callW rfl rfl rfl rfl (.cons (.refl _) (.cons (.unk (.refl _)) (.cons (.refl _) .nil))) (s16_ev hv6 _) ?_
  iterate 5 refine Wg.li rfl rfl rfl rfl (fun _ => rfl) ?_
  refine Wg.nil ?_
  refine ⟨fun _ => ?_, fun h => absurd (by decide) h⟩
  refine Wp.seq ?_
  refine Wp.reg rfl ?_
  obtain ⟨v7, hv7, h⟩ := ob h
  refine Wg.call rfl rfl rfl rfl (s48_ev hv7 _) ?_
  obtain ⟨v8, hv8, h⟩ := ob h
  refine Wg.call rfl rfl rfl rfl (s50_ev hv8 _) ?_
  obtain ⟨v9, hv9, h⟩ := ob h
  refine Wg.call rfl rfl rfl rfl (s18_ev hv9 _) ?_
  iterate 5 refine Wg.li rfl rfl rfl rfl (fun _ => rfl) ?_
  refine Wg.nil ?_
  refine ⟨fun _ => ?_, fun h => absurd (by decide) h⟩
  refine Wp.seq ?_
  refine Wp.reg rfl ?_
  obtain ⟨v10, hv10, h⟩ := ob h
  refine Wg.call rfl rfl rfl rfl (s48_ev hv10 _) ?_
  obtain ⟨v11, hv11, h⟩ := ob h
  refine Wg.call rfl rfl rfl rfl (s49_ev hv11 _) ?_
  refine Wg.li rfl rfl rfl rfl (fun _ => rfl) ?_
  obtain ⟨v12, hv12, h⟩ := ob h
  refine Wg.callW rfl rfl rfl rfl (.cons (.refl _) (.cons (.unk (.refl _)) (.cons (.refl _) .nil))) (s21_ev hv12 _) ?_
  iterate 3 refine Wg.li rfl rfl rfl rfl (fun _ => rfl) ?_
  refine Wg.alloc rfl rfl rfl rfl ?_
  refine Wg.heavy true (Nat.le_of_ble_eq_true rfl) rfl rfl rfl rfl ?_
  refine Wg.li rfl rfl rfl rfl (fun _ => rfl) ?_
  refine Wg.nil ?_
  refine ⟨fun _ => ?_, fun h => absurd (by decide) h⟩
  refine Wp.seq ?_
  refine Wp.seq ?_
  refine Wp.drw _ [] rfl (by kernel_rfl) (Nat.le_refl _) ?_
  iterate 3 refine Wg.li rfl rfl rfl rfl (fun _ => rfl) ?_
  have hv13 := ifOr (!(v3.2 == 0)) (!(v6.2 == 0))
  refine Wg.grp 3 45 42 ((!(v3.2 == 0)) || (!(v6.2 == 0))) (!(v3.2 == 0)) rfl rfl (Nat.le_of_ble_eq_true rfl) (fun hb14 => ?_) (fun hb14 => ?_) ?_
  · have hv13 := iT hv13 hb14
    iterate 2 refine Wg.skip rfl rfl ?_
    refine Wg.li rfl rfl rfl rfl (fun _ => rfl) ?_
    refine Wg.nil ⟨some_b hv13, ?_, rfl⟩
    repeat (first | exact Env.le_refl _ | refine Env.le_put rfl ?_)
  · have hv13 := iF hv13 hb14
    iterate 3 refine Wg.li rfl rfl rfl rfl (fun _ => rfl) ?_
    refine Wg.nil ⟨some_b hv13, ?_, rfl⟩
    repeat (first | exact Env.le_refl _ | refine Env.le_put rfl ?_)
  refine Wg.li rfl rfl rfl rfl (fun _ => rfl) ?_
  have hv15 := ifOr ((!(v3.2 == 0)) || (!(v6.2 == 0))) (!(v9.2 == 0))
  refine Wg.grp 3 49 46 (((!(v3.2 == 0)) || (!(v6.2 == 0))) || (!(v9.2 == 0))) ((!(v3.2 == 0)) || (!(v6.2 == 0))) rfl rfl (Nat.le_of_ble_eq_true rfl) (fun hb16 => ?_) (fun hb16 => ?_) ?_
  · have hv15 := iT hv15 hb16
    iterate 2 refine Wg.skip rfl rfl ?_
    refine Wg.li rfl rfl rfl rfl (fun _ => rfl) ?_
    refine Wg.nil ⟨some_b hv15, ?_, rfl⟩
    repeat (first | exact Env.le_refl _ | refine Env.le_put rfl ?_)
  · have hv15 := iF hv15 hb16
    iterate 3 refine Wg.li rfl rfl rfl rfl (fun _ => rfl) ?_
    refine Wg.nil ⟨some_b hv15, ?_, rfl⟩
    repeat (first | exact Env.le_refl _ | refine Env.le_put rfl ?_)
  refine Wg.li rfl rfl rfl rfl (fun _ => rfl) ?_
  have hv17 := ifOr (((!(v3.2 == 0)) || (!(v6.2 == 0))) || (!(v9.2 == 0))) (!(v12.2 == 0))
  refine Wg.grp 3 53 50 ((((!(v3.2 == 0)) || (!(v6.2 == 0))) || (!(v9.2 == 0))) || (!(v12.2 == 0))) (((!(v3.2 == 0)) || (!(v6.2 == 0))) || (!(v9.2 == 0))) rfl rfl (Nat.le_of_ble_eq_true rfl) (fun hb18 => ?_) (fun hb18 => ?_) ?_
  · have hv17 := iT hv17 hb18
    iterate 2 refine Wg.skip rfl rfl ?_
    refine Wg.li rfl rfl rfl rfl (fun _ => rfl) ?_
    refine Wg.nil ⟨some_b hv17, ?_, rfl⟩
    repeat (first | exact Env.le_refl _ | refine Env.le_put rfl ?_)
  · have hv17 := iF hv17 hb18
    iterate 3 refine Wg.li rfl rfl rfl rfl (fun _ => rfl) ?_
    refine Wg.nil ⟨some_b hv17, ?_, rfl⟩
    repeat (first | exact Env.le_refl _ | refine Env.le_put rfl ?_)
  refine Wg.li rfl rfl rfl rfl (fun _ => rfl) ?_
  have hv19 := ifOr ((((!(v3.2 == 0)) || (!(v6.2 == 0))) || (!(v9.2 == 0))) || (!(v12.2 == 0))) (!v3.1)
  refine Wg.grp 3 57 54 (((((!(v3.2 == 0)) || (!(v6.2 == 0))) || (!(v9.2 == 0))) || (!(v12.2 == 0))) || (!v3.1)) ((((!(v3.2 == 0)) || (!(v6.2 == 0))) || (!(v9.2 == 0))) || (!(v12.2 == 0))) rfl rfl (Nat.le_of_ble_eq_true rfl) (fun hb20 => ?_) (fun hb20 => ?_) ?_
  · have hv19 := iT hv19 hb20
    iterate 2 refine Wg.skip rfl rfl ?_
    refine Wg.li rfl rfl rfl rfl (fun _ => rfl) ?_
    refine Wg.nil ⟨some_b hv19, ?_, rfl⟩
    repeat (first | exact Env.le_refl _ | refine Env.le_put rfl ?_)
  · have hv19 := iF hv19 hb20
    iterate 3 refine Wg.li rfl rfl rfl rfl (fun _ => rfl) ?_
    refine Wg.nil ⟨some_b hv19, ?_, rfl⟩
    repeat (first | exact Env.le_refl _ | refine Env.le_put rfl ?_)
  refine Wg.li rfl rfl rfl rfl (fun _ => rfl) ?_
  have hv21 := ifOr (((((!(v3.2 == 0)) || (!(v6.2 == 0))) || (!(v9.2 == 0))) || (!(v12.2 == 0))) || (!v3.1)) (!(v6.1 == 1))
  refine Wg.grp 3 61 58 ((((((!(v3.2 == 0)) || (!(v6.2 == 0))) || (!(v9.2 == 0))) || (!(v12.2 == 0))) || (!v3.1)) || (!(v6.1 == 1))) (((((!(v3.2 == 0)) || (!(v6.2 == 0))) || (!(v9.2 == 0))) || (!(v12.2 == 0))) || (!v3.1)) rfl rfl (Nat.le_of_ble_eq_true rfl) (fun hb22 => ?_) (fun hb22 => ?_) ?_
  · have hv21 := iT hv21 hb22
    iterate 2 refine Wg.skip rfl rfl ?_
    refine Wg.li rfl rfl rfl rfl (fun _ => rfl) ?_
    refine Wg.nil ⟨some_b hv21, ?_, rfl⟩
    repeat (first | exact Env.le_refl _ | refine Env.le_put rfl ?_)
  · have hv21 := iF hv21 hb22
    iterate 3 refine Wg.li rfl rfl rfl rfl (fun _ => rfl) ?_
    refine Wg.nil ⟨some_b hv21, ?_, rfl⟩
    repeat (first | exact Env.le_refl _ | refine Env.le_put rfl ?_)
  refine Wg.li rfl rfl rfl rfl (fun _ => rfl) ?_
  obtain ⟨v26, hv23, h⟩ := ob h
  refine Wg.grp 5 67 62 v26 ((((((!(v3.2 == 0)) || (!(v6.2 == 0))) || (!(v9.2 == 0))) || (!(v12.2 == 0))) || (!v3.1)) || (!(v6.1 == 1))) rfl rfl (Nat.le_of_ble_eq_true rfl) (fun hb24 => ?_) (fun hb24 => ?_) ?_
  · have hv23 := iT hv23 hb24
    iterate 4 refine Wg.skip rfl rfl ?_
    refine Wg.li rfl rfl rfl rfl (fun _ => rfl) ?_
    refine Wg.nil ⟨some_b hv23, ?_, rfl⟩
    repeat (first | exact Env.le_refl _ | refine Env.le_put rfl ?_)
  · have hv23 := iF hv23 hb24
    iterate 2 refine Wg.li rfl rfl rfl rfl (fun _ => rfl) ?_
    obtain ⟨v25, hv25, hv23⟩ := ob hv23
    refine Wg.callW rfl rfl rfl rfl (.cons (.refl _) (.cons (.unk (.refl _)) .nil)) (s20_ev hv25 _) ?_
    iterate 2 refine Wg.li rfl rfl rfl rfl (fun _ => rfl) ?_
    refine Wg.nil ⟨some_b hv23, ?_, rfl⟩
    repeat (first | exact Env.le_refl _ | refine Env.le_put rfl ?_)
  refine Wg.li rfl rfl rfl rfl (fun _ => rfl) ?_
  obtain ⟨v30, hv27, h⟩ := ob h
  refine Wg.grp 4 72 68 v30 v26 rfl rfl (Nat.le_of_ble_eq_true rfl) (fun hb28 => ?_) (fun hb28 => ?_) ?_
  · have hv27 := iT hv27 hb28
    iterate 3 refine Wg.skip rfl rfl ?_
    refine Wg.li rfl rfl rfl rfl (fun _ => rfl) ?_
    refine Wg.nil ⟨some_b hv27, ?_, rfl⟩
    repeat (first | exact Env.le_refl _ | refine Env.le_put rfl ?_)
  · have hv27 := iF hv27 hb28
    refine Wg.ld rfl rfl rfl rfl rfl rfl ?_
    obtain ⟨v29, hv29, hv27⟩ := ob hv27
    refine Wg.call rfl rfl rfl rfl (s46_ev hv29 _) ?_
    iterate 2 refine Wg.li rfl rfl rfl rfl (fun _ => rfl) ?_
    refine Wg.nil ⟨some_b hv27, ?_, rfl⟩
    repeat (first | exact Env.le_refl _ | refine Env.le_put rfl ?_)
  refine Wg.nil ?_
  refine ⟨fun _ => ?_, fun h => absurd (by decide) h⟩
  refine Wp.cond v30 rfl (fun hb31 => ?_) (fun hb31 => ?_)
  · have h := iT h hb31
    refine Wp.seq ?_
    refine Wp.reg rfl ?_
    refine Wg.li rfl rfl rfl rfl (fun _ => rfl) ?_
    refine Wg.nil ?_
    refine ⟨fun _ => ?_, fun h => absurd (by decide) h⟩
    refine Wp.ret ?_
    refine ⟨fun h => absurd h (by decide), fun _ => ?_⟩
    have h := Option.some.inj h
    subst h
    exact ⟨.inr (by decide), _, rfl, rfl⟩
  · have h := iF h hb31
    refine Wp.skip ?_
    refine ⟨fun _ => ?_, fun h => absurd (by decide) h⟩
    refine Wp.seq ?_
    refine Wp.reg rfl ?_
    obtain ⟨v32, hv32, h⟩ := ob h
    refine Wg.call rfl rfl rfl rfl (s48_ev hv32 _) ?_
    obtain ⟨v33, hv33, h⟩ := ob h
    refine Wg.call rfl rfl rfl rfl (s24_ev hv33 _) ?_
    iterate 5 refine Wg.li rfl rfl rfl rfl (fun _ => rfl) ?_
    refine Wg.nil ?_
    refine ⟨fun _ => ?_, fun h => absurd (by decide) h⟩
    refine Wp.seq ?_
    refine Wp.reg rfl ?_
    obtain ⟨v34, hv34, h⟩ := ob h
    refine Wg.call rfl rfl rfl rfl (s48_ev hv34 _) ?_
    obtain ⟨v35, hv35, h⟩ := ob h
    refine Wg.call rfl rfl rfl rfl (s27_ev hv35 _) ?_
    iterate 5 refine Wg.li rfl rfl rfl rfl (fun _ => rfl) ?_
    refine Wg.nil ?_
    refine ⟨fun _ => ?_, fun h => absurd (by decide) h⟩
    refine Wp.seq ?_
    refine Wp.reg rfl ?_
    obtain ⟨v36, hv36, h⟩ := ob h
    refine Wg.call rfl rfl rfl rfl (s48_ev hv36 _) ?_
    obtain ⟨v37, hv37, h⟩ := ob h
    refine Wg.call rfl rfl rfl rfl (s29_ev hv37 _) ?_
    iterate 5 refine Wg.li rfl rfl rfl rfl (fun _ => rfl) ?_
    refine Wg.nil ?_
    refine ⟨fun _ => ?_, fun h => absurd (by decide) h⟩
    refine Wp.seq ?_
    refine Wp.reg rfl ?_
    obtain ⟨v38, hv38, h⟩ := ob h
    refine Wg.call rfl rfl rfl rfl (s48_ev hv38 _) ?_
    obtain ⟨v39, hv39, h⟩ := ob h
    refine Wg.call rfl rfl rfl rfl (s31_ev hv39 _) ?_
    iterate 5 refine Wg.li rfl rfl rfl rfl (fun _ => rfl) ?_
    refine Wg.nil ?_
    refine ⟨fun _ => ?_, fun h => absurd (by decide) h⟩
    refine Wp.seq ?_
    refine Wp.reg rfl ?_
    obtain ⟨v40, hv40, h⟩ := ob h
    refine Wg.call rfl rfl rfl rfl (s48_ev hv40 _) ?_
    obtain ⟨v41, hv41, h⟩ := ob h
    refine Wg.call rfl rfl rfl rfl (s33_ev hv41 _) ?_
    iterate 5 refine Wg.li rfl rfl rfl rfl (fun _ => rfl) ?_
    refine Wg.nil ?_
    refine ⟨fun _ => ?_, fun h => absurd (by decide) h⟩
    refine Wp.seq ?_
    refine Wp.reg rfl ?_
    iterate 3 refine Wg.li rfl rfl rfl rfl (fun _ => rfl) ?_
    have hv42 := ifAnd (v33.2 == 0) (v35.2 == 0)
    refine Wg.grp 3 103 100 ((v33.2 == 0) && (v35.2 == 0)) (v33.2 == 0) rfl rfl (Nat.le_of_ble_eq_true rfl) (fun hb43 => ?_) (fun hb43 => ?_) ?_
    · have hv42 := iT hv42 hb43
      iterate 3 refine Wg.li rfl rfl rfl rfl (fun _ => rfl) ?_
      refine Wg.nil ⟨some_b hv42, ?_, rfl⟩
      repeat (first | exact Env.le_refl _ | refine Env.le_put rfl ?_)
    · have hv42 := iF hv42 hb43
      iterate 2 refine Wg.skip rfl rfl ?_
      refine Wg.li rfl rfl rfl rfl (fun _ => rfl) ?_
      refine Wg.nil ⟨some_b hv42, ?_, rfl⟩
      repeat (first | exact Env.le_refl _ | refine Env.le_put rfl ?_)
    refine Wg.li rfl rfl rfl rfl (fun _ => rfl) ?_
    have hv44 := ifAnd ((v33.2 == 0) && (v35.2 == 0)) (v37.2 == 0)
    refine Wg.grp 3 107 104 (((v33.2 == 0) && (v35.2 == 0)) && (v37.2 == 0)) ((v33.2 == 0) && (v35.2 == 0)) rfl rfl (Nat.le_of_ble_eq_true rfl) (fun hb45 => ?_) (fun hb45 => ?_) ?_
    · have hv44 := iT hv44 hb45
      iterate 3 refine Wg.li rfl rfl rfl rfl (fun _ => rfl) ?_
      refine Wg.nil ⟨some_b hv44, ?_, rfl⟩
      repeat (first | exact Env.le_refl _ | refine Env.le_put rfl ?_)
    · have hv44 := iF hv44 hb45
      iterate 2 refine Wg.skip rfl rfl ?_
      refine Wg.li rfl rfl rfl rfl (fun _ => rfl) ?_
      refine Wg.nil ⟨some_b hv44, ?_, rfl⟩
      repeat (first | exact Env.le_refl _ | refine Env.le_put rfl ?_)
    refine Wg.li rfl rfl rfl rfl (fun _ => rfl) ?_
    have hv46 := ifAnd (((v33.2 == 0) && (v35.2 == 0)) && (v37.2 == 0)) (v39.2 == 0)
    refine Wg.grp 3 111 108 ((((v33.2 == 0) && (v35.2 == 0)) && (v37.2 == 0)) && (v39.2 == 0)) (((v33.2 == 0) && (v35.2 == 0)) && (v37.2 == 0)) rfl rfl (Nat.le_of_ble_eq_true rfl) (fun hb47 => ?_) (fun hb47 => ?_) ?_
    · have hv46 := iT hv46 hb47
      iterate 3 refine Wg.li rfl rfl rfl rfl (fun _ => rfl) ?_
      refine Wg.nil ⟨some_b hv46, ?_, rfl⟩
      repeat (first | exact Env.le_refl _ | refine Env.le_put rfl ?_)
    · have hv46 := iF hv46 hb47
      iterate 2 refine Wg.skip rfl rfl ?_
      refine Wg.li rfl rfl rfl rfl (fun _ => rfl) ?_
      refine Wg.nil ⟨some_b hv46, ?_, rfl⟩
      repeat (first | exact Env.le_refl _ | refine Env.le_put rfl ?_)
    refine Wg.li rfl rfl rfl rfl (fun _ => rfl) ?_
    have hv48 := ifAnd ((((v33.2 == 0) && (v35.2 == 0)) && (v37.2 == 0)) && (v39.2 == 0)) (v41.2 == 0)
    refine Wg.grp 3 115 112 (((((v33.2 == 0) && (v35.2 == 0)) && (v37.2 == 0)) && (v39.2 == 0)) && (v41.2 == 0)) ((((v33.2 == 0) && (v35.2 == 0)) && (v37.2 == 0)) && (v39.2 == 0)) rfl rfl (Nat.le_of_ble_eq_true rfl) (fun hb49 => ?_) (fun hb49 => ?_) ?_
    · have hv48 := iT hv48 hb49
      iterate 3 refine Wg.li rfl rfl rfl rfl (fun _ => rfl) ?_
      refine Wg.nil ⟨some_b hv48, ?_, rfl⟩
      repeat (first | exact Env.le_refl _ | refine Env.le_put rfl ?_)
    · have hv48 := iF hv48 hb49
      iterate 2 refine Wg.skip rfl rfl ?_
      refine Wg.li rfl rfl rfl rfl (fun _ => rfl) ?_
      refine Wg.nil ⟨some_b hv48, ?_, rfl⟩
      repeat (first | exact Env.le_refl _ | refine Env.le_put rfl ?_)
    refine Wg.li rfl rfl rfl rfl (fun _ => rfl) ?_
    obtain ⟨v54, hv50, h⟩ := ob h
    refine Wg.grp 4 120 116 v54 (((((v33.2 == 0) && (v35.2 == 0)) && (v37.2 == 0)) && (v39.2 == 0)) && (v41.2 == 0)) rfl rfl (Nat.le_of_ble_eq_true rfl) (fun hb51 => ?_) (fun hb51 => ?_) ?_
    · have hv50 := iT hv50 hb51
      refine Wg.li rfl rfl rfl rfl (fun _ => rfl) ?_
      obtain ⟨v52, hv52, hv50⟩ := ob hv50
      refine Wg.call rfl rfl rfl rfl (s50_ev hv52 _) ?_
      obtain ⟨v53, hv53, hv50⟩ := ob hv50
      refine Wg.call rfl rfl rfl rfl (s26_ev hv53 _) ?_
      refine Wg.li rfl rfl rfl rfl (fun _ => rfl) ?_
      refine Wg.nil ⟨some_b hv50, ?_, rfl⟩
      repeat (first | exact Env.le_refl _ | refine Env.le_put rfl ?_)
    · have hv50 := iF hv50 hb51
      iterate 3 refine Wg.skip rfl rfl ?_
      refine Wg.li rfl rfl rfl rfl (fun _ => rfl) ?_
      refine Wg.nil ⟨some_b hv50, ?_, rfl⟩
      repeat (first | exact Env.le_refl _ | refine Env.le_put rfl ?_)
    refine Wg.li rfl rfl rfl rfl (fun _ => rfl) ?_
    have hv55 := ifAnd v54 (v35.1 == 665)
    refine Wg.grp 3 124 121 (v54 && (v35.1 == 665)) v54 rfl rfl (Nat.le_of_ble_eq_true rfl) (fun hb56 => ?_) (fun hb56 => ?_) ?_
    · have hv55 := iT hv55 hb56
      iterate 3 refine Wg.li rfl rfl rfl rfl (fun _ => rfl) ?_
      refine Wg.nil ⟨some_b hv55, ?_, rfl⟩
      repeat (first | exact Env.le_refl _ | refine Env.le_put rfl ?_)
    · have hv55 := iF hv55 hb56
      iterate 2 refine Wg.skip rfl rfl ?_
      refine Wg.li rfl rfl rfl rfl (fun _ => rfl) ?_
      refine Wg.nil ⟨some_b hv55, ?_, rfl⟩
      repeat (first | exact Env.le_refl _ | refine Env.le_put rfl ?_)
    refine Wg.li rfl rfl rfl rfl (fun _ => rfl) ?_
    have hv57 := ifAnd (v54 && (v35.1 == 665)) (v37.1 == 650)
    refine Wg.grp 3 128 125 ((v54 && (v35.1 == 665)) && (v37.1 == 650)) (v54 && (v35.1 == 665)) rfl rfl (Nat.le_of_ble_eq_true rfl) (fun hb58 => ?_) (fun hb58 => ?_) ?_
    · have hv57 := iT hv57 hb58
      iterate 3 refine Wg.li rfl rfl rfl rfl (fun _ => rfl) ?_
      refine Wg.nil ⟨some_b hv57, ?_, rfl⟩
      repeat (first | exact Env.le_refl _ | refine Env.le_put rfl ?_)
    · have hv57 := iF hv57 hb58
      iterate 2 refine Wg.skip rfl rfl ?_
      refine Wg.li rfl rfl rfl rfl (fun _ => rfl) ?_
      refine Wg.nil ⟨some_b hv57, ?_, rfl⟩
      repeat (first | exact Env.le_refl _ | refine Env.le_put rfl ?_)
    refine Wg.li rfl rfl rfl rfl (fun _ => rfl) ?_
    have hv59 := ifAnd ((v54 && (v35.1 == 665)) && (v37.1 == 650)) (v39.1 == 490)
    refine Wg.grp 3 132 129 (((v54 && (v35.1 == 665)) && (v37.1 == 650)) && (v39.1 == 490)) ((v54 && (v35.1 == 665)) && (v37.1 == 650)) rfl rfl (Nat.le_of_ble_eq_true rfl) (fun hb60 => ?_) (fun hb60 => ?_) ?_
    · have hv59 := iT hv59 hb60
      iterate 3 refine Wg.li rfl rfl rfl rfl (fun _ => rfl) ?_
      refine Wg.nil ⟨some_b hv59, ?_, rfl⟩
      repeat (first | exact Env.le_refl _ | refine Env.le_put rfl ?_)
    · have hv59 := iF hv59 hb60
      iterate 2 refine Wg.skip rfl rfl ?_
      refine Wg.li rfl rfl rfl rfl (fun _ => rfl) ?_
      refine Wg.nil ⟨some_b hv59, ?_, rfl⟩
      repeat (first | exact Env.le_refl _ | refine Env.le_put rfl ?_)
    refine Wg.li rfl rfl rfl rfl (fun _ => rfl) ?_
    obtain ⟨v64, hv61, h⟩ := ob h
    refine Wg.grp 4 137 133 v64 (((v54 && (v35.1 == 665)) && (v37.1 == 650)) && (v39.1 == 490)) rfl rfl (Nat.le_of_ble_eq_true rfl) (fun hb62 => ?_) (fun hb62 => ?_) ?_
    · have hv61 := iT hv61 hb62
      iterate 2 refine Wg.li rfl rfl rfl rfl (fun _ => rfl) ?_
      obtain ⟨v63, hv63, hv61⟩ := ob hv61
      refine Wg.callW rfl rfl rfl rfl (.cons (.refl _) (.cons (.unk (.refl _)) .nil)) (s20_ev hv63 _) ?_
      refine Wg.li rfl rfl rfl rfl (fun _ => rfl) ?_
      refine Wg.nil ⟨some_b hv61, ?_, rfl⟩
      repeat (first | exact Env.le_refl _ | refine Env.le_put rfl ?_)
    · have hv61 := iF hv61 hb62
      iterate 3 refine Wg.skip rfl rfl ?_
      refine Wg.li rfl rfl rfl rfl (fun _ => rfl) ?_
      refine Wg.nil ⟨some_b hv61, ?_, rfl⟩
      repeat (first | exact Env.le_refl _ | refine Env.le_put rfl ?_)
    refine Wg.li rfl rfl rfl rfl (fun _ => rfl) ?_
    refine Wg.nil ?_
    refine ⟨fun _ => ?_, fun h => absurd (by decide) h⟩
    refine Wp.ret ?_
    have h := Option.some.inj h
    subst h
    exact ⟨.inr (by decide), _, rfl, rfl⟩
end Go.Abs.Tr
