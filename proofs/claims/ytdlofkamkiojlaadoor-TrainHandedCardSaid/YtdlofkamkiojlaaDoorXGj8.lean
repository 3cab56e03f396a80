/- Printed walk: the statement TrainHanded. Conditions: none. -/
import Derived.Test.YtdlofkamkiojlaaDoorXGl
set_option maxRecDepth 100000
set_option maxHeartbeats 1000000
set_option linter.unusedVariables false
namespace Go.Abs.Tr
open Go Go.Abs Go.Proofs
def s8 (N : Nat) (a0 : Table) (a1_0 : Int) (a1_1 : Int) (a1_2 : Int) (a1_3 : Int) : Option (Bool) :=
  (s35 N a0).bind fun v1 =>
  if ((!v1) || (decide ((a0.offices.length : Int) < 2))) then
    (s23 4000).bind fun v5 =>
    some v5
  else
    (s36 N a1_0 (a0.offices.length : Int)).bind fun v6 =>
    (ck (v6 + 1)).bind fun v7 =>
    (ck ((a0.offices.length : Int) - 1)).bind fun v8 =>
    (s36 N a1_1 v8).bind fun v9 =>
    (ck (v7 + v9)).bind fun v10 =>
    (s36 N v10 (a0.offices.length : Int)).bind fun v11 =>
    (s36 N a1_2 2880).bind fun v12 =>
    (s31 N a0 v6 v11 v12).bind fun v13 =>
    if ((!(v13.2 == 0)) && ((!(v13.2 == 4)) || (!(v13.1 == 0)))) then
      some false
    else
      (s46 N 0 2879).bind fun v19 =>
      (s45 N v19 a1_3).bind fun v20 =>
      ((if (v13.2 == 0) then
        (s47 N v13.1 0 2879).bind fun v24 =>
        if (!v24) then
          some (.inr false)
        else
          (s27 N a0 v6 v11 v13.1).bind fun v26 =>
          if ((!(v26.2 == 0)) || (decide (v26.1 > v12))) then
            some (.inr false)
          else
            if (v13.1 == 2879) then
              (s23 4000).bind fun v31 =>
              some (.inr v31)
            else
              (ck (v13.1 + 1)).bind fun v32 =>
              (s46 N v32 2879).bind fun v33 =>
              (s45 N v33 a1_3).bind fun v34 =>
              some (.inl v34)
      else
        some (.inl v20) : Option (Int ⊕ Bool))).bind fun o21 => match o21 with
      | .inl s35 =>
        (s27 N a0 v6 v11 s35).bind fun v36 =>
        (if ((v36.2 == 4) || ((v36.2 == 0) && (decide (v36.1 > v12)))) then 
          (s23 4000).bind fun v43 =>
          some v43
         else some false).bind fun v44 =>
        some v44
      | .inr s45 =>
        some s45
abbrev F8 : Fr := { r := false, N := 121, m := 0 }
theorem at8 : ctx.P.funcs[8]? = some Tryd.f8 := by kernel_rfl
theorem s8_ev {N : Nat} {a0 : Table} {a1_0 : Int} {a1_1 : Int} {a1_2 : Int} {a1_3 : Int} {r : Bool} (h : s8 N a0 a1_0 a1_1 a1_2 a1_3 = some r) : ∀ H, Ev ctx (.call 8 [.agg (eTable a0), .agg [.int .i64 a1_0, .int .i64 a1_1, .int .i64 a1_2, .int .i64 a1_3]] H (.bool r) H) := by
  refine Ev.of_pure at8 rfl rfl (Nat.le_of_ble_eq_true rfl) (pCons (pv (pTab _)) (pCons (pv (pCons (.int _ _) (pCons (.int _ _) (pCons (.int _ _) (pCons (.int _ _) pNil))))) pNil)) (.bool _) ?_
  unfold s8 at h
  refine Wp.seq ?_
  refine Wp.reg rfl ?_
  refine Wg.box rfl rfl rfl rfl ?_
  refine Wg.box rfl rfl rfl rfl ?_
  refine Wg.li rfl rfl rfl rfl (fun _ => rfl) ?_
  refine Wg.nil ?_
  refine ⟨fun _ => ?_, fun h => absurd (by decide) h⟩
  refine Wp.seq ?_
  refine Wp.seq ?_
  refine Wp.reg rfl ?_
  refine Wg.li rfl rfl rfl rfl (fun _ => rfl) ?_
  obtain ⟨v1, hv1, h⟩ := ob h
  refine Wg.call rfl rfl rfl rfl (s35_ev hv1 _) ?_
  iterate 2 refine Wg.li rfl rfl rfl rfl (fun _ => rfl) ?_
  have hv2 := ifOr (!v1) (decide ((a0.offices.length : Int) < 2))
  refine Wg.grp 5 23 18 ((!v1) || (decide ((a0.offices.length : Int) < 2))) (!v1) rfl rfl (Nat.le_of_ble_eq_true rfl) (fun hb3 => ?_) (fun hb3 => ?_) ?_
  · have hv2 := iT hv2 hb3
    iterate 4 refine Wg.skip rfl rfl ?_
    refine Wg.li rfl rfl rfl rfl (fun _ => rfl) ?_
    refine Wg.nil ⟨some_b hv2, ?_, rfl⟩
    repeat (first | exact Env.le_refl _ | refine Env.le_put rfl ?_)
  · have hv2 := iF hv2 hb3
    iterate 5 refine Wg.li rfl rfl rfl rfl (fun _ => rfl) ?_
    refine Wg.nil ⟨some_b hv2, ?_, rfl⟩
    repeat (first | exact Env.le_refl _ | refine Env.le_put rfl ?_)
  refine Wg.nil ?_
  refine ⟨fun _ => ?_, fun h => absurd (by decide) h⟩
  refine Wp.cond ((!v1) || (decide ((a0.offices.length : Int) < 2))) rfl (fun hb4 => ?_) (fun hb4 => ?_)
  · have h := iT h hb4
    refine Wp.seq ?_
    refine Wp.reg rfl ?_
    obtain ⟨v5, hv5, h⟩ := ob h
    refine Wg.call rfl rfl rfl rfl (s23_ev hv5 _) ?_
    refine Wg.li rfl rfl rfl rfl (fun _ => rfl) ?_
    refine Wg.nil ?_
    refine ⟨fun _ => ?_, fun h => absurd (by decide) h⟩
    refine Wp.ret ?_
    refine ⟨fun h => absurd h (by decide), fun _ => ?_⟩
    have h := Option.some.inj h
    subst h
    exact ⟨.inr (by decide), _, rfl, rfl⟩
  · have h := iF h hb4
    refine Wp.skip ?_
    refine ⟨fun _ => ?_, fun h => absurd (by decide) h⟩
    refine Wp.seq ?_
    refine Wp.reg rfl ?_
    iterate 5 refine Wg.li rfl rfl rfl rfl (fun _ => rfl) ?_
    obtain ⟨v6, hv6, h⟩ := ob h
    refine Wg.call rfl rfl rfl rfl (s36_ev hv6 _) ?_
    refine Wg.li rfl rfl rfl rfl (fun _ => rfl) ?_
    refine Wg.nil ?_
    refine ⟨fun _ => ?_, fun h => absurd (by decide) h⟩
    refine Wp.seq ?_
    refine Wp.drw _ [3, 5, 11] rfl (by kernel_rfl) (Nat.le_refl _) ?_
    refine Wg.li rfl rfl rfl rfl (fun _ => rfl) ?_
    obtain ⟨v7, hv7, h⟩ := ob h
    refine Wg.bin (k := .i64) (k2 := .i64) (a := v6) (b := 1) rfl rfl rfl rfl rfl (bAdd hv7) ?_
    iterate 5 refine Wg.li rfl rfl rfl rfl (fun _ => rfl) ?_
    obtain ⟨v8, hv8, h⟩ := ob h
    refine Wg.bin (k := .i64) (k2 := .i64) (a := (a0.offices.length : Int)) (b := 1) rfl rfl rfl rfl rfl (bSub hv8) ?_
    obtain ⟨v9, hv9, h⟩ := ob h
    refine Wg.call rfl rfl rfl rfl (s36_ev hv9 _) ?_
    obtain ⟨v10, hv10, h⟩ := ob h
    refine Wg.bin (k := .i64) (k2 := .i64) (a := v7) (b := v9) rfl rfl rfl rfl rfl (bAdd hv10) ?_
    iterate 3 refine Wg.li rfl rfl rfl rfl (fun _ => rfl) ?_
    obtain ⟨v11, hv11, h⟩ := ob h
    refine Wg.call rfl rfl rfl rfl (s36_ev hv11 _) ?_
    refine Wg.li rfl rfl rfl rfl (fun _ => rfl) ?_
    refine Wg.nil ?_
    refine ⟨fun _ => ?_, fun h => absurd (by decide) h⟩
    refine Wp.seq ?_
    refine Wp.reg rfl ?_
    iterate 2 refine Wg.li rfl rfl rfl rfl (fun _ => rfl) ?_
    obtain ⟨v12, hv12, h⟩ := ob h
    refine Wg.call rfl rfl rfl rfl (s36_ev hv12 _) ?_
    refine Wg.li rfl rfl rfl rfl (fun _ => rfl) ?_
    refine Wg.nil ?_
    refine ⟨fun _ => ?_, fun h => absurd (by decide) h⟩
    refine Wp.seq ?_
    refine Wp.reg rfl ?_
    iterate 4 refine Wg.li rfl rfl rfl rfl (fun _ => rfl) ?_
    obtain ⟨v13, hv13, h⟩ := ob h
    refine Wg.call rfl rfl rfl rfl (s31_ev hv13 _) ?_
    iterate 5 refine Wg.li rfl rfl rfl rfl (fun _ => rfl) ?_
    refine Wg.nil ?_
    refine ⟨fun _ => ?_, fun h => absurd (by decide) h⟩
    refine Wp.seq ?_
    refine Wp.seq ?_
    refine Wp.reg rfl ?_
    iterate 3 refine Wg.li rfl rfl rfl rfl (fun _ => rfl) ?_
    have hv14 := ifAnd (!(v13.2 == 0)) ((!(v13.2 == 4)) || (!(v13.1 == 0)))
    refine Wg.grp 7 65 58 ((!(v13.2 == 0)) && ((!(v13.2 == 4)) || (!(v13.1 == 0)))) (!(v13.2 == 0)) rfl rfl (Nat.le_of_ble_eq_true rfl) (fun hb15 => ?_) (fun hb15 => ?_) ?_
    · have hv14 := iT hv14 hb15
      iterate 3 refine Wg.li rfl rfl rfl rfl (fun _ => rfl) ?_
      have hv16 := ifOr (!(v13.2 == 4)) (!(v13.1 == 0))
      refine Wg.grp 3 64 61 ((!(v13.2 == 4)) || (!(v13.1 == 0))) (!(v13.2 == 4)) rfl rfl (Nat.le_of_ble_eq_true rfl) (fun hb17 => ?_) (fun hb17 => ?_) ?_
      · have hv16 := iT hv16 hb17
        iterate 2 refine Wg.skip rfl rfl ?_
        refine Wg.li rfl rfl rfl rfl (fun _ => rfl) ?_
        refine Wg.nil ⟨some_b hv16, ?_, rfl⟩
        repeat (first | exact Env.le_refl _ | refine Env.le_put rfl ?_)
      · have hv16 := iF hv16 hb17
        iterate 3 refine Wg.li rfl rfl rfl rfl (fun _ => rfl) ?_
        refine Wg.nil ⟨some_b hv16, ?_, rfl⟩
        repeat (first | exact Env.le_refl _ | refine Env.le_put rfl ?_)
      refine Wg.li rfl rfl rfl rfl (fun _ => rfl) ?_
      refine Wg.nil ⟨some_b hv14, ?_, rfl⟩
      repeat (first | exact Env.le_refl _ | refine Env.le_put rfl ?_)
    · have hv14 := iF hv14 hb15
      iterate 6 refine Wg.skip rfl rfl ?_
      refine Wg.li rfl rfl rfl rfl (fun _ => rfl) ?_
      refine Wg.nil ⟨some_b hv14, ?_, rfl⟩
      repeat (first | exact Env.le_refl _ | refine Env.le_put rfl ?_)
    refine Wg.nil ?_
    refine ⟨fun _ => ?_, fun h => absurd (by decide) h⟩
    refine Wp.cond ((!(v13.2 == 0)) && ((!(v13.2 == 4)) || (!(v13.1 == 0)))) rfl (fun hb18 => ?_) (fun hb18 => ?_)
    · have h := iT h hb18
      refine Wp.seq ?_
      refine Wp.reg rfl ?_
      refine Wg.li rfl rfl rfl rfl (fun _ => rfl) ?_
      refine Wg.nil ?_
      refine ⟨fun _ => ?_, fun h => absurd (by decide) h⟩
      refine Wp.ret ?_
      refine ⟨fun h => absurd h (by decide), fun _ => ?_⟩
      have h := Option.some.inj h
      subst h
      exact ⟨.inr (by decide), _, rfl, rfl⟩
    · have h := iF h hb18
      refine Wp.skip ?_
      refine ⟨fun _ => ?_, fun h => absurd (by decide) h⟩
      refine Wp.seq ?_
      refine Wp.drw _ [2] rfl (by kernel_rfl) (Nat.le_refl _) ?_
      obtain ⟨v19, hv19, h⟩ := ob h
      refine Wg.call rfl rfl rfl rfl (s46_ev hv19 _) ?_
      iterate 2 refine Wg.li rfl rfl rfl rfl (fun _ => rfl) ?_
      obtain ⟨v20, hv20, h⟩ := ob h
      refine Wg.call rfl rfl rfl rfl (s45_ev hv20 _) ?_
      refine Wg.li rfl rfl rfl rfl (fun _ => rfl) ?_
      refine Wg.nil ?_
      refine ⟨fun _ => ?_, fun h => absurd (by decide) h⟩
      refine Wp.seq ?_
      refine Wp.seq ?_
      refine Wp.reg rfl ?_
      iterate 2 refine Wg.li rfl rfl rfl rfl (fun _ => rfl) ?_
      refine Wg.nil ?_
      refine ⟨fun _ => ?_, fun h => absurd (by decide) h⟩
      obtain ⟨o21, hx22, h⟩ := ob h
      refine Wp.after (Q' := fun x e' H' => match o21 with | .inl s => x = .normal ∧ Sub ctx F8 (Env.ofList [(2, .ro (eTable a0)), (5, .int .i64 v6), (6, .int .i64 v11), (7, .int .i64 v12), (10, .int .i64 s)]) (hp []) e' H' | .inr s => x = .ret ∧ ∃ vs, resA ctx e' H' [.tmp 4] = some vs ∧ retA vs = .bool s) ?_ ?_
      · refine Wp.cond (v13.2 == 0) rfl (fun hb23 => ?_) (fun hb23 => ?_)
        · have hx22 := iT hx22 hb23
          refine Wp.seq ?_
          refine Wp.seq ?_
          refine Wp.reg rfl ?_
          refine Wg.li rfl rfl rfl rfl (fun _ => rfl) ?_
          obtain ⟨v24, hv24, hx22⟩ := ob hx22
          refine Wg.call rfl rfl rfl rfl (s47_ev hv24 _) ?_
          refine Wg.li rfl rfl rfl rfl (fun _ => rfl) ?_
          refine Wg.nil ?_
          refine ⟨fun _ => ?_, fun h => absurd (by decide) h⟩
          refine Wp.cond (!v24) rfl (fun hb25 => ?_) (fun hb25 => ?_)
          · have hx22 := iT hx22 hb25
            refine Wp.seq ?_
            refine Wp.reg rfl ?_
            refine Wg.li rfl rfl rfl rfl (fun _ => rfl) ?_
            refine Wg.nil ?_
            refine ⟨fun _ => ?_, fun h => absurd (by decide) h⟩
            refine Wp.ret ?_
            refine ⟨fun h => absurd h (by decide), fun _ => ?_⟩
            have hx22 := Option.some.inj hx22
            subst hx22
            exact ⟨by decide, _, rfl, rfl⟩
          · have hx22 := iF hx22 hb25
            refine Wp.skip ?_
            refine ⟨fun _ => ?_, fun h => absurd (by decide) h⟩
            refine Wp.seq ?_
            refine Wp.reg rfl ?_
            iterate 4 refine Wg.li rfl rfl rfl rfl (fun _ => rfl) ?_
            obtain ⟨v26, hv26, hx22⟩ := ob hx22
            refine Wg.call rfl rfl rfl rfl (s27_ev hv26 _) ?_
            iterate 5 refine Wg.li rfl rfl rfl rfl (fun _ => rfl) ?_
            refine Wg.nil ?_
            refine ⟨fun _ => ?_, fun h => absurd (by decide) h⟩
            refine Wp.seq ?_
            refine Wp.seq ?_
            refine Wp.reg rfl ?_
            iterate 3 refine Wg.li rfl rfl rfl rfl (fun _ => rfl) ?_
            have hv27 := ifOr (!(v26.2 == 0)) (decide (v26.1 > v12))
            refine Wg.grp 4 89 85 ((!(v26.2 == 0)) || (decide (v26.1 > v12))) (!(v26.2 == 0)) rfl rfl (Nat.le_of_ble_eq_true rfl) (fun hb28 => ?_) (fun hb28 => ?_) ?_
            · have hv27 := iT hv27 hb28
              iterate 3 refine Wg.skip rfl rfl ?_
              refine Wg.li rfl rfl rfl rfl (fun _ => rfl) ?_
              refine Wg.nil ⟨some_b hv27, ?_, rfl⟩
              repeat (first | exact Env.le_refl _ | refine Env.le_put rfl ?_)
            · have hv27 := iF hv27 hb28
              iterate 4 refine Wg.li rfl rfl rfl rfl (fun _ => rfl) ?_
              refine Wg.nil ⟨some_b hv27, ?_, rfl⟩
              repeat (first | exact Env.le_refl _ | refine Env.le_put rfl ?_)
            refine Wg.nil ?_
            refine ⟨fun _ => ?_, fun h => absurd (by decide) h⟩
            refine Wp.cond ((!(v26.2 == 0)) || (decide (v26.1 > v12))) rfl (fun hb29 => ?_) (fun hb29 => ?_)
            · have hx22 := iT hx22 hb29
              refine Wp.seq ?_
              refine Wp.reg rfl ?_
              refine Wg.li rfl rfl rfl rfl (fun _ => rfl) ?_
              refine Wg.nil ?_
              refine ⟨fun _ => ?_, fun h => absurd (by decide) h⟩
              refine Wp.ret ?_
              refine ⟨fun h => absurd h (by decide), fun _ => ?_⟩
              have hx22 := Option.some.inj hx22
              subst hx22
              exact ⟨by decide, _, rfl, rfl⟩
            · have hx22 := iF hx22 hb29
              refine Wp.skip ?_
              refine ⟨fun _ => ?_, fun h => absurd (by decide) h⟩
              refine Wp.seq ?_
              refine Wp.seq ?_
              refine Wp.reg rfl ?_
              iterate 2 refine Wg.li rfl rfl rfl rfl (fun _ => rfl) ?_
              refine Wg.nil ?_
              refine ⟨fun _ => ?_, fun h => absurd (by decide) h⟩
              refine Wp.cond (v13.1 == 2879) rfl (fun hb30 => ?_) (fun hb30 => ?_)
              · have hx22 := iT hx22 hb30
                refine Wp.seq ?_
                refine Wp.reg rfl ?_
                obtain ⟨v31, hv31, hx22⟩ := ob hx22
                refine Wg.call rfl rfl rfl rfl (s23_ev hv31 _) ?_
                refine Wg.li rfl rfl rfl rfl (fun _ => rfl) ?_
                refine Wg.nil ?_
                refine ⟨fun _ => ?_, fun h => absurd (by decide) h⟩
                refine Wp.ret ?_
                refine ⟨fun h => absurd h (by decide), fun _ => ?_⟩
                have hx22 := Option.some.inj hx22
                subst hx22
                exact ⟨by decide, _, rfl, rfl⟩
              · have hx22 := iF hx22 hb30
                refine Wp.skip ?_
                refine ⟨fun _ => ?_, fun h => absurd (by decide) h⟩
                refine Wp.drw _ [4] rfl (by kernel_rfl) (Nat.le_refl _) ?_
                refine Wg.li rfl rfl rfl rfl (fun _ => rfl) ?_
                obtain ⟨v32, hv32, hx22⟩ := ob hx22
                refine Wg.bin (k := .i64) (k2 := .i64) (a := v13.1) (b := 1) rfl rfl rfl rfl rfl (bAdd hv32) ?_
                obtain ⟨v33, hv33, hx22⟩ := ob hx22
                refine Wg.call rfl rfl rfl rfl (s46_ev hv33 _) ?_
                iterate 2 refine Wg.li rfl rfl rfl rfl (fun _ => rfl) ?_
                obtain ⟨v34, hv34, hx22⟩ := ob hx22
                refine Wg.call rfl rfl rfl rfl (s45_ev hv34 _) ?_
                refine Wg.li rfl rfl rfl rfl (fun _ => rfl) ?_
                refine Wg.nil ?_
                have hx22 := Option.some.inj hx22
                subst hx22
                exact ⟨by decide, (Sub.canon [] [] [(2, .ro (eTable a0)), (5, .int .i64 v6), (6, .int .i64 v11), (7, .int .i64 v12), (10, .int .i64 v34)] rfl (by decide) trivial (.pure rfl (.ro (pTab _)) (.pure rfl (.int _ _) (.pure rfl (.int _ _) (.pure rfl (.int _ _) (.pure rfl (.int _ _) .nil))))))⟩
        · have hx22 := iF hx22 hb23
          refine Wp.skip ?_
          have hx22 := Option.some.inj hx22
          subst hx22
          exact ⟨by decide, (Sub.canon [] [] [(2, .ro (eTable a0)), (5, .int .i64 v6), (6, .int .i64 v11), (7, .int .i64 v12), (10, .int .i64 v20)] rfl (by decide) trivial (.pure rfl (.ro (pTab _)) (.pure rfl (.int _ _) (.pure rfl (.int _ _) (.pure rfl (.int _ _) (.pure rfl (.int _ _) .nil))))))⟩
      · intro x e' H' hP
        rcases o21 with s35 | s45
        · obtain ⟨hPx, hP2⟩ := hP
          subst hPx
          have hP := And.intro (True.intro) hP2
          refine ⟨fun _ => ?_, fun h => absurd (by decide) h⟩
          refine Sub.use hP.2 ?_
          refine Wp.seq ?_
          refine Wp.reg rfl ?_
          iterate 4 refine Wg.li rfl rfl rfl rfl (fun _ => rfl) ?_
          obtain ⟨v36, hv36, h⟩ := ob h
          refine Wg.call rfl rfl rfl rfl (s27_ev hv36 _) ?_
          iterate 5 refine Wg.li rfl rfl rfl rfl (fun _ => rfl) ?_
          refine Wg.nil ?_
          refine ⟨fun _ => ?_, fun h => absurd (by decide) h⟩
          refine Wp.seq ?_
          refine Wp.reg rfl ?_
          iterate 3 refine Wg.li rfl rfl rfl rfl (fun _ => rfl) ?_
          have hv37 := ifOr (v36.2 == 4) ((v36.2 == 0) && (decide (v36.1 > v12)))
          refine Wg.grp 8 117 109 ((v36.2 == 4) || ((v36.2 == 0) && (decide (v36.1 > v12)))) (v36.2 == 4) rfl rfl (Nat.le_of_ble_eq_true rfl) (fun hb38 => ?_) (fun hb38 => ?_) ?_
          · have hv37 := iT hv37 hb38
            iterate 7 refine Wg.skip rfl rfl ?_
            refine Wg.li rfl rfl rfl rfl (fun _ => rfl) ?_
            refine Wg.nil ⟨some_b hv37, ?_, rfl⟩
            repeat (first | exact Env.le_refl _ | refine Env.le_put rfl ?_)
          · have hv37 := iF hv37 hb38
            iterate 3 refine Wg.li rfl rfl rfl rfl (fun _ => rfl) ?_
            have hv39 := ifAnd (v36.2 == 0) (decide (v36.1 > v12))
            refine Wg.grp 4 116 112 ((v36.2 == 0) && (decide (v36.1 > v12))) (v36.2 == 0) rfl rfl (Nat.le_of_ble_eq_true rfl) (fun hb40 => ?_) (fun hb40 => ?_) ?_
            · have hv39 := iT hv39 hb40
              iterate 4 refine Wg.li rfl rfl rfl rfl (fun _ => rfl) ?_
              refine Wg.nil ⟨some_b hv39, ?_, rfl⟩
              repeat (first | exact Env.le_refl _ | refine Env.le_put rfl ?_)
            · have hv39 := iF hv39 hb40
              iterate 3 refine Wg.skip rfl rfl ?_
              refine Wg.li rfl rfl rfl rfl (fun _ => rfl) ?_
              refine Wg.nil ⟨some_b hv39, ?_, rfl⟩
              repeat (first | exact Env.le_refl _ | refine Env.le_put rfl ?_)
            refine Wg.li rfl rfl rfl rfl (fun _ => rfl) ?_
            refine Wg.nil ⟨some_b hv37, ?_, rfl⟩
            repeat (first | exact Env.le_refl _ | refine Env.le_put rfl ?_)
          refine Wg.li rfl rfl rfl rfl (fun _ => rfl) ?_
          obtain ⟨v44, hv41, h⟩ := ob h
          refine Wg.grp 2 120 118 v44 ((v36.2 == 4) || ((v36.2 == 0) && (decide (v36.1 > v12)))) rfl rfl (Nat.le_of_ble_eq_true rfl) (fun hb42 => ?_) (fun hb42 => ?_) ?_
          · have hv41 := iT hv41 hb42
            obtain ⟨v43, hv43, hv41⟩ := ob hv41
            refine Wg.call rfl rfl rfl rfl (s23_ev hv43 _) ?_
            refine Wg.li rfl rfl rfl rfl (fun _ => rfl) ?_
            refine Wg.nil ⟨some_b hv41, ?_, rfl⟩
            repeat (first | exact Env.le_refl _ | refine Env.le_put rfl ?_)
          · have hv41 := iF hv41 hb42
            iterate 1 refine Wg.skip rfl rfl ?_
            refine Wg.li rfl rfl rfl rfl (fun _ => rfl) ?_
            refine Wg.nil ⟨some_b hv41, ?_, rfl⟩
            repeat (first | exact Env.le_refl _ | refine Env.le_put rfl ?_)
          refine Wg.li rfl rfl rfl rfl (fun _ => rfl) ?_
          refine Wg.nil ?_
          refine ⟨fun _ => ?_, fun h => absurd (by decide) h⟩
          refine Wp.ret ?_
          have h := Option.some.inj h
          subst h
          exact ⟨.inr (by decide), _, rfl, rfl⟩
        · have hPx := hP.1
          subst hPx
          refine ⟨fun h => absurd h (by decide), fun _ => ?_⟩
          exact ⟨.inr rfl, by obtain ⟨vs, h1, h2⟩ := hP.2; exact ⟨vs, h1, by rw [h2]; have h := Option.some.inj h; subst h; rfl⟩⟩
end Go.Abs.Tr
