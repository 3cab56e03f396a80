/- Printed walks: small functions. Conditions: none. -/
import Derived.Test.YtdlofkamkiojlaaDoorXGq
import Derived.Test.YtdlofkamkiojlaaDoorXDau
import Derived.Test.YtdlofkamkiojlaaDoorXCtx
set_option maxRecDepth 100000
set_option maxHeartbeats 1000000
set_option linter.unusedVariables false
namespace Go.Abs.Tr
open Go Go.Abs Go.Proofs
def s44_l8 (N : Nat) (a0 : (List Int)) (a1 : Int) (s1 : Int) : Option ((Int) ⊕ (Unit ⊕ Int)) :=
  if (decide (s1 < (a0.length : Int))) then
    (ix a0 s1).bind fun v5 =>
    if (v5 == a1) then
      some (.inr (.inr s1))
    else
      (ck (s1 + 1)).bind fun v7 =>
      some (.inl v7)
  else
    some (.inr (.inl ()))
def s44 (N : Nat) (a0 : (List Int)) (a1 : Int) : Option (Int) :=
  (iter (s44_l8 N a0 a1) N 0).bind fun o2 => match o2 with
  | .inl s9 =>
    some (-1)
  | .inr s10 =>
    some s10
abbrev F44 : Fr := { r := false, N := 19, m := 0 }
theorem at44 : ctx.P.funcs[44]? = some Tryd.f44 := by kernel_rfl
theorem s44_ev {N : Nat} {a0 : (List Int)} {a1 : Int} {r : Int} (h : s44 N a0 a1 = some r) : ∀ H, Ev ctx (.call 44 [lst eInt a0 .unk, .int .i64 a1] H (.int .i64 r) H) := by
  refine Ev.of_pure at44 rfl rfl (Nat.le_of_ble_eq_true rfl) (pCons (Pure.lst pInt _ pUnk) (pCons (.int _ _) pNil)) (.int _ _) ?_
  unfold s44 at h
  refine Wp.seq ?_
  refine Wp.reg rfl ?_
  refine Wg.li rfl rfl rfl rfl (fun _ => rfl) ?_
  refine Wg.nil ?_
  refine ⟨fun _ => ?_, fun h => absurd (by decide) h⟩
  refine Wp.seq ?_
  refine Wp.seq ?_
  refine Wp.reg rfl ?_
  refine Wg.li rfl rfl rfl rfl (fun _ => rfl) ?_
  refine Wg.nil ?_
  refine ⟨fun _ => ?_, fun h => absurd (by decide) h⟩
  refine Wp.block ?_
  obtain ⟨o2, hx3, h⟩ := ob h
  refine Sub.use (Sub.canon [] [] [(0, lst eInt a0 .unk), (1, .int .i64 a1), (5, .int .i64 0)] rfl (by decide) trivial (.pure rfl (Pure.lst pInt _ pUnk) (.pure rfl (.int _ _) (.pure rfl (.int _ _) .nil)))) ?_
  refine Wp.after (Wp.iterS (s44_l8 N a0 a1) (fun s1 => Env.ofList [(0, lst eInt a0 .unk), (1, .int .i64 a1), (5, .int .i64 s1)]) (fun s1 => hp []) (fun o2 x e' H' => match o2 with | .inl s => x = .exit 0 ∧ Sub ctx F44 (Env.ofList []) (hp []) e' H' | .inr s => x = .ret ∧ ∃ vs, resA ctx e' H' [.tmp 4] = some vs ∧ retA vs = .int .i64 s) ?_ N 0 _ hx3) ?_
  · intro s1 o ho
    unfold s44_l8 at ho
    refine Wp.seq ?_
    refine Wp.seq ?_
    refine Wp.reg rfl ?_
    iterate 4 refine Wg.li rfl rfl rfl rfl (fun _ => rfl) ?_
    refine Wg.nil ?_
    refine ⟨fun _ => ?_, fun h => absurd (by decide) h⟩
    refine Wp.cond (decide (s1 < (a0.length : Int))) rfl (fun hb4 => ?_) (fun hb4 => ?_)
    · have ho := iT ho hb4
      refine Wp.skip ?_
      refine ⟨fun _ => ?_, fun h => absurd (by decide) h⟩
      refine Wp.seq ?_
      refine Wp.block ?_
      refine Wp.seq ?_
      refine Wp.reg rfl ?_
      iterate 2 refine Wg.li rfl rfl rfl rfl (fun _ => rfl) ?_
      obtain ⟨v5, hv5, ho⟩ := ob ho
      refine Wg.idx (f := eInt) (xs := a0) (c := .unk) rfl rfl rfl rfl rfl rfl rfl lInt (by decide) hv5 ?_
      iterate 3 refine Wg.li rfl rfl rfl rfl (fun _ => rfl) ?_
      refine Wg.nil ?_
      refine ⟨fun _ => ?_, fun h => absurd (by decide) h⟩
      refine Wp.cond (v5 == a1) rfl (fun hb6 => ?_) (fun hb6 => ?_)
      · have ho := iT ho hb6
        refine Wp.seq ?_
        refine Wp.reg rfl ?_
        iterate 2 refine Wg.li rfl rfl rfl rfl (fun _ => rfl) ?_
        refine Wg.nil ?_
        refine ⟨fun _ => ?_, fun h => absurd (by decide) h⟩
        refine Wp.ret ?_
        refine ⟨fun h => absurd h (by decide), fun _ => ?_⟩
        have ho := Option.some.inj ho
        subst ho
        exact ⟨by decide, by decide, _, rfl, rfl⟩
      · have ho := iF ho hb6
        refine Wp.skip ?_
        refine ⟨fun _ => ?_, fun h => absurd (by decide) h⟩
        refine Wp.reg rfl ?_
        refine Wg.li rfl rfl rfl rfl (fun _ => rfl) ?_
        obtain ⟨v7, hv7, ho⟩ := ob ho
        refine Wg.bin (k := .i64) (k2 := .i64) (a := s1) (b := 1) rfl rfl rfl rfl rfl (bAdd hv7) ?_
        refine Wg.li rfl rfl rfl rfl (fun _ => rfl) ?_
        refine Wg.nil ?_
        have ho := Option.some.inj ho
        subst ho
        exact ⟨by decide, (Sub.canon [] [] [(0, lst eInt a0 .unk), (1, .int .i64 a1), (5, .int .i64 v7)] rfl (by decide) trivial (.pure rfl (Pure.lst pInt _ pUnk) (.pure rfl (.int _ _) (.pure rfl (.int _ _) .nil))))⟩
    · have ho := iF ho hb4
      refine Wp.exit ?_
      refine ⟨fun h => absurd h (by decide), fun _ => ?_⟩
      have ho := Option.some.inj ho
      subst ho
      exact ⟨by decide, by decide, (Sub.canon [] [] [] rfl (by decide) trivial .nil)⟩
  · intro x e' H' hP
    rcases o2 with s9 | s10
    · obtain ⟨hPx, hP2⟩ := hP
      subst hPx
      have hP := And.intro (True.intro) hP2
      refine ⟨fun _ => ?_, fun h => absurd (by decide) h⟩
      refine Sub.use hP.2 ?_
      refine Wp.seq ?_
      refine Wp.reg rfl ?_
      refine Wg.li rfl rfl rfl rfl (fun _ => rfl) ?_
      refine Wg.nil ?_
      refine ⟨fun _ => ?_, fun h => absurd (by decide) h⟩
      refine Wp.ret ?_
      have h := Option.some.inj h
      subst h
      exact ⟨.inr (by decide), _, rfl, rfl⟩
    · have hPx := hP.1
      subst hPx
      refine ⟨fun h => absurd h (by decide), fun _ => ?_⟩
      exact ⟨.inr rfl, by obtain ⟨vs, h1, h2⟩ := hP.2; exact ⟨vs, h1, by rw [h2]; have h := Option.some.inj h; subst h; rfl⟩⟩
def s36 (N : Nat) (a0 : Int) (a1 : Int) : Option (Int) :=
  if (decide (a1 < 1)) then
    some 0
  else
    (remC a0 a1).bind fun v2 =>
    (if (decide (v2 < 0)) then
      (ck (v2 + a1)).bind fun v6 =>
      some v6
    else
      some v2).bind fun o3 =>
    some o3
abbrev F36 : Fr := { r := false, N := 17, m := 0 }
theorem at36 : ctx.P.funcs[36]? = some Tryd.f36 := by kernel_rfl
theorem s36_ev {N : Nat} {a0 : Int} {a1 : Int} {r : Int} (h : s36 N a0 a1 = some r) : ∀ H, Ev ctx (.call 36 [.int .i64 a0, .int .i64 a1] H (.int .i64 r) H) := by
  refine Ev.of_pure at36 rfl rfl (Nat.le_of_ble_eq_true rfl) (pCons (.int _ _) (pCons (.int _ _) pNil)) (.int _ _) ?_
  unfold s36 at h
  refine Wp.seq ?_
  refine Wp.reg rfl ?_
  refine Wg.li rfl rfl rfl rfl (fun _ => rfl) ?_
  refine Wg.nil ?_
  refine ⟨fun _ => ?_, fun h => absurd (by decide) h⟩
  refine Wp.seq ?_
  refine Wp.seq ?_
  refine Wp.reg rfl ?_
  iterate 2 refine Wg.li rfl rfl rfl rfl (fun _ => rfl) ?_
  refine Wg.nil ?_
  refine ⟨fun _ => ?_, fun h => absurd (by decide) h⟩
  refine Wp.cond (decide (a1 < 1)) rfl (fun hb1 => ?_) (fun hb1 => ?_)
  · have h := iT h hb1
    refine Wp.seq ?_
    refine Wp.reg rfl ?_
    refine Wg.li rfl rfl rfl rfl (fun _ => rfl) ?_
    refine Wg.nil ?_
    refine ⟨fun _ => ?_, fun h => absurd (by decide) h⟩
    refine Wp.ret ?_
    refine ⟨fun h => absurd h (by decide), fun _ => ?_⟩
    have h := Option.some.inj h
    subst h
    exact ⟨.inr (by decide), _, rfl, rfl⟩
  · have h := iF h hb1
    refine Wp.skip ?_
    refine ⟨fun _ => ?_, fun h => absurd (by decide) h⟩
    refine Wp.seq ?_
    refine Wp.reg rfl ?_
    iterate 2 refine Wg.li rfl rfl rfl rfl (fun _ => rfl) ?_
    obtain ⟨v2, hv2, h⟩ := ob h
    refine Wg.bin (k := .i64) (k2 := .i64) (a := a0) (b := a1) rfl rfl rfl rfl rfl (bRem hv2) ?_
    refine Wg.li rfl rfl rfl rfl (fun _ => rfl) ?_
    refine Wg.nil ?_
    refine ⟨fun _ => ?_, fun h => absurd (by decide) h⟩
    refine Wp.seq ?_
    refine Wp.seq ?_
    refine Wp.reg rfl ?_
    iterate 2 refine Wg.li rfl rfl rfl rfl (fun _ => rfl) ?_
    refine Wg.nil ?_
    refine ⟨fun _ => ?_, fun h => absurd (by decide) h⟩
    obtain ⟨o3, hx4, h⟩ := ob h
    refine Wp.after (Q' := fun x e' H' => x = .normal ∧ Sub ctx F36 (Env.ofList [(5, .int .i64 o3)]) (hp []) e' H') ?_ ?_
    · refine Wp.cond (decide (v2 < 0)) rfl (fun hb5 => ?_) (fun hb5 => ?_)
      · have hx4 := iT hx4 hb5
        refine Wp.reg rfl ?_
        iterate 2 refine Wg.li rfl rfl rfl rfl (fun _ => rfl) ?_
        obtain ⟨v6, hv6, hx4⟩ := ob hx4
        refine Wg.bin (k := .i64) (k2 := .i64) (a := v2) (b := a1) rfl rfl rfl rfl rfl (bAdd hv6) ?_
        refine Wg.li rfl rfl rfl rfl (fun _ => rfl) ?_
        refine Wg.nil ?_
        have hx4 := Option.some.inj hx4
        subst hx4
        exact ⟨by decide, (Sub.canon [] [] [(5, .int .i64 v6)] rfl (by decide) trivial (.pure rfl (.int _ _) .nil))⟩
      · have hx4 := iF hx4 hb5
        refine Wp.skip ?_
        have hx4 := Option.some.inj hx4
        subst hx4
        exact ⟨by decide, (Sub.canon [] [] [(5, .int .i64 v2)] rfl (by decide) trivial (.pure rfl (.int _ _) .nil))⟩
    · intro x e' H' hP
      obtain ⟨hPx, hP2⟩ := hP
      subst hPx
      have hP := And.intro (True.intro) hP2
      refine ⟨fun _ => ?_, fun h => absurd (by decide) h⟩
      refine Sub.use hP.2 ?_
      refine Wp.seq ?_
      refine Wp.reg rfl ?_
      iterate 2 refine Wg.li rfl rfl rfl rfl (fun _ => rfl) ?_
      refine Wg.nil ?_
      refine ⟨fun _ => ?_, fun h => absurd (by decide) h⟩
      refine Wp.ret ?_
      have h := Option.some.inj h
      subst h
      exact ⟨.inr (by decide), _, rfl, rfl⟩
def s47 (N : Nat) (a0 : Int) (a1 : Int) (a2 : Int) : Option (Bool) :=
  some ((decide (a0 ≥ a1)) && (decide (a0 ≤ a2)))
theorem at47 : ctx.P.funcs[47]? = some Tryd.f47 := by kernel_rfl
theorem s47_ev {N : Nat} {a0 : Int} {a1 : Int} {a2 : Int} {r : Bool} (h : s47 N a0 a1 a2 = some r) : ∀ H, Ev ctx (.call 47 [.int .i64 a0, .int .i64 a1, .int .i64 a2] H (.bool r) H) := by
  refine Ev.of_pure at47 rfl rfl (Nat.le_of_ble_eq_true rfl) (pCons (.int _ _) (pCons (.int _ _) (pCons (.int _ _) pNil))) (.bool _) ?_
  unfold s47 at h
  refine Wp.seq ?_
  refine Wp.reg rfl ?_
  refine Wg.li rfl rfl rfl rfl (fun _ => rfl) ?_
  refine Wg.nil ?_
  refine ⟨fun _ => ?_, fun h => absurd (by decide) h⟩
  refine Wp.seq ?_
  refine Wp.reg rfl ?_
  iterate 4 refine Wg.li rfl rfl rfl rfl (fun _ => rfl) ?_
  have hv1 := ifAnd (decide (a0 ≥ a1)) (decide (a0 ≤ a2))
  refine Wg.grp 4 14 10 ((decide (a0 ≥ a1)) && (decide (a0 ≤ a2))) (decide (a0 ≥ a1)) rfl rfl (Nat.le_of_ble_eq_true rfl) (fun hb2 => ?_) (fun hb2 => ?_) ?_
  · have hv1 := iT hv1 hb2
    iterate 4 refine Wg.li rfl rfl rfl rfl (fun _ => rfl) ?_
    refine Wg.nil ⟨some_b hv1, ?_, rfl⟩
    repeat (first | exact Env.le_refl _ | refine Env.le_put rfl ?_)
  · have hv1 := iF hv1 hb2
    iterate 3 refine Wg.skip rfl rfl ?_
    refine Wg.li rfl rfl rfl rfl (fun _ => rfl) ?_
    refine Wg.nil ⟨some_b hv1, ?_, rfl⟩
    repeat (first | exact Env.le_refl _ | refine Env.le_put rfl ?_)
  refine Wg.li rfl rfl rfl rfl (fun _ => rfl) ?_
  refine Wg.nil ?_
  refine ⟨fun _ => ?_, fun h => absurd (by decide) h⟩
  refine Wp.ret ?_
  have h := Option.some.inj h
  subst h
  exact ⟨.inr (by decide), _, rfl, rfl⟩
def s62 (N : Nat) (a0 : Span) (a1 : Int) (a2 : Int) : Option (Bool) :=
  some (((decide (a1 ≤ a0.low)) && (decide (a0.low ≤ a0.high))) && (decide (a0.high ≤ a2)))
theorem at62 : ctx.P.funcs[62]? = some Tryd.f62 := by kernel_rfl
theorem s62_ev {N : Nat} {a0 : Span} {a1 : Int} {a2 : Int} {r : Bool} (h : s62 N a0 a1 a2 = some r) : ∀ H, Ev ctx (.call 62 [.agg (eSpan a0), .int .i64 a1, .int .i64 a2] H (.bool r) H) := by
  refine Ev.of_pure at62 rfl rfl (Nat.le_of_ble_eq_true rfl) (pCons (pv (pSpan _)) (pCons (.int _ _) (pCons (.int _ _) pNil))) (.bool _) ?_
  unfold s62 at h
  refine Wp.seq ?_
  refine Wp.reg rfl ?_
  refine Wg.box rfl rfl rfl rfl ?_
  refine Wg.li rfl rfl rfl rfl (fun _ => rfl) ?_
  refine Wg.nil ?_
  refine ⟨fun _ => ?_, fun h => absurd (by decide) h⟩
  refine Wp.seq ?_
  refine Wp.reg rfl ?_
  iterate 5 refine Wg.li rfl rfl rfl rfl (fun _ => rfl) ?_
  have hv1 := ifAnd (decide (a1 ≤ a0.low)) (decide (a0.low ≤ a0.high))
  refine Wg.grp 6 17 11 ((decide (a1 ≤ a0.low)) && (decide (a0.low ≤ a0.high))) (decide (a1 ≤ a0.low)) rfl rfl (Nat.le_of_ble_eq_true rfl) (fun hb2 => ?_) (fun hb2 => ?_) ?_
  · have hv1 := iT hv1 hb2
    iterate 6 refine Wg.li rfl rfl rfl rfl (fun _ => rfl) ?_
    refine Wg.nil ⟨some_b hv1, ?_, rfl⟩
    repeat (first | exact Env.le_refl _ | refine Env.le_put rfl ?_)
  · have hv1 := iF hv1 hb2
    iterate 5 refine Wg.skip rfl rfl ?_
    refine Wg.li rfl rfl rfl rfl (fun _ => rfl) ?_
    refine Wg.nil ⟨some_b hv1, ?_, rfl⟩
    repeat (first | exact Env.le_refl _ | refine Env.le_put rfl ?_)
  refine Wg.li rfl rfl rfl rfl (fun _ => rfl) ?_
  have hv3 := ifAnd ((decide (a1 ≤ a0.low)) && (decide (a0.low ≤ a0.high))) (decide (a0.high ≤ a2))
  refine Wg.grp 5 23 18 (((decide (a1 ≤ a0.low)) && (decide (a0.low ≤ a0.high))) && (decide (a0.high ≤ a2))) ((decide (a1 ≤ a0.low)) && (decide (a0.low ≤ a0.high))) rfl rfl (Nat.le_of_ble_eq_true rfl) (fun hb4 => ?_) (fun hb4 => ?_) ?_
  · have hv3 := iT hv3 hb4
    iterate 5 refine Wg.li rfl rfl rfl rfl (fun _ => rfl) ?_
    refine Wg.nil ⟨some_b hv3, ?_, rfl⟩
    repeat (first | exact Env.le_refl _ | refine Env.le_put rfl ?_)
  · have hv3 := iF hv3 hb4
    iterate 4 refine Wg.skip rfl rfl ?_
    refine Wg.li rfl rfl rfl rfl (fun _ => rfl) ?_
    refine Wg.nil ⟨some_b hv3, ?_, rfl⟩
    repeat (first | exact Env.le_refl _ | refine Env.le_put rfl ?_)
  refine Wg.li rfl rfl rfl rfl (fun _ => rfl) ?_
  refine Wg.nil ?_
  refine ⟨fun _ => ?_, fun h => absurd (by decide) h⟩
  refine Wp.ret ?_
  have h := Option.some.inj h
  subst h
  exact ⟨.inr (by decide), _, rfl, rfl⟩
def s87 (N : Nat) (a0 : Int) (a1 : Int) : Option (Bool) :=
  (shrC a0 a1).bind fun v1 =>
  some ((andC v1 1) == 1)
theorem at87 : ctx.P.funcs[87]? = some Tryd.f87 := by kernel_rfl
theorem s87_ev {N : Nat} {a0 : Int} {a1 : Int} {r : Bool} (h : s87 N a0 a1 = some r) : ∀ H, Ev ctx (.call 87 [.int .i64 a0, .int .i64 a1] H (.bool r) H) := by
  refine Ev.of_pure at87 rfl rfl (Nat.le_of_ble_eq_true rfl) (pCons (.int _ _) (pCons (.int _ _) pNil)) (.bool _) ?_
  unfold s87 at h
  refine Wp.seq ?_
  refine Wp.reg rfl ?_
  refine Wg.li rfl rfl rfl rfl (fun _ => rfl) ?_
  refine Wg.nil ?_
  refine ⟨fun _ => ?_, fun h => absurd (by decide) h⟩
  refine Wp.seq ?_
  refine Wp.reg rfl ?_
  iterate 2 refine Wg.li rfl rfl rfl rfl (fun _ => rfl) ?_
  obtain ⟨v1, hv1, h⟩ := ob h
  refine Wg.bin (k := .i64) (k2 := .i64) (a := a0) (b := a1) rfl rfl rfl rfl rfl (bShr hv1) ?_
  refine Wg.bin (k := .i64) (k2 := .i64) (a := v1) (b := 1) rfl rfl rfl rfl rfl bAnd ?_
  iterate 2 refine Wg.li rfl rfl rfl rfl (fun _ => rfl) ?_
  refine Wg.nil ?_
  refine ⟨fun _ => ?_, fun h => absurd (by decide) h⟩
  refine Wp.ret ?_
  have h := Option.some.inj h
  subst h
  exact ⟨.inr (by decide), _, rfl, rfl⟩
def s88 (N : Nat) (a0 : (List Int)) (a1 : Int) : Option (Int) :=
  if ((a0.length : Int) == 0) then
    some 0
  else
    (s36 N a1 (a0.length : Int)).bind fun v2 =>
    (ix a0 v2).bind fun v3 =>
    some v3
theorem at88 : ctx.P.funcs[88]? = some Tryd.f88 := by kernel_rfl
theorem s88_ev {N : Nat} {a0 : (List Int)} {a1 : Int} {r : Int} (h : s88 N a0 a1 = some r) : ∀ H, Ev ctx (.call 88 [lst eInt a0 .unk, .int .i64 a1] H (.int .i64 r) H) := by
  refine Ev.of_pure at88 rfl rfl (Nat.le_of_ble_eq_true rfl) (pCons (Pure.lst pInt _ pUnk) (pCons (.int _ _) pNil)) (.int _ _) ?_
  unfold s88 at h
  refine Wp.seq ?_
  refine Wp.reg rfl ?_
  refine Wg.li rfl rfl rfl rfl (fun _ => rfl) ?_
  refine Wg.nil ?_
  refine ⟨fun _ => ?_, fun h => absurd (by decide) h⟩
  refine Wp.seq ?_
  refine Wp.seq ?_
  refine Wp.reg rfl ?_
  iterate 3 refine Wg.li rfl rfl rfl rfl (fun _ => rfl) ?_
  refine Wg.nil ?_
  refine ⟨fun _ => ?_, fun h => absurd (by decide) h⟩
  refine Wp.cond ((a0.length : Int) == 0) rfl (fun hb1 => ?_) (fun hb1 => ?_)
  · have h := iT h hb1
    refine Wp.seq ?_
    refine Wp.reg rfl ?_
    refine Wg.li rfl rfl rfl rfl (fun _ => rfl) ?_
    refine Wg.nil ?_
    refine ⟨fun _ => ?_, fun h => absurd (by decide) h⟩
    refine Wp.ret ?_
    refine ⟨fun h => absurd h (by decide), fun _ => ?_⟩
    have h := Option.some.inj h
    subst h
    exact ⟨.inr (by decide), _, rfl, rfl⟩
  · have h := iF h hb1
    refine Wp.skip ?_
    refine ⟨fun _ => ?_, fun h => absurd (by decide) h⟩
    refine Wp.seq ?_
    refine Wp.reg rfl ?_
    iterate 4 refine Wg.li rfl rfl rfl rfl (fun _ => rfl) ?_
    obtain ⟨v2, hv2, h⟩ := ob h
    refine Wg.call rfl rfl rfl rfl (s36_ev hv2 _) ?_
    obtain ⟨v3, hv3, h⟩ := ob h
    refine Wg.idx (f := eInt) (xs := a0) (c := .unk) rfl rfl rfl rfl rfl rfl rfl lInt (by decide) hv3 ?_
    iterate 2 refine Wg.li rfl rfl rfl rfl (fun _ => rfl) ?_
    refine Wg.nil ?_
    refine ⟨fun _ => ?_, fun h => absurd (by decide) h⟩
    refine Wp.ret ?_
    have h := Option.some.inj h
    subst h
    exact ⟨.inr (by decide), _, rfl, rfl⟩
def s89 (N : Nat) (a0 : Span) : Option (Bool) :=
  some (decide (a0.low > a0.high))
theorem at89 : ctx.P.funcs[89]? = some Tryd.f89 := by kernel_rfl
theorem s89_ev {N : Nat} {a0 : Span} {r : Bool} (h : s89 N a0 = some r) : ∀ H, Ev ctx (.call 89 [.agg (eSpan a0)] H (.bool r) H) := by
  refine Ev.of_pure at89 rfl rfl (Nat.le_of_ble_eq_true rfl) (pCons (pv (pSpan _)) pNil) (.bool _) ?_
  unfold s89 at h
  refine Wp.seq ?_
  refine Wp.reg rfl ?_
  refine Wg.box rfl rfl rfl rfl ?_
  refine Wg.li rfl rfl rfl rfl (fun _ => rfl) ?_
  refine Wg.nil ?_
  refine ⟨fun _ => ?_, fun h => absurd (by decide) h⟩
  refine Wp.seq ?_
  refine Wp.reg rfl ?_
  iterate 6 refine Wg.li rfl rfl rfl rfl (fun _ => rfl) ?_
  refine Wg.nil ?_
  refine ⟨fun _ => ?_, fun h => absurd (by decide) h⟩
  refine Wp.ret ?_
  have h := Option.some.inj h
  subst h
  exact ⟨.inr (by decide), _, rfl, rfl⟩
def s41 (N : Nat) (a0 : Span) (a1 : Int) : Option (Bool) :=
  (s47 N a1 a0.low a0.high).bind fun v1 =>
  some v1
theorem at41 : ctx.P.funcs[41]? = some Tryd.f41 := by kernel_rfl
theorem s41_ev {N : Nat} {a0 : Span} {a1 : Int} {r : Bool} (h : s41 N a0 a1 = some r) : ∀ H, Ev ctx (.call 41 [.agg (eSpan a0), .int .i64 a1] H (.bool r) H) := by
  refine Ev.of_pure at41 rfl rfl (Nat.le_of_ble_eq_true rfl) (pCons (pv (pSpan _)) (pCons (.int _ _) pNil)) (.bool _) ?_
  unfold s41 at h
  refine Wp.seq ?_
  refine Wp.reg rfl ?_
  refine Wg.box rfl rfl rfl rfl ?_
  refine Wg.li rfl rfl rfl rfl (fun _ => rfl) ?_
  refine Wg.nil ?_
  refine ⟨fun _ => ?_, fun h => absurd (by decide) h⟩
  refine Wp.seq ?_
  refine Wp.reg rfl ?_
  iterate 5 refine Wg.li rfl rfl rfl rfl (fun _ => rfl) ?_
  obtain ⟨v1, hv1, h⟩ := ob h
  refine Wg.call rfl rfl rfl rfl (s47_ev hv1 _) ?_
  refine Wg.li rfl rfl rfl rfl (fun _ => rfl) ?_
  refine Wg.nil ?_
  refine ⟨fun _ => ?_, fun h => absurd (by decide) h⟩
  refine Wp.ret ?_
  have h := Option.some.inj h
  subst h
  exact ⟨.inr (by decide), _, rfl, rfl⟩
def s45 (N : Nat) (a0 : Span) (a1 : Int) : Option (Int) :=
  (s89 N a0).bind fun v1 =>
  if v1 then
    some a0.low
  else
    (ck (a0.high - a0.low)).bind fun v3 =>
    (ck (v3 + 1)).bind fun v4 =>
    (s36 N a1 v4).bind fun v5 =>
    (ck (a0.low + v5)).bind fun v6 =>
    some v6
theorem at45 : ctx.P.funcs[45]? = some Tryd.f45 := by kernel_rfl
theorem s45_ev {N : Nat} {a0 : Span} {a1 : Int} {r : Int} (h : s45 N a0 a1 = some r) : ∀ H, Ev ctx (.call 45 [.agg (eSpan a0), .int .i64 a1] H (.int .i64 r) H) := by
  refine Ev.of_pure at45 rfl rfl (Nat.le_of_ble_eq_true rfl) (pCons (pv (pSpan _)) (pCons (.int _ _) pNil)) (.int _ _) ?_
  unfold s45 at h
  refine Wp.seq ?_
  refine Wp.reg rfl ?_
  refine Wg.box rfl rfl rfl rfl ?_
  refine Wg.li rfl rfl rfl rfl (fun _ => rfl) ?_
  refine Wg.nil ?_
  refine ⟨fun _ => ?_, fun h => absurd (by decide) h⟩
  refine Wp.seq ?_
  refine Wp.seq ?_
  refine Wp.reg rfl ?_
  refine Wg.li rfl rfl rfl rfl (fun _ => rfl) ?_
  obtain ⟨v1, hv1, h⟩ := ob h
  refine Wg.call rfl rfl rfl rfl (s89_ev hv1 _) ?_
  refine Wg.nil ?_
  refine ⟨fun _ => ?_, fun h => absurd (by decide) h⟩
  refine Wp.cond v1 rfl (fun hb2 => ?_) (fun hb2 => ?_)
  · have h := iT h hb2
    refine Wp.seq ?_
    refine Wp.reg rfl ?_
    iterate 3 refine Wg.li rfl rfl rfl rfl (fun _ => rfl) ?_
    refine Wg.nil ?_
    refine ⟨fun _ => ?_, fun h => absurd (by decide) h⟩
    refine Wp.ret ?_
    refine ⟨fun h => absurd h (by decide), fun _ => ?_⟩
    have h := Option.some.inj h
    subst h
    exact ⟨.inr (by decide), _, rfl, rfl⟩
  · have h := iF h hb2
    refine Wp.skip ?_
    refine ⟨fun _ => ?_, fun h => absurd (by decide) h⟩
    refine Wp.seq ?_
    refine Wp.drw _ [1, 4, 6] rfl (by kernel_rfl) (Nat.le_refl _) ?_
    iterate 7 refine Wg.li rfl rfl rfl rfl (fun _ => rfl) ?_
    obtain ⟨v3, hv3, h⟩ := ob h
    refine Wg.bin (k := .i64) (k2 := .i64) (a := a0.high) (b := a0.low) rfl rfl rfl rfl rfl (bSub hv3) ?_
    obtain ⟨v4, hv4, h⟩ := ob h
    refine Wg.bin (k := .i64) (k2 := .i64) (a := v3) (b := 1) rfl rfl rfl rfl rfl (bAdd hv4) ?_
    obtain ⟨v5, hv5, h⟩ := ob h
    refine Wg.call rfl rfl rfl rfl (s36_ev hv5 _) ?_
    obtain ⟨v6, hv6, h⟩ := ob h
    refine Wg.bin (k := .i64) (k2 := .i64) (a := a0.low) (b := v5) rfl rfl rfl rfl rfl (bAdd hv6) ?_
    refine Wg.li rfl rfl rfl rfl (fun _ => rfl) ?_
    refine Wg.nil ?_
    refine ⟨fun _ => ?_, fun h => absurd (by decide) h⟩
    refine Wp.ret ?_
    have h := Option.some.inj h
    subst h
    exact ⟨.inr (by decide), _, rfl, rfl⟩
def s46 (N : Nat) (a0 : Int) (a1 : Int) : Option (Span) :=
  some (Span.mk a0 a1)
theorem at46 : ctx.P.funcs[46]? = some Tryd.f46 := by kernel_rfl
theorem s46_ev {N : Nat} {a0 : Int} {a1 : Int} {r : Span} (h : s46 N a0 a1 = some r) : ∀ H, Ev ctx (.call 46 [.int .i64 a0, .int .i64 a1] H (.agg (eSpan r)) H) := by
  refine Ev.of_pure at46 rfl rfl (Nat.le_of_ble_eq_true rfl) (pCons (.int _ _) (pCons (.int _ _) pNil)) (pv (pSpan _)) ?_
  unfold s46 at h
  refine Wp.seq ?_
  refine Wp.reg rfl ?_
  refine Wg.alloc rfl rfl rfl rfl ?_
  refine Wg.nil ?_
  refine ⟨fun _ => ?_, fun h => absurd (by decide) h⟩
  refine Wp.seq ?_
  refine Wp.reg rfl ?_
  iterate 3 refine Wg.li rfl rfl rfl rfl (fun _ => rfl) ?_
  refine Wg.heavy true (Nat.le_of_ble_eq_true rfl) rfl rfl rfl rfl ?_
  refine Wg.nil ?_
  refine ⟨fun _ => ?_, fun h => absurd (by decide) h⟩
  refine Wp.ret ?_
  have h := Option.some.inj h
  subst h
  exact ⟨.inr (by decide), _, rfl, rfl⟩
def s20_l10 (N : Nat) (a0 : (List Int)) (a1 : (List Int)) (s1 : Bool × Int) : Option ((Bool × Int) ⊕ (Bool)) :=
  if (s1.1 && (decide (s1.2 < (a0.length : Int)))) then
    (ix a0 s1.2).bind fun v7 =>
    (ix a1 s1.2).bind fun v8 =>
    (ck (s1.2 + 1)).bind fun v9 =>
    some (.inl ((v7 == v8), v9))
  else
    some (.inr s1.1)
def s20 (N : Nat) (a0 : (List Int)) (a1 : (List Int)) : Option (Bool) :=
  (iter (s20_l10 N a0 a1) N (((a0.length : Int) == (a1.length : Int)), 0)).bind fun o2 =>
  some o2
abbrev F20 : Fr := { r := false, N := 31, m := 0 }
theorem at20 : ctx.P.funcs[20]? = some Tryd.f20 := by kernel_rfl
theorem s20_ev {N : Nat} {a0 : (List Int)} {a1 : (List Int)} {r : Bool} (h : s20 N a0 a1 = some r) : ∀ H, Ev ctx (.call 20 [lst eInt a0 .unk, lst eInt a1 .unk] H (.bool r) H) := by
  refine Ev.of_pure at20 rfl rfl (Nat.le_of_ble_eq_true rfl) (pCons (Pure.lst pInt _ pUnk) (pCons (Pure.lst pInt _ pUnk) pNil)) (.bool _) ?_
  unfold s20 at h
  refine Wp.seq ?_
  refine Wp.reg rfl ?_
  refine Wg.li rfl rfl rfl rfl (fun _ => rfl) ?_
  refine Wg.nil ?_
  refine ⟨fun _ => ?_, fun h => absurd (by decide) h⟩
  refine Wp.seq ?_
  refine Wp.reg rfl ?_
  iterate 6 refine Wg.li rfl rfl rfl rfl (fun _ => rfl) ?_
  refine Wg.nil ?_
  refine ⟨fun _ => ?_, fun h => absurd (by decide) h⟩
  refine Wp.seq ?_
  refine Wp.seq ?_
  refine Wp.reg rfl ?_
  refine Wg.li rfl rfl rfl rfl (fun _ => rfl) ?_
  refine Wg.nil ?_
  refine ⟨fun _ => ?_, fun h => absurd (by decide) h⟩
  refine Wp.block ?_
  obtain ⟨o2, hx3, h⟩ := ob h
  refine Sub.use (Sub.canon [] [] [(0, lst eInt a0 .unk), (1, lst eInt a1 .unk), (5, .bool ((a0.length : Int) == (a1.length : Int))), (6, .int .i64 0)] rfl (by decide) trivial (.pure rfl (Pure.lst pInt _ pUnk) (.pure rfl (Pure.lst pInt _ pUnk) (.pure rfl (.bool _) (.pure rfl (.int _ _) .nil))))) ?_
  refine Wp.after (Wp.iterS (s20_l10 N a0 a1) (fun s1 => Env.ofList [(0, lst eInt a0 .unk), (1, lst eInt a1 .unk), (5, .bool s1.1), (6, .int .i64 s1.2)]) (fun s1 => hp []) (fun o2 x e' H' => x = .exit 0 ∧ Sub ctx F20 (Env.ofList [(5, .bool o2)]) (hp []) e' H') ?_ N (((a0.length : Int) == (a1.length : Int)), 0) _ hx3) ?_
  · intro s1 o ho
    unfold s20_l10 at ho
    refine Wp.seq ?_
    refine Wp.seq ?_
    refine Wp.reg rfl ?_
    iterate 2 refine Wg.li rfl rfl rfl rfl (fun _ => rfl) ?_
    have hv4 := ifAnd s1.1 (decide (s1.2 < (a0.length : Int)))
    refine Wg.grp 5 18 13 (s1.1 && (decide (s1.2 < (a0.length : Int)))) s1.1 rfl rfl (Nat.le_of_ble_eq_true rfl) (fun hb5 => ?_) (fun hb5 => ?_) ?_
    · have hv4 := iT hv4 hb5
      iterate 5 refine Wg.li rfl rfl rfl rfl (fun _ => rfl) ?_
      refine Wg.nil ⟨some_b hv4, ?_, rfl⟩
      repeat (first | exact Env.le_refl _ | refine Env.le_put rfl ?_)
    · have hv4 := iF hv4 hb5
      iterate 4 refine Wg.skip rfl rfl ?_
      refine Wg.li rfl rfl rfl rfl (fun _ => rfl) ?_
      refine Wg.nil ⟨some_b hv4, ?_, rfl⟩
      repeat (first | exact Env.le_refl _ | refine Env.le_put rfl ?_)
    refine Wg.nil ?_
    refine ⟨fun _ => ?_, fun h => absurd (by decide) h⟩
    refine Wp.cond (s1.1 && (decide (s1.2 < (a0.length : Int)))) rfl (fun hb6 => ?_) (fun hb6 => ?_)
    · have ho := iT ho hb6
      refine Wp.skip ?_
      refine ⟨fun _ => ?_, fun h => absurd (by decide) h⟩
      refine Wp.seq ?_
      refine Wp.block ?_
      refine Wp.drw _ [3, 7] rfl (by kernel_rfl) (Nat.le_refl _) ?_
      iterate 2 refine Wg.li rfl rfl rfl rfl (fun _ => rfl) ?_
      obtain ⟨v7, hv7, ho⟩ := ob ho
      refine Wg.idx (f := eInt) (xs := a0) (c := .unk) rfl rfl rfl rfl rfl rfl rfl lInt (by decide) hv7 ?_
      iterate 3 refine Wg.li rfl rfl rfl rfl (fun _ => rfl) ?_
      obtain ⟨v8, hv8, ho⟩ := ob ho
      refine Wg.idx (f := eInt) (xs := a1) (c := .unk) rfl rfl rfl rfl rfl rfl rfl lInt (by decide) hv8 ?_
      iterate 3 refine Wg.li rfl rfl rfl rfl (fun _ => rfl) ?_
      refine Wg.nil ?_
      refine ⟨fun _ => ?_, fun h => absurd (by decide) h⟩
      refine Wp.reg rfl ?_
      refine Wg.li rfl rfl rfl rfl (fun _ => rfl) ?_
      obtain ⟨v9, hv9, ho⟩ := ob ho
      refine Wg.bin (k := .i64) (k2 := .i64) (a := s1.2) (b := 1) rfl rfl rfl rfl rfl (bAdd hv9) ?_
      refine Wg.li rfl rfl rfl rfl (fun _ => rfl) ?_
      refine Wg.nil ?_
      have ho := Option.some.inj ho
      subst ho
      exact ⟨by decide, (Sub.canon [] [] [(0, lst eInt a0 .unk), (1, lst eInt a1 .unk), (5, .bool (v7 == v8)), (6, .int .i64 v9)] rfl (by decide) trivial (.pure rfl (Pure.lst pInt _ pUnk) (.pure rfl (Pure.lst pInt _ pUnk) (.pure rfl (.bool _) (.pure rfl (.int _ _) .nil)))))⟩
    · have ho := iF ho hb6
      refine Wp.exit ?_
      refine ⟨fun h => absurd h (by decide), fun _ => ?_⟩
      have ho := Option.some.inj ho
      subst ho
      exact ⟨by decide, by decide, (Sub.canon [] [] [(5, .bool s1.1)] rfl (by decide) trivial (.pure rfl (.bool _) .nil))⟩
  · intro x e' H' hP
    obtain ⟨hPx, hP2⟩ := hP
    subst hPx
    have hP := And.intro (True.intro) hP2
    refine ⟨fun _ => ?_, fun h => absurd (by decide) h⟩
    refine Sub.use hP.2 ?_
    refine Wp.seq ?_
    refine Wp.reg rfl ?_
    iterate 2 refine Wg.li rfl rfl rfl rfl (fun _ => rfl) ?_
    refine Wg.nil ?_
    refine ⟨fun _ => ?_, fun h => absurd (by decide) h⟩
    refine Wp.ret ?_
    have h := Option.some.inj h
    subst h
    exact ⟨.inr (by decide), _, rfl, rfl⟩
def s43_l12 (N : Nat) (a0 : (List Int)) (a1 : Int) (s1 : Int × Int) : Option ((Int × Int) ⊕ (Unit ⊕ Bool)) :=
  if (decide (s1.2 < (a0.length : Int))) then
    (ix a0 s1.2).bind fun v5 =>
    (ck (s1.1 + 1)).bind fun v6 =>
    (ck (a1 - 1)).bind fun v7 =>
    (s47 N v5 v6 v7).bind fun v8 =>
    if (!v8) then
      some (.inr (.inr false))
    else
      (ix a0 s1.2).bind fun v10 =>
      (ck (s1.2 + 1)).bind fun v11 =>
      some (.inl (v10, v11))
  else
    some (.inr (.inl ()))
def s43 (N : Nat) (a0 : (List Int)) (a1 : Int) : Option (Bool) :=
  (iter (s43_l12 N a0 a1) N ((-1), 0)).bind fun o2 => match o2 with
  | .inl s13 =>
    some true
  | .inr s14 =>
    some s14
abbrev F43 : Fr := { r := false, N := 27, m := 0 }
theorem at43 : ctx.P.funcs[43]? = some Tryd.f43 := by kernel_rfl
theorem s43_ev {N : Nat} {a0 : (List Int)} {a1 : Int} {r : Bool} (h : s43 N a0 a1 = some r) : ∀ H, Ev ctx (.call 43 [lst eInt a0 .unk, .int .i64 a1] H (.bool r) H) := by
  refine Ev.of_pure at43 rfl rfl (Nat.le_of_ble_eq_true rfl) (pCons (Pure.lst pInt _ pUnk) (pCons (.int _ _) pNil)) (.bool _) ?_
  unfold s43 at h
  refine Wp.seq ?_
  refine Wp.reg rfl ?_
  refine Wg.li rfl rfl rfl rfl (fun _ => rfl) ?_
  refine Wg.nil ?_
  refine ⟨fun _ => ?_, fun h => absurd (by decide) h⟩
  refine Wp.seq ?_
  refine Wp.reg rfl ?_
  refine Wg.li rfl rfl rfl rfl (fun _ => rfl) ?_
  refine Wg.nil ?_
  refine ⟨fun _ => ?_, fun h => absurd (by decide) h⟩
  refine Wp.seq ?_
  refine Wp.seq ?_
  refine Wp.reg rfl ?_
  refine Wg.li rfl rfl rfl rfl (fun _ => rfl) ?_
  refine Wg.nil ?_
  refine ⟨fun _ => ?_, fun h => absurd (by decide) h⟩
  refine Wp.block ?_
  obtain ⟨o2, hx3, h⟩ := ob h
  refine Sub.use (Sub.canon [] [] [(0, lst eInt a0 .unk), (1, .int .i64 a1), (5, .int .i64 (-1)), (6, .int .i64 0)] rfl (by decide) trivial (.pure rfl (Pure.lst pInt _ pUnk) (.pure rfl (.int _ _) (.pure rfl (.int _ _) (.pure rfl (.int _ _) .nil))))) ?_
  refine Wp.after (Wp.iterS (s43_l12 N a0 a1) (fun s1 => Env.ofList [(0, lst eInt a0 .unk), (1, .int .i64 a1), (5, .int .i64 s1.1), (6, .int .i64 s1.2)]) (fun s1 => hp []) (fun o2 x e' H' => match o2 with | .inl s => x = .exit 0 ∧ Sub ctx F43 (Env.ofList []) (hp []) e' H' | .inr s => x = .ret ∧ ∃ vs, resA ctx e' H' [.tmp 4] = some vs ∧ retA vs = .bool s) ?_ N ((-1), 0) _ hx3) ?_
  · intro s1 o ho
    unfold s43_l12 at ho
    refine Wp.seq ?_
    refine Wp.seq ?_
    refine Wp.reg rfl ?_
    iterate 4 refine Wg.li rfl rfl rfl rfl (fun _ => rfl) ?_
    refine Wg.nil ?_
    refine ⟨fun _ => ?_, fun h => absurd (by decide) h⟩
    refine Wp.cond (decide (s1.2 < (a0.length : Int))) rfl (fun hb4 => ?_) (fun hb4 => ?_)
    · have ho := iT ho hb4
      refine Wp.skip ?_
      refine ⟨fun _ => ?_, fun h => absurd (by decide) h⟩
      refine Wp.seq ?_
      refine Wp.block ?_
      refine Wp.seq ?_
      refine Wp.seq ?_
      refine Wp.reg rfl ?_
      iterate 2 refine Wg.li rfl rfl rfl rfl (fun _ => rfl) ?_
      obtain ⟨v5, hv5, ho⟩ := ob ho
      refine Wg.idx (f := eInt) (xs := a0) (c := .unk) rfl rfl rfl rfl rfl rfl rfl lInt (by decide) hv5 ?_
      iterate 2 refine Wg.li rfl rfl rfl rfl (fun _ => rfl) ?_
      obtain ⟨v6, hv6, ho⟩ := ob ho
      refine Wg.bin (k := .i64) (k2 := .i64) (a := s1.1) (b := 1) rfl rfl rfl rfl rfl (bAdd hv6) ?_
      refine Wg.li rfl rfl rfl rfl (fun _ => rfl) ?_
      obtain ⟨v7, hv7, ho⟩ := ob ho
      refine Wg.bin (k := .i64) (k2 := .i64) (a := a1) (b := 1) rfl rfl rfl rfl rfl (bSub hv7) ?_
      obtain ⟨v8, hv8, ho⟩ := ob ho
      refine Wg.call rfl rfl rfl rfl (s47_ev hv8 _) ?_
      refine Wg.li rfl rfl rfl rfl (fun _ => rfl) ?_
      refine Wg.nil ?_
      refine ⟨fun _ => ?_, fun h => absurd (by decide) h⟩
      refine Wp.cond (!v8) rfl (fun hb9 => ?_) (fun hb9 => ?_)
      · have ho := iT ho hb9
        refine Wp.seq ?_
        refine Wp.reg rfl ?_
        refine Wg.li rfl rfl rfl rfl (fun _ => rfl) ?_
        refine Wg.nil ?_
        refine ⟨fun _ => ?_, fun h => absurd (by decide) h⟩
        refine Wp.ret ?_
        refine ⟨fun h => absurd h (by decide), fun _ => ?_⟩
        refine ⟨fun h => absurd h (by decide), fun _ => ?_⟩
        have ho := Option.some.inj ho
        subst ho
        exact ⟨by decide, by decide, _, rfl, rfl⟩
      · have ho := iF ho hb9
        refine Wp.skip ?_
        refine ⟨fun _ => ?_, fun h => absurd (by decide) h⟩
        refine Wp.reg rfl ?_
        iterate 2 refine Wg.li rfl rfl rfl rfl (fun _ => rfl) ?_
        obtain ⟨v10, hv10, ho⟩ := ob ho
        refine Wg.idx (f := eInt) (xs := a0) (c := .unk) rfl rfl rfl rfl rfl rfl rfl lInt (by decide) hv10 ?_
        iterate 2 refine Wg.li rfl rfl rfl rfl (fun _ => rfl) ?_
        refine Wg.nil ?_
        refine ⟨fun _ => ?_, fun h => absurd (by decide) h⟩
        refine Wp.reg rfl ?_
        refine Wg.li rfl rfl rfl rfl (fun _ => rfl) ?_
        obtain ⟨v11, hv11, ho⟩ := ob ho
        refine Wg.bin (k := .i64) (k2 := .i64) (a := s1.2) (b := 1) rfl rfl rfl rfl rfl (bAdd hv11) ?_
        refine Wg.li rfl rfl rfl rfl (fun _ => rfl) ?_
        refine Wg.nil ?_
        have ho := Option.some.inj ho
        subst ho
        exact ⟨by decide, (Sub.canon [] [] [(0, lst eInt a0 .unk), (1, .int .i64 a1), (5, .int .i64 v10), (6, .int .i64 v11)] rfl (by decide) trivial (.pure rfl (Pure.lst pInt _ pUnk) (.pure rfl (.int _ _) (.pure rfl (.int _ _) (.pure rfl (.int _ _) .nil)))))⟩
    · have ho := iF ho hb4
      refine Wp.exit ?_
      refine ⟨fun h => absurd h (by decide), fun _ => ?_⟩
      have ho := Option.some.inj ho
      subst ho
      exact ⟨by decide, by decide, (Sub.canon [] [] [] rfl (by decide) trivial .nil)⟩
  · intro x e' H' hP
    rcases o2 with s13 | s14
    · obtain ⟨hPx, hP2⟩ := hP
      subst hPx
      have hP := And.intro (True.intro) hP2
      refine ⟨fun _ => ?_, fun h => absurd (by decide) h⟩
      refine Sub.use hP.2 ?_
      refine Wp.seq ?_
      refine Wp.reg rfl ?_
      refine Wg.li rfl rfl rfl rfl (fun _ => rfl) ?_
      refine Wg.nil ?_
      refine ⟨fun _ => ?_, fun h => absurd (by decide) h⟩
      refine Wp.ret ?_
      have h := Option.some.inj h
      subst h
      exact ⟨.inr (by decide), _, rfl, rfl⟩
    · have hPx := hP.1
      subst hPx
      refine ⟨fun h => absurd h (by decide), fun _ => ?_⟩
      exact ⟨.inr rfl, by obtain ⟨vs, h1, h2⟩ := hP.2; exact ⟨vs, h1, by rw [h2]; have h := Option.some.inj h; subst h; rfl⟩⟩
def s49 (N : Nat) (a0 : Int) (a1 : Int) (a2 : Int) : Option (Leg) :=
  some (Leg.mk a0 a1 a2)
theorem at49 : ctx.P.funcs[49]? = some Tryd.f49 := by kernel_rfl
theorem s49_ev {N : Nat} {a0 : Int} {a1 : Int} {a2 : Int} {r : Leg} (h : s49 N a0 a1 a2 = some r) : ∀ H, Ev ctx (.call 49 [.int .i64 a0, .int .i64 a1, .int .i64 a2] H (.agg (eLeg r)) H) := by
  refine Ev.of_pure at49 rfl rfl (Nat.le_of_ble_eq_true rfl) (pCons (.int _ _) (pCons (.int _ _) (pCons (.int _ _) pNil))) (pv (pLeg _)) ?_
  unfold s49 at h
  refine Wp.seq ?_
  refine Wp.reg rfl ?_
  refine Wg.alloc rfl rfl rfl rfl ?_
  refine Wg.nil ?_
  refine ⟨fun _ => ?_, fun h => absurd (by decide) h⟩
  refine Wp.seq ?_
  refine Wp.reg rfl ?_
  iterate 4 refine Wg.li rfl rfl rfl rfl (fun _ => rfl) ?_
  refine Wg.heavy true (Nat.le_of_ble_eq_true rfl) rfl rfl rfl rfl ?_
  refine Wg.nil ?_
  refine ⟨fun _ => ?_, fun h => absurd (by decide) h⟩
  refine Wp.ret ?_
  have h := Option.some.inj h
  subst h
  exact ⟨.inr (by decide), _, rfl, rfl⟩
def s90 (N : Nat) (a0 : Int) (a1 : Int) (a2 : Int) : Option (Stop) :=
  some (Stop.mk a0 a1 a2)
theorem at90 : ctx.P.funcs[90]? = some Tryd.f90 := by kernel_rfl
theorem s90_ev {N : Nat} {a0 : Int} {a1 : Int} {a2 : Int} {r : Stop} (h : s90 N a0 a1 a2 = some r) : ∀ H, Ev ctx (.call 90 [.int .i64 a0, .int .i64 a1, .int .i64 a2] H (.agg (eStop r)) H) := by
  refine Ev.of_pure at90 rfl rfl (Nat.le_of_ble_eq_true rfl) (pCons (.int _ _) (pCons (.int _ _) (pCons (.int _ _) pNil))) (pv (pStop _)) ?_
  unfold s90 at h
  refine Wp.seq ?_
  refine Wp.reg rfl ?_
  refine Wg.alloc rfl rfl rfl rfl ?_
  refine Wg.nil ?_
  refine ⟨fun _ => ?_, fun h => absurd (by decide) h⟩
  refine Wp.seq ?_
  refine Wp.reg rfl ?_
  iterate 4 refine Wg.li rfl rfl rfl rfl (fun _ => rfl) ?_
  refine Wg.heavy true (Nat.le_of_ble_eq_true rfl) rfl rfl rfl rfl ?_
  refine Wg.nil ?_
  refine ⟨fun _ => ?_, fun h => absurd (by decide) h⟩
  refine Wp.ret ?_
  have h := Option.some.inj h
  subst h
  exact ⟨.inr (by decide), _, rfl, rfl⟩
def s86 (N : Nat) (a0 : Table) (a1 : Int) : Option (Bool) :=
  (ck ((a0.offices.length : Int) - 1)).bind fun v1 =>
  (s47 N a1 0 v1).bind fun v2 =>
  some v2
def s67 (N : Nat) (a0 : Int) : Option (Bool) :=
  (s47 N a0 0 2879).bind fun v1 =>
  some v1
def s26_l10 (N : Nat) (a0 : (List Leg)) (a1 : (List Leg)) (s1 : Bool × Int) : Option ((Bool × Int) ⊕ (Bool)) :=
  if (s1.1 && (decide (s1.2 < (a0.length : Int)))) then
    (ix a0 s1.2).bind fun v7 =>
    (ix a1 s1.2).bind fun v8 =>
    (ck (s1.2 + 1)).bind fun v9 =>
    some (.inl (((v7.train == v8.train) && ((v7.frm == v8.frm) && ((v7.to == v8.to) && true))), v9))
  else
    some (.inr s1.1)
def s26 (N : Nat) (a0 : (List Leg)) (a1 : (List Leg)) : Option (Bool) :=
  (iter (s26_l10 N a0 a1) N (((a0.length : Int) == (a1.length : Int)), 0)).bind fun o2 =>
  some o2
abbrev F26 : Fr := { r := false, N := 31, m := 0 }
theorem at26 : ctx.P.funcs[26]? = some Tryd.f26 := by kernel_rfl
theorem s26_ev {N : Nat} {a0 : (List Leg)} {a1 : (List Leg)} {r : Bool} (h : s26 N a0 a1 = some r) : ∀ H, Ev ctx (.call 26 [lst eLeg a0 .unk, lst eLeg a1 .unk] H (.bool r) H) := by
  refine Ev.of_pure at26 rfl rfl (Nat.le_of_ble_eq_true rfl) (pCons (Pure.lst pLeg _ pUnk) (pCons (Pure.lst pLeg _ pUnk) pNil)) (.bool _) ?_
  unfold s26 at h
  refine Wp.seq ?_
  refine Wp.reg rfl ?_
  refine Wg.li rfl rfl rfl rfl (fun _ => rfl) ?_
  refine Wg.nil ?_
  refine ⟨fun _ => ?_, fun h => absurd (by decide) h⟩
  refine Wp.seq ?_
  refine Wp.reg rfl ?_
  iterate 6 refine Wg.li rfl rfl rfl rfl (fun _ => rfl) ?_
  refine Wg.nil ?_
  refine ⟨fun _ => ?_, fun h => absurd (by decide) h⟩
  refine Wp.seq ?_
  refine Wp.seq ?_
  refine Wp.reg rfl ?_
  refine Wg.li rfl rfl rfl rfl (fun _ => rfl) ?_
  refine Wg.nil ?_
  refine ⟨fun _ => ?_, fun h => absurd (by decide) h⟩
  refine Wp.block ?_
  obtain ⟨o2, hx3, h⟩ := ob h
  refine Sub.use (Sub.canon [] [] [(0, lst eLeg a0 .unk), (1, lst eLeg a1 .unk), (5, .bool ((a0.length : Int) == (a1.length : Int))), (6, .int .i64 0)] rfl (by decide) trivial (.pure rfl (Pure.lst pLeg _ pUnk) (.pure rfl (Pure.lst pLeg _ pUnk) (.pure rfl (.bool _) (.pure rfl (.int _ _) .nil))))) ?_
  refine Wp.after (Wp.iterS (s26_l10 N a0 a1) (fun s1 => Env.ofList [(0, lst eLeg a0 .unk), (1, lst eLeg a1 .unk), (5, .bool s1.1), (6, .int .i64 s1.2)]) (fun s1 => hp []) (fun o2 x e' H' => x = .exit 0 ∧ Sub ctx F26 (Env.ofList [(5, .bool o2)]) (hp []) e' H') ?_ N (((a0.length : Int) == (a1.length : Int)), 0) _ hx3) ?_
  · intro s1 o ho
    unfold s26_l10 at ho
    refine Wp.seq ?_
    refine Wp.seq ?_
    refine Wp.reg rfl ?_
    iterate 2 refine Wg.li rfl rfl rfl rfl (fun _ => rfl) ?_
    have hv4 := ifAnd s1.1 (decide (s1.2 < (a0.length : Int)))
    refine Wg.grp 5 18 13 (s1.1 && (decide (s1.2 < (a0.length : Int)))) s1.1 rfl rfl (Nat.le_of_ble_eq_true rfl) (fun hb5 => ?_) (fun hb5 => ?_) ?_
    · have hv4 := iT hv4 hb5
      iterate 5 refine Wg.li rfl rfl rfl rfl (fun _ => rfl) ?_
      refine Wg.nil ⟨some_b hv4, ?_, rfl⟩
      repeat (first | exact Env.le_refl _ | refine Env.le_put rfl ?_)
    · have hv4 := iF hv4 hb5
      iterate 4 refine Wg.skip rfl rfl ?_
      refine Wg.li rfl rfl rfl rfl (fun _ => rfl) ?_
      refine Wg.nil ⟨some_b hv4, ?_, rfl⟩
      repeat (first | exact Env.le_refl _ | refine Env.le_put rfl ?_)
    refine Wg.nil ?_
    refine ⟨fun _ => ?_, fun h => absurd (by decide) h⟩
    refine Wp.cond (s1.1 && (decide (s1.2 < (a0.length : Int)))) rfl (fun hb6 => ?_) (fun hb6 => ?_)
    · have ho := iT ho hb6
      refine Wp.skip ?_
      refine ⟨fun _ => ?_, fun h => absurd (by decide) h⟩
      refine Wp.seq ?_
      refine Wp.block ?_
      refine Wp.drw _ [3, 7] rfl (by kernel_rfl) (Nat.le_refl _) ?_
      iterate 2 refine Wg.li rfl rfl rfl rfl (fun _ => rfl) ?_
      obtain ⟨v7, hv7, ho⟩ := ob ho
      refine Wg.idx (f := eLeg) (xs := a0) (c := .unk) rfl rfl rfl rfl rfl rfl rfl lLeg (by decide) hv7 ?_
      iterate 3 refine Wg.li rfl rfl rfl rfl (fun _ => rfl) ?_
      obtain ⟨v8, hv8, ho⟩ := ob ho
      refine Wg.idx (f := eLeg) (xs := a1) (c := .unk) rfl rfl rfl rfl rfl rfl rfl lLeg (by decide) hv8 ?_
      iterate 3 refine Wg.li rfl rfl rfl rfl (fun _ => rfl) ?_
      refine Wg.nil ?_
      refine ⟨fun _ => ?_, fun h => absurd (by decide) h⟩
      refine Wp.reg rfl ?_
      refine Wg.li rfl rfl rfl rfl (fun _ => rfl) ?_
      obtain ⟨v9, hv9, ho⟩ := ob ho
      refine Wg.bin (k := .i64) (k2 := .i64) (a := s1.2) (b := 1) rfl rfl rfl rfl rfl (bAdd hv9) ?_
      refine Wg.li rfl rfl rfl rfl (fun _ => rfl) ?_
      refine Wg.nil ?_
      have ho := Option.some.inj ho
      subst ho
      exact ⟨by decide, (Sub.canon [] [] [(0, lst eLeg a0 .unk), (1, lst eLeg a1 .unk), (5, .bool ((v7.train == v8.train) && ((v7.frm == v8.frm) && ((v7.to == v8.to) && true)))), (6, .int .i64 v9)] rfl (by decide) trivial (.pure rfl (Pure.lst pLeg _ pUnk) (.pure rfl (Pure.lst pLeg _ pUnk) (.pure rfl (.bool _) (.pure rfl (.int _ _) .nil)))))⟩
    · have ho := iF ho hb6
      refine Wp.exit ?_
      refine ⟨fun h => absurd h (by decide), fun _ => ?_⟩
      have ho := Option.some.inj ho
      subst ho
      exact ⟨by decide, by decide, (Sub.canon [] [] [(5, .bool s1.1)] rfl (by decide) trivial (.pure rfl (.bool _) .nil))⟩
  · intro x e' H' hP
    obtain ⟨hPx, hP2⟩ := hP
    subst hPx
    have hP := And.intro (True.intro) hP2
    refine ⟨fun _ => ?_, fun h => absurd (by decide) h⟩
    refine Sub.use hP.2 ?_
    refine Wp.seq ?_
    refine Wp.reg rfl ?_
    iterate 2 refine Wg.li rfl rfl rfl rfl (fun _ => rfl) ?_
    refine Wg.nil ?_
    refine ⟨fun _ => ?_, fun h => absurd (by decide) h⟩
    refine Wp.ret ?_
    have h := Option.some.inj h
    subst h
    exact ⟨.inr (by decide), _, rfl, rfl⟩
end Go.Abs.Tr
