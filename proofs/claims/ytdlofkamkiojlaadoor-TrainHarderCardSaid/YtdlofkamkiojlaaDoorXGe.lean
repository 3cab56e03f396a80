/- Printed walks: the layer of trains, what is asked. Conditions: none. -/
import Derived.Test.YtdlofkamkiojlaaDoorXGc
import Derived.Test.YtdlofkamkiojlaaDoorXGd
set_option maxRecDepth 100000
set_option maxHeartbeats 1000000
set_option linter.unusedVariables false
namespace Go.Abs.Tr
open Go Go.Abs Go.Proofs
def s51 (N : Nat) (a0 : Table) (p1 : Calc → Option (Bool)) : Option (Calc × Int) :=
  (s14 N a0).bind fun v1 =>
  if (!(v1 == 0)) then
    some ((Calc.mk (Table.mk [] [] 0) []), v1)
  else
    (s91 N a0).bind fun v3 =>
    (p1 v3).bind fun v4 =>
    if (!v4) then
      some ((Calc.mk (Table.mk [] [] 0) []), 31)
    else
      some (v3, 0)
theorem at51 : ctx.P.funcs[51]? = some Tryd.f51 := by kernel_rfl
theorem s51_ev {N : Nat} {a0 : Table} {p1 : Calc → Option (Bool)} {fv1 : AV} (hfv1 : Pure fv1) (happfv1 : ∀ (x0 : Calc) r, p1 x0 = some r → ∀ H, Ev ctx (.app fv1 [.agg (eCalc x0)] H (.bool r) H)) {r : Calc × Int} (h : s51 N a0 p1 = some r) : ∀ H, Ev ctx (.call 51 [.agg (eTable a0), fv1] H (.tuple [.agg (eCalc r.1), .int .i64 r.2]) H) := by
  refine Ev.of_pure at51 rfl rfl (Nat.le_of_ble_eq_true rfl) (pCons (pv (pTab _)) (pCons hfv1 pNil)) (.tuple (pCons (pv (pCalcs _)) (pCons (.int _ _) pNil))) ?_
  unfold s51 at h
  refine Wp.seq ?_
  refine Wp.reg rfl ?_
  refine Wg.box rfl rfl rfl rfl ?_
  refine Wg.alloc rfl rfl rfl rfl ?_
  refine Wg.li rfl rfl rfl rfl (fun _ => rfl) ?_
  refine Wg.nil ?_
  refine ⟨fun _ => ?_, fun h => absurd (by decide) h⟩
  refine Wp.seq ?_
  refine Wp.seq ?_
  refine Wp.reg rfl ?_
  refine Wg.li rfl rfl rfl rfl (fun _ => rfl) ?_
  obtain ⟨v1, hv1, h⟩ := ob h
  refine Wg.call rfl rfl rfl rfl (s14_ev hv1 _) ?_
  refine Wg.li rfl rfl rfl rfl (fun _ => rfl) ?_
  refine Wg.nil ?_
  refine ⟨fun _ => ?_, fun h => absurd (by decide) h⟩
  refine Wp.seq ?_
  refine Wp.reg rfl ?_
  iterate 2 refine Wg.li rfl rfl rfl rfl (fun _ => rfl) ?_
  refine Wg.nil ?_
  refine ⟨fun _ => ?_, fun h => absurd (by decide) h⟩
  refine Wp.cond (!(v1 == 0)) rfl (fun hb2 => ?_) (fun hb2 => ?_)
  · have h := iT h hb2
    refine Wp.seq ?_
    refine Wp.reg rfl ?_
    iterate 2 refine Wg.li rfl rfl rfl rfl (fun _ => rfl) ?_
    refine Wg.heavy true (Nat.le_of_ble_eq_true rfl) rfl rfl rfl rfl ?_
    refine Wg.li rfl rfl rfl rfl (fun _ => rfl) ?_
    refine Wg.nil ?_
    refine ⟨fun _ => ?_, fun h => absurd (by decide) h⟩
    refine Sub.use (Sub.canon [some 0] [.cells (eCalc (Calc.mk (Table.mk [] [] 0) []))] [(4, .ptr 0 0), (5, .int .i64 v1)] rfl (by decide) ⟨.wk rfl (.cons (.unk (.refl _)) (.cons (.unk (.refl _)) (.cons (.refl _) (.cons .nilmap .nil)))) (pCalcs _), trivial⟩ (.ptr rfl rfl (.pure rfl (.int _ _) .nil))) ?_
    refine Wp.ret ?_
    refine ⟨fun h => absurd h (by decide), fun _ => ?_⟩
    have h := Option.some.inj h
    subst h
    exact ⟨.inr (by decide), _, rfl, rfl⟩
  · have h := iF h hb2
    refine Wp.skip ?_
    refine ⟨fun _ => ?_, fun h => absurd (by decide) h⟩
    refine Wp.seq ?_
    refine Wp.reg rfl ?_
    refine Wg.li rfl rfl rfl rfl (fun _ => rfl) ?_
    obtain ⟨v3, hv3, h⟩ := ob h
    refine Wg.call rfl rfl rfl rfl (s91_ev hv3 _) ?_
    refine Wg.alloc rfl rfl rfl rfl ?_
    refine Wg.heavy true (Nat.le_of_ble_eq_true rfl) rfl rfl rfl rfl ?_
    refine Wg.nil ?_
    refine ⟨fun _ => ?_, fun h => absurd (by decide) h⟩
    refine Wp.seq ?_
    refine Wp.seq ?_
    refine Wp.reg rfl ?_
    refine Wg.li rfl rfl rfl rfl (fun _ => rfl) ?_
    refine Wg.ld rfl rfl rfl rfl rfl rfl ?_
    obtain ⟨v4, hv4, h⟩ := ob h
    refine Wg.callv rfl rfl rfl rfl rfl (happfv1 _ _ hv4 _) ?_
    refine Wg.li rfl rfl rfl rfl (fun _ => rfl) ?_
    refine Wg.nil ?_
    refine ⟨fun _ => ?_, fun h => absurd (by decide) h⟩
    refine Wp.cond (!v4) rfl (fun hb5 => ?_) (fun hb5 => ?_)
    · have h := iT h hb5
      refine Wp.seq ?_
      refine Wp.reg rfl ?_
      refine Wg.li rfl rfl rfl rfl (fun _ => rfl) ?_
      refine Wg.heavy true (Nat.le_of_ble_eq_true rfl) rfl rfl rfl rfl ?_
      refine Wg.li rfl rfl rfl rfl (fun _ => rfl) ?_
      refine Wg.nil ?_
      refine ⟨fun _ => ?_, fun h => absurd (by decide) h⟩
      refine Sub.use (Sub.canon [some 0] [.cells (eCalc (Calc.mk (Table.mk [] [] 0) []))] [(4, .ptr 0 0), (5, .int .i64 31)] rfl (by decide) ⟨.wk rfl (.cons (.unk (.refl _)) (.cons (.unk (.refl _)) (.cons (.refl _) (.cons .nilmap .nil)))) (pCalcs _), trivial⟩ (.ptr rfl rfl (.pure rfl (.int _ _) .nil))) ?_
      refine Wp.ret ?_
      refine ⟨fun h => absurd h (by decide), fun _ => ?_⟩
      have h := Option.some.inj h
      subst h
      exact ⟨.inr (by decide), _, rfl, rfl⟩
    · have h := iF h hb5
      refine Wp.skip ?_
      refine ⟨fun _ => ?_, fun h => absurd (by decide) h⟩
      refine Wp.seq ?_
      refine Wp.reg rfl ?_
      refine Wg.ld rfl rfl rfl rfl rfl rfl ?_
      refine Wg.heavy true (Nat.le_of_ble_eq_true rfl) rfl rfl rfl rfl ?_
      refine Wg.li rfl rfl rfl rfl (fun _ => rfl) ?_
      refine Wg.nil ?_
      refine ⟨fun _ => ?_, fun h => absurd (by decide) h⟩
      refine Wp.ret ?_
      have h := Option.some.inj h
      subst h
      exact ⟨.inr (by decide), _, rfl, rfl⟩
def s64 (N : Nat) (a0 : Table) (a1 : (List Leg)) (a2 : Int) : Option (Calc × Int) :=
  (s51 N a0 (fun x0 => s94 N x0 a1 a2)).bind fun v1 =>
  some (v1.1, v1.2)
theorem at64 : ctx.P.funcs[64]? = some Tryd.f64 := by kernel_rfl
theorem s64_ev {N : Nat} {a0 : Table} {a1 : (List Leg)} {a2 : Int} {r : Calc × Int} (h : s64 N a0 a1 a2 = some r) : ∀ H, Ev ctx (.call 64 [.agg (eTable a0), lst eLeg a1 .unk, .int .i64 a2] H (.tuple [.agg (eCalc r.1), .int .i64 r.2]) H) := by
  refine Ev.of_pure at64 rfl rfl (Nat.le_of_ble_eq_true rfl) (pCons (pv (pTab _)) (pCons (Pure.lst pLeg _ pUnk) (pCons (.int _ _) pNil))) (.tuple (pCons (pv (pCalcs _)) (pCons (.int _ _) pNil))) ?_
  unfold s64 at h
  refine Wp.seq ?_
  refine Wp.reg rfl ?_
  refine Wg.box rfl rfl rfl rfl ?_
  refine Wg.box rfl rfl rfl rfl ?_
  refine Wg.box rfl rfl rfl rfl ?_
  refine Wg.alloc rfl rfl rfl rfl ?_
  refine Wg.li rfl rfl rfl rfl (fun _ => rfl) ?_
  refine Wg.nil ?_
  refine ⟨fun _ => ?_, fun h => absurd (by decide) h⟩
  refine Wp.seq ?_
  refine Wp.reg rfl ?_
  iterate 2 refine Wg.li rfl rfl rfl rfl (fun _ => rfl) ?_
  obtain ⟨v1, hv1, h⟩ := ob h
  refine Wg.call rfl rfl rfl rfl (s51_ev (.func pNil (pCons (.ro (pCons (Pure.lst pLeg _ pUnk) pNil)) (pCons (.ro (pCons (.int _ _) pNil)) pNil))) (fun x0 r h H => .func (s94_ev h H)) hv1 _) ?_
  iterate 2 refine Wg.li rfl rfl rfl rfl (fun _ => rfl) ?_
  refine Wg.heavy true (Nat.le_of_ble_eq_true rfl) rfl rfl rfl rfl ?_
  refine Wg.li rfl rfl rfl rfl (fun _ => rfl) ?_
  refine Wg.nil ?_
  refine ⟨fun _ => ?_, fun h => absurd (by decide) h⟩
  refine Wp.ret ?_
  have h := Option.some.inj h
  subst h
  exact ⟨.inr (by decide), _, rfl, rfl⟩
def s77 (N : Nat) (a0 : Table) (a1 : Int) (a2 : Int) (a3 : Int) : Option (Calc × Int) :=
  (s51 N a0 (fun x0 => s99 N x0 a1 a2 a3)).bind fun v1 =>
  some (v1.1, v1.2)
theorem at77 : ctx.P.funcs[77]? = some Tryd.f77 := by kernel_rfl
theorem s77_ev {N : Nat} {a0 : Table} {a1 : Int} {a2 : Int} {a3 : Int} {r : Calc × Int} (h : s77 N a0 a1 a2 a3 = some r) : ∀ H, Ev ctx (.call 77 [.agg (eTable a0), .int .i64 a1, .int .i64 a2, .int .i64 a3] H (.tuple [.agg (eCalc r.1), .int .i64 r.2]) H) := by
  refine Ev.of_pure at77 rfl rfl (Nat.le_of_ble_eq_true rfl) (pCons (pv (pTab _)) (pCons (.int _ _) (pCons (.int _ _) (pCons (.int _ _) pNil)))) (.tuple (pCons (pv (pCalcs _)) (pCons (.int _ _) pNil))) ?_
  unfold s77 at h
  refine Wp.seq ?_
  refine Wp.reg rfl ?_
  refine Wg.box rfl rfl rfl rfl ?_
  refine Wg.box rfl rfl rfl rfl ?_
  refine Wg.box rfl rfl rfl rfl ?_
  refine Wg.box rfl rfl rfl rfl ?_
  refine Wg.alloc rfl rfl rfl rfl ?_
  refine Wg.li rfl rfl rfl rfl (fun _ => rfl) ?_
  refine Wg.nil ?_
  refine ⟨fun _ => ?_, fun h => absurd (by decide) h⟩
  refine Wp.seq ?_
  refine Wp.reg rfl ?_
  iterate 2 refine Wg.li rfl rfl rfl rfl (fun _ => rfl) ?_
  obtain ⟨v1, hv1, h⟩ := ob h
  refine Wg.call rfl rfl rfl rfl (s51_ev (.func pNil (pCons (.ro (pCons (.int _ _) pNil)) (pCons (.ro (pCons (.int _ _) pNil)) (pCons (.ro (pCons (.int _ _) pNil)) pNil)))) (fun x0 r h H => .func (s99_ev h H)) hv1 _) ?_
  iterate 2 refine Wg.li rfl rfl rfl rfl (fun _ => rfl) ?_
  refine Wg.heavy true (Nat.le_of_ble_eq_true rfl) rfl rfl rfl rfl ?_
  refine Wg.li rfl rfl rfl rfl (fun _ => rfl) ?_
  refine Wg.nil ?_
  refine ⟨fun _ => ?_, fun h => absurd (by decide) h⟩
  refine Wp.ret ?_
  have h := Option.some.inj h
  subst h
  exact ⟨.inr (by decide), _, rfl, rfl⟩
def s12 (N : Nat) (a0 : Table) (a1 : (List Leg)) (a2 : Int) (a3 : Int) : Option (Bool × Int) :=
  (s51 N a0 (fun x0 => s52 N x0 a2 a3)).bind fun v1 =>
  if (!(v1.2 == 0)) then
    some (false, v1.2)
  else
    (s54 N v1.1 a1).bind fun v3 =>
    (if v3 then 
      (s55 N v1.1 a1).bind fun v6 =>
      some (v6 == a2)
     else some false).bind fun v7 =>
    (if v7 then 
      (s56 N v1.1 a1).bind fun v10 =>
      some (v10 == a3)
     else some false).bind fun v11 =>
    some (v11, 0)
theorem at12 : ctx.P.funcs[12]? = some Tryd.f12 := by kernel_rfl
theorem s12_ev {N : Nat} {a0 : Table} {a1 : (List Leg)} {a2 : Int} {a3 : Int} {r : Bool × Int} (h : s12 N a0 a1 a2 a3 = some r) : ∀ H, Ev ctx (.call 12 [.agg (eTable a0), lst eLeg a1 .unk, .int .i64 a2, .int .i64 a3] H (.tuple [.bool r.1, .int .i64 r.2]) H) := by
  refine Ev.of_pure at12 rfl rfl (Nat.le_of_ble_eq_true rfl) (pCons (pv (pTab _)) (pCons (Pure.lst pLeg _ pUnk) (pCons (.int _ _) (pCons (.int _ _) pNil)))) (.tuple (pCons (.bool _) (pCons (.int _ _) pNil))) ?_
  unfold s12 at h
  refine Wp.seq ?_
  refine Wp.reg rfl ?_
  refine Wg.box rfl rfl rfl rfl ?_
  refine Wg.box rfl rfl rfl rfl ?_
  refine Wg.box rfl rfl rfl rfl ?_
  iterate 2 refine Wg.li rfl rfl rfl rfl (fun _ => rfl) ?_
  refine Wg.nil ?_
  refine ⟨fun _ => ?_, fun h => absurd (by decide) h⟩
  refine Wp.seq ?_
  refine Wp.reg rfl ?_
  iterate 2 refine Wg.li rfl rfl rfl rfl (fun _ => rfl) ?_
  obtain ⟨v1, hv1, h⟩ := ob h
  refine Wg.call rfl rfl rfl rfl (s51_ev (.func pNil (pCons (.ro (pCons (.int _ _) pNil)) (pCons (.ro (pCons (.int _ _) pNil)) pNil))) (fun x0 r h H => .func (s52_ev h H)) hv1 _) ?_
  iterate 3 refine Wg.li rfl rfl rfl rfl (fun _ => rfl) ?_
  refine Wg.alloc rfl rfl rfl rfl ?_
  refine Wg.heavy true (Nat.le_of_ble_eq_true rfl) rfl rfl rfl rfl ?_
  refine Wg.li rfl rfl rfl rfl (fun _ => rfl) ?_
  refine Wg.nil ?_
  refine ⟨fun _ => ?_, fun h => absurd (by decide) h⟩
  refine Wp.seq ?_
  refine Wp.seq ?_
  refine Wp.reg rfl ?_
  iterate 2 refine Wg.li rfl rfl rfl rfl (fun _ => rfl) ?_
  refine Wg.nil ?_
  refine ⟨fun _ => ?_, fun h => absurd (by decide) h⟩
  refine Wp.cond (!(v1.2 == 0)) rfl (fun hb2 => ?_) (fun hb2 => ?_)
  · have h := iT h hb2
    refine Wp.seq ?_
    refine Wp.reg rfl ?_
    iterate 3 refine Wg.li rfl rfl rfl rfl (fun _ => rfl) ?_
    refine Wg.nil ?_
    refine ⟨fun _ => ?_, fun h => absurd (by decide) h⟩
    refine Wp.ret ?_
    refine ⟨fun h => absurd h (by decide), fun _ => ?_⟩
    have h := Option.some.inj h
    subst h
    exact ⟨.inr (by decide), _, rfl, rfl⟩
  · have h := iF h hb2
    refine Wp.skip ?_
    refine ⟨fun _ => ?_, fun h => absurd (by decide) h⟩
    refine Wp.seq ?_
    refine Wp.drw _ [7, 14] rfl (by kernel_rfl) (Nat.le_refl _) ?_
    refine Wg.ld rfl rfl rfl rfl rfl rfl ?_
    refine Wg.li rfl rfl rfl rfl (fun _ => rfl) ?_
    obtain ⟨v3, hv3, h⟩ := ob h
    refine Wg.call rfl rfl rfl rfl (s54_ev hv3 _) ?_
    refine Wg.li rfl rfl rfl rfl (fun _ => rfl) ?_
    obtain ⟨v7, hv4, h⟩ := ob h
    refine Wg.grp 6 30 24 v7 v3 rfl rfl (Nat.le_of_ble_eq_true rfl) (fun hb5 => ?_) (fun hb5 => ?_) ?_
    · have hv4 := iT hv4 hb5
      refine Wg.ld rfl rfl rfl rfl rfl rfl ?_
      refine Wg.li rfl rfl rfl rfl (fun _ => rfl) ?_
      obtain ⟨v6, hv6, hv4⟩ := ob hv4
      refine Wg.call rfl rfl rfl rfl (s55_ev hv6 _) ?_
      iterate 3 refine Wg.li rfl rfl rfl rfl (fun _ => rfl) ?_
      refine Wg.nil ⟨some_b hv4, ?_, rfl⟩
      repeat (first | exact Env.le_refl _ | refine Env.le_put rfl ?_)
    · have hv4 := iF hv4 hb5
      iterate 5 refine Wg.skip rfl rfl ?_
      refine Wg.li rfl rfl rfl rfl (fun _ => rfl) ?_
      refine Wg.nil ⟨some_b hv4, ?_, rfl⟩
      repeat (first | exact Env.le_refl _ | refine Env.le_put rfl ?_)
    refine Wg.li rfl rfl rfl rfl (fun _ => rfl) ?_
    obtain ⟨v11, hv8, h⟩ := ob h
    refine Wg.grp 6 37 31 v11 v7 rfl rfl (Nat.le_of_ble_eq_true rfl) (fun hb9 => ?_) (fun hb9 => ?_) ?_
    · have hv8 := iT hv8 hb9
      refine Wg.ld rfl rfl rfl rfl rfl rfl ?_
      refine Wg.li rfl rfl rfl rfl (fun _ => rfl) ?_
      obtain ⟨v10, hv10, hv8⟩ := ob hv8
      refine Wg.call rfl rfl rfl rfl (s56_ev hv10 _) ?_
      iterate 3 refine Wg.li rfl rfl rfl rfl (fun _ => rfl) ?_
      refine Wg.nil ⟨some_b hv8, ?_, rfl⟩
      repeat (first | exact Env.le_refl _ | refine Env.le_put rfl ?_)
    · have hv8 := iF hv8 hb9
      iterate 5 refine Wg.skip rfl rfl ?_
      refine Wg.li rfl rfl rfl rfl (fun _ => rfl) ?_
      refine Wg.nil ⟨some_b hv8, ?_, rfl⟩
      repeat (first | exact Env.le_refl _ | refine Env.le_put rfl ?_)
    iterate 2 refine Wg.li rfl rfl rfl rfl (fun _ => rfl) ?_
    refine Wg.nil ?_
    refine ⟨fun _ => ?_, fun h => absurd (by decide) h⟩
    refine Wp.ret ?_
    have h := Option.some.inj h
    subst h
    exact ⟨.inr (by decide), _, rfl, rfl⟩
def s16 (N : Nat) (a0 : Table) (a1 : (List Leg)) (a2 : Int) : Option (Int × Int) :=
  (s64 N a0 a1 a2).bind fun v1 =>
  if (!(v1.2 == 0)) then
    some (0, v1.2)
  else
    (s65 N v1.1 a1 a2).bind fun v3 =>
    some (v3, 0)
theorem at16 : ctx.P.funcs[16]? = some Tryd.f16 := by kernel_rfl
theorem s16_ev {N : Nat} {a0 : Table} {a1 : (List Leg)} {a2 : Int} {r : Int × Int} (h : s16 N a0 a1 a2 = some r) : ∀ H, Ev ctx (.call 16 [.agg (eTable a0), lst eLeg a1 .unk, .int .i64 a2] H (.tuple [.int .i64 r.1, .int .i64 r.2]) H) := by
  refine Ev.of_pure at16 rfl rfl (Nat.le_of_ble_eq_true rfl) (pCons (pv (pTab _)) (pCons (Pure.lst pLeg _ pUnk) (pCons (.int _ _) pNil))) (.tuple (pCons (.int _ _) (pCons (.int _ _) pNil))) ?_
  unfold s16 at h
  refine Wp.seq ?_
  refine Wp.reg rfl ?_
  refine Wg.box rfl rfl rfl rfl ?_
  iterate 2 refine Wg.li rfl rfl rfl rfl (fun _ => rfl) ?_
  refine Wg.nil ?_
  refine ⟨fun _ => ?_, fun h => absurd (by decide) h⟩
  refine Wp.seq ?_
  refine Wp.reg rfl ?_
  iterate 3 refine Wg.li rfl rfl rfl rfl (fun _ => rfl) ?_
  obtain ⟨v1, hv1, h⟩ := ob h
  refine Wg.call rfl rfl rfl rfl (s64_ev hv1 _) ?_
  iterate 3 refine Wg.li rfl rfl rfl rfl (fun _ => rfl) ?_
  refine Wg.alloc rfl rfl rfl rfl ?_
  refine Wg.heavy true (Nat.le_of_ble_eq_true rfl) rfl rfl rfl rfl ?_
  refine Wg.li rfl rfl rfl rfl (fun _ => rfl) ?_
  refine Wg.nil ?_
  refine ⟨fun _ => ?_, fun h => absurd (by decide) h⟩
  refine Wp.seq ?_
  refine Wp.seq ?_
  refine Wp.reg rfl ?_
  iterate 2 refine Wg.li rfl rfl rfl rfl (fun _ => rfl) ?_
  refine Wg.nil ?_
  refine ⟨fun _ => ?_, fun h => absurd (by decide) h⟩
  refine Wp.cond (!(v1.2 == 0)) rfl (fun hb2 => ?_) (fun hb2 => ?_)
  · have h := iT h hb2
    refine Wp.seq ?_
    refine Wp.reg rfl ?_
    iterate 3 refine Wg.li rfl rfl rfl rfl (fun _ => rfl) ?_
    refine Wg.nil ?_
    refine ⟨fun _ => ?_, fun h => absurd (by decide) h⟩
    refine Wp.ret ?_
    refine ⟨fun h => absurd h (by decide), fun _ => ?_⟩
    have h := Option.some.inj h
    subst h
    exact ⟨.inr (by decide), _, rfl, rfl⟩
  · have h := iF h hb2
    refine Wp.skip ?_
    refine ⟨fun _ => ?_, fun h => absurd (by decide) h⟩
    refine Wp.seq ?_
    refine Wp.reg rfl ?_
    refine Wg.ld rfl rfl rfl rfl rfl rfl ?_
    iterate 2 refine Wg.li rfl rfl rfl rfl (fun _ => rfl) ?_
    obtain ⟨v3, hv3, h⟩ := ob h
    refine Wg.call rfl rfl rfl rfl (s65_ev hv3 _) ?_
    iterate 2 refine Wg.li rfl rfl rfl rfl (fun _ => rfl) ?_
    refine Wg.nil ?_
    refine ⟨fun _ => ?_, fun h => absurd (by decide) h⟩
    refine Wp.ret ?_
    have h := Option.some.inj h
    subst h
    exact ⟨.inr (by decide), _, rfl, rfl⟩
def s18_l16 (N : Nat) (a1 : (List Leg)) (a2 : Int) (v1 : Calc × Int) (s6 : (List Int) × Int) : Option (((List Int) × Int) ⊕ ((List Int))) :=
  if (decide (s6.2 < (a1.length : Int))) then
    (s70 N v1.1 a1 a2 s6.2).bind fun v10 =>
    (if v10 then
      (ap 8 s6.1 ([s6.2])).bind fun v14 =>
      some v14
    else
      some s6.1).bind fun o11 =>
    (ck (s6.2 + 1)).bind fun v15 =>
    some (.inl (o11, v15))
  else
    some (.inr s6.1)
def s18 (N : Nat) (a0 : Table) (a1 : (List Leg)) (a2 : Int) : Option ((List Int) × Int) :=
  (s64 N a0 a1 a2).bind fun v1 =>
  if (!(v1.2 == 0)) then
    some ([], v1.2)
  else
    (s55 N v1.1 a1).bind fun v3 =>
    (s69 N v1.1 v3 a2).bind fun v4 =>
    if (!v4) then
      some ([], 4)
    else
      (iter (s18_l16 N a1 a2 v1) N ([], 0)).bind fun o7 =>
      (sl o7 0 (o7.length : Int)).bind fun v17 =>
      some (v17, 0)
abbrev F18 : Fr := { r := false, N := 50, m := 0 }
theorem at18 : ctx.P.funcs[18]? = some Tryd.f18 := by kernel_rfl
theorem s18_ev {N : Nat} {a0 : Table} {a1 : (List Leg)} {a2 : Int} {r : (List Int) × Int} (h : s18 N a0 a1 a2 = some r) : ∀ H, Ev ctx (.call 18 [.agg (eTable a0), lst eLeg a1 .unk, .int .i64 a2] H (.tuple [lst eInt r.1 .unk, .int .i64 r.2]) H) := by
  refine Ev.of_pure at18 rfl rfl (Nat.le_of_ble_eq_true rfl) (pCons (pv (pTab _)) (pCons (Pure.lst pLeg _ pUnk) (pCons (.int _ _) pNil))) (.tuple (pCons (Pure.lst pInt _ pUnk) (pCons (.int _ _) pNil))) ?_
  unfold s18 at h
  refine Wp.seq ?_
  refine Wp.reg rfl ?_
  refine Wg.box rfl rfl rfl rfl ?_
  iterate 2 refine Wg.li rfl rfl rfl rfl (fun _ => rfl) ?_
  refine Wg.nil ?_
  refine ⟨fun _ => ?_, fun h => absurd (by decide) h⟩
  refine Wp.seq ?_
  refine Wp.reg rfl ?_
  iterate 3 refine Wg.li rfl rfl rfl rfl (fun _ => rfl) ?_
  obtain ⟨v1, hv1, h⟩ := ob h
  refine Wg.call rfl rfl rfl rfl (s64_ev hv1 _) ?_
  iterate 3 refine Wg.li rfl rfl rfl rfl (fun _ => rfl) ?_
  refine Wg.alloc rfl rfl rfl rfl ?_
  refine Wg.heavy true (Nat.le_of_ble_eq_true rfl) rfl rfl rfl rfl ?_
  refine Wg.li rfl rfl rfl rfl (fun _ => rfl) ?_
  refine Wg.nil ?_
  refine ⟨fun _ => ?_, fun h => absurd (by decide) h⟩
  refine Wp.seq ?_
  refine Wp.seq ?_
  refine Wp.reg rfl ?_
  iterate 2 refine Wg.li rfl rfl rfl rfl (fun _ => rfl) ?_
  refine Wg.nil ?_
  refine ⟨fun _ => ?_, fun h => absurd (by decide) h⟩
  refine Wp.cond (!(v1.2 == 0)) rfl (fun hb2 => ?_) (fun hb2 => ?_)
  · have h := iT h hb2
    refine Wp.seq ?_
    refine Wp.reg rfl ?_
    iterate 3 refine Wg.li rfl rfl rfl rfl (fun _ => rfl) ?_
    refine Wg.nil ?_
    refine ⟨fun _ => ?_, fun h => absurd (by decide) h⟩
    refine Sub.use (Sub.canon [] [] [(6, lst eInt [] .unk), (7, .int .i64 v1.2)] rfl (by decide) trivial (.unk (c := .full) rfl pInt (.pure rfl (.int _ _) .nil))) ?_
    refine Wp.ret ?_
    refine ⟨fun h => absurd h (by decide), fun _ => ?_⟩
    have h := Option.some.inj h
    subst h
    exact ⟨.inr (by decide), _, rfl, rfl⟩
  · have h := iF h hb2
    refine Wp.skip ?_
    refine ⟨fun _ => ?_, fun h => absurd (by decide) h⟩
    refine Wp.seq ?_
    refine Wp.seq ?_
    refine Wp.drw _ [] rfl (by kernel_rfl) (Nat.le_refl _) ?_
    iterate 2 refine Wg.ld rfl rfl rfl rfl rfl rfl ?_
    refine Wg.li rfl rfl rfl rfl (fun _ => rfl) ?_
    obtain ⟨v3, hv3, h⟩ := ob h
    refine Wg.call rfl rfl rfl rfl (s55_ev hv3 _) ?_
    refine Wg.li rfl rfl rfl rfl (fun _ => rfl) ?_
    obtain ⟨v4, hv4, h⟩ := ob h
    refine Wg.call rfl rfl rfl rfl (s69_ev hv4 _) ?_
    refine Wg.li rfl rfl rfl rfl (fun _ => rfl) ?_
    refine Wg.nil ?_
    refine ⟨fun _ => ?_, fun h => absurd (by decide) h⟩
    refine Wp.cond (!v4) rfl (fun hb5 => ?_) (fun hb5 => ?_)
    · have h := iT h hb5
      refine Wp.seq ?_
      refine Wp.reg rfl ?_
      iterate 2 refine Wg.li rfl rfl rfl rfl (fun _ => rfl) ?_
      refine Wg.nil ?_
      refine ⟨fun _ => ?_, fun h => absurd (by decide) h⟩
      refine Sub.use (Sub.canon [] [] [(6, lst eInt [] .unk), (7, .int .i64 4)] rfl (by decide) trivial (.unk (c := .full) rfl pInt (.pure rfl (.int _ _) .nil))) ?_
      refine Wp.ret ?_
      refine ⟨fun h => absurd h (by decide), fun _ => ?_⟩
      have h := Option.some.inj h
      subst h
      exact ⟨.inr (by decide), _, rfl, rfl⟩
    · have h := iF h hb5
      refine Wp.skip ?_
      refine ⟨fun _ => ?_, fun h => absurd (by decide) h⟩
      refine Wp.seq ?_
      refine Wp.reg rfl ?_
      refine Wg.li rfl rfl rfl rfl (fun _ => rfl) ?_
      refine Wg.nil ?_
      refine ⟨fun _ => ?_, fun h => absurd (by decide) h⟩
      refine Wp.seq ?_
      refine Wp.seq ?_
      refine Wp.reg rfl ?_
      iterate 3 refine Wg.li rfl rfl rfl rfl (fun _ => rfl) ?_
      refine Wg.nil ?_
      refine ⟨fun _ => ?_, fun h => absurd (by decide) h⟩
      refine Wp.block ?_
      obtain ⟨o7, hx8, h⟩ := ob h
      refine Sub.use (Sub.canon [none, some 0] [.gone, .cells (eCalc v1.1)] [(1, lst eLeg a1 .unk), (2, .int .i64 a2), (8, .ptr 1 0), (10, lst eInt [] (capT [] 0)), (30, .int .i64 (a1.length : Int)), (31, .int .i64 0)] rfl (by decide) ⟨.pure rfl (pCalcs _), trivial⟩ (.pure rfl (Pure.lst pLeg _ pUnk) (.pure rfl (.int _ _) (.ptr rfl rfl (.grow0 rfl (.pure rfl (.int _ _) (.pure rfl (.int _ _) .nil))))))) ?_
      refine Wp.after (Wp.iterS (s18_l16 N a1 a2 v1) (fun s6 => Env.ofList [(1, lst eLeg a1 .unk), (2, .int .i64 a2), (8, .ptr 1 0), (10, lst eInt s6.1 (capT s6.1 0)), (30, .int .i64 (a1.length : Int)), (31, .int .i64 s6.2)]) (fun s6 => hp [ownT s6.1, .cells (eCalc v1.1)]) (fun o7 x e' H' => x = .exit 0 ∧ Sub ctx F18 (Env.ofList [(10, lst eInt o7 (capT o7 0))]) (hp [ownT o7]) e' H') ?_ N ([], 0) _ hx8) ?_
      · intro s6 o ho
        unfold s18_l16 at ho
        refine Wp.seq ?_
        refine Wp.reg rfl ?_
        refine Wg.li rfl rfl rfl rfl (fun _ => rfl) ?_
        refine Wg.nil ?_
        refine ⟨fun _ => ?_, fun h => absurd (by decide) h⟩
        refine Wp.seq ?_
        refine Wp.cond (decide (s6.2 < (a1.length : Int))) rfl (fun hb9 => ?_) (fun hb9 => ?_)
        · have ho := iT ho hb9
          refine Wp.skip ?_
          refine ⟨fun _ => ?_, fun h => absurd (by decide) h⟩
          refine Wp.seq ?_
          refine Wp.block ?_
          refine Wp.seq ?_
          refine Wp.reg rfl ?_
          iterate 2 refine Wg.li rfl rfl rfl rfl (fun _ => rfl) ?_
          refine Wg.nil ?_
          refine ⟨fun _ => ?_, fun h => absurd (by decide) h⟩
          refine Wp.seq ?_
          refine Wp.reg rfl ?_
          refine Wg.ld rfl rfl rfl rfl rfl rfl ?_
          iterate 3 refine Wg.li rfl rfl rfl rfl (fun _ => rfl) ?_
          obtain ⟨v10, hv10, ho⟩ := ob ho
          refine Wg.call rfl rfl rfl rfl (s70_ev hv10 _) ?_
          refine Wg.nil ?_
          refine ⟨fun _ => ?_, fun h => absurd (by decide) h⟩
          obtain ⟨o11, hx12, ho⟩ := ob ho
          refine Wp.after (Q' := fun x e' H' => x = .normal ∧ Sub ctx F18 (Env.ofList [(1, lst eLeg a1 .unk), (2, .int .i64 a2), (8, .ptr 1 0), (10, lst eInt o11 (capT o11 0)), (30, .int .i64 (a1.length : Int)), (31, .int .i64 s6.2)]) (hp [ownT o11, .cells (eCalc v1.1)]) e' H') ?_ ?_
          · refine Wp.cond v10 rfl (fun hb13 => ?_) (fun hb13 => ?_)
            · have hx12 := iT hx12 hb13
              refine Wp.reg rfl ?_
              iterate 3 refine Wg.li rfl rfl rfl rfl (fun _ => rfl) ?_
              obtain ⟨v14, hv14, hx12⟩ := ob hx12
              refine Wg.appG (k := 0) (f := eInt) (xs := s6.1) (ys := [s6.2]) (c2 := .full) (Nat.le_of_ble_eq_true rfl) rfl rfl rfl rfl rfl rfl rfl rfl rfl lInt (by decide) (by decide) (by simp) rfl hv14 ?_
              refine Wg.li rfl rfl rfl rfl (fun _ => rfl) ?_
              refine Wg.nil ?_
              have hx12 := Option.some.inj hx12
              subst hx12
              exact ⟨by decide, (Sub.canon [some 2, some 1] [ownT v14, .cells (eCalc v1.1)] [(1, lst eLeg a1 .unk), (2, .int .i64 a2), (8, .ptr 1 0), (10, lst eInt v14 (capT v14 0)), (30, .int .i64 (a1.length : Int)), (31, .int .i64 s6.2)] rfl (by decide) ⟨.grow rfl, .pure rfl (pCalcs _), trivial⟩ (.pure rfl (Pure.lst pLeg _ pUnk) (.pure rfl (.int _ _) (.ptr rfl rfl (.grow rfl pInt rfl (.pure rfl (.int _ _) (.pure rfl (.int _ _) .nil)))))))⟩
            · have hx12 := iF hx12 hb13
              refine Wp.skip ?_
              have hx12 := Option.some.inj hx12
              subst hx12
              exact ⟨by decide, (Sub.canon [some 0, some 1] [ownT s6.1, .cells (eCalc v1.1)] [(1, lst eLeg a1 .unk), (2, .int .i64 a2), (8, .ptr 1 0), (10, lst eInt s6.1 (capT s6.1 0)), (30, .int .i64 (a1.length : Int)), (31, .int .i64 s6.2)] rfl (by decide) ⟨.grow rfl, .pure rfl (pCalcs _), trivial⟩ (.pure rfl (Pure.lst pLeg _ pUnk) (.pure rfl (.int _ _) (.ptr rfl rfl (.grow rfl pInt rfl (.pure rfl (.int _ _) (.pure rfl (.int _ _) .nil)))))))⟩
          · intro x e' H' hP
            obtain ⟨hPx, hP2⟩ := hP
            subst hPx
            have hP := And.intro (True.intro) hP2
            refine ⟨fun _ => ?_, fun h => absurd (by decide) h⟩
            refine Sub.use hP.2 ?_
            refine Wp.reg rfl ?_
            obtain ⟨v15, hv15, ho⟩ := ob ho
            refine Wg.bin (k := .i64) (k2 := .i64) (a := s6.2) (b := 1) rfl rfl rfl rfl rfl (bAdd hv15) ?_
            refine Wg.li rfl rfl rfl rfl (fun _ => rfl) ?_
            refine Wg.nil ?_
            have ho := Option.some.inj ho
            subst ho
            exact ⟨by decide, (Sub.canon [some 0, some 1] [ownT o11, .cells (eCalc v1.1)] [(1, lst eLeg a1 .unk), (2, .int .i64 a2), (8, .ptr 1 0), (10, lst eInt o11 (capT o11 0)), (30, .int .i64 (a1.length : Int)), (31, .int .i64 v15)] rfl (by decide) ⟨.grow rfl, .pure rfl (pCalcs _), trivial⟩ (.pure rfl (Pure.lst pLeg _ pUnk) (.pure rfl (.int _ _) (.ptr rfl rfl (.grow rfl pInt rfl (.pure rfl (.int _ _) (.pure rfl (.int _ _) .nil)))))))⟩
        · have ho := iF ho hb9
          refine Wp.exit ?_
          refine ⟨fun h => absurd h (by decide), fun _ => ?_⟩
          have ho := Option.some.inj ho
          subst ho
          exact ⟨by decide, by decide, (Sub.canon [some 0] [ownT s6.1] [(10, lst eInt s6.1 (capT s6.1 0))] rfl (by decide) ⟨.grow rfl, trivial⟩ (.grow rfl pInt rfl .nil))⟩
      · intro x e' H' hP
        obtain ⟨hPx, hP2⟩ := hP
        subst hPx
        have hP := And.intro (True.intro) hP2
        refine ⟨fun _ => ?_, fun h => absurd (by decide) h⟩
        refine Sub.use hP.2 ?_
        refine Wp.seq ?_
        refine Wp.reg rfl ?_
        iterate 5 refine Wg.li rfl rfl rfl rfl (fun _ => rfl) ?_
        obtain ⟨v17, hv17, h⟩ := ob h
        refine Wg.sl3 (f := eInt) (xs := o7) (c := (capT o7 0)) (a := 0) (b := (o7.length : Int)) rfl rfl rfl rfl rfl rfl none rfl rfl rfl (.inl ⟨rfl, rfl⟩) hv17 lInt (by decide) ?_
        iterate 2 refine Wg.li rfl rfl rfl rfl (fun _ => rfl) ?_
        refine Wg.nil ?_
        refine ⟨fun _ => ?_, fun h => absurd (by decide) h⟩
        refine Sub.use (Sub.canon [] [] [(6, lst eInt v17 .unk), (7, .int .i64 0)] rfl (by decide) trivial (.unk (c := .full) rfl pInt (.pure rfl (.int _ _) .nil))) ?_
        refine Wp.ret ?_
        have h := Option.some.inj h
        subst h
        exact ⟨.inr (by decide), _, rfl, rfl⟩
def s21 (N : Nat) (a0 : Table) (a1 : (List Leg)) (a2 : Int) : Option (Span × Int) :=
  (s64 N a0 a1 a2).bind fun v1 =>
  if (!(v1.2 == 0)) then
    some ((Span.mk 0 0), v1.2)
  else
    (s65 N v1.1 a1 a2).bind fun v3 =>
    if (v3 == 0) then
      some ((Span.mk 0 0), 4)
    else
      (s75 N v1.1 a1 a2).bind fun v5 =>
      some (v5, 0)
theorem at21 : ctx.P.funcs[21]? = some Tryd.f21 := by kernel_rfl
theorem s21_ev {N : Nat} {a0 : Table} {a1 : (List Leg)} {a2 : Int} {r : Span × Int} (h : s21 N a0 a1 a2 = some r) : ∀ H, Ev ctx (.call 21 [.agg (eTable a0), lst eLeg a1 .unk, .int .i64 a2] H (.tuple [.agg (eSpan r.1), .int .i64 r.2]) H) := by
  refine Ev.of_pure at21 rfl rfl (Nat.le_of_ble_eq_true rfl) (pCons (pv (pTab _)) (pCons (Pure.lst pLeg _ pUnk) (pCons (.int _ _) pNil))) (.tuple (pCons (pv (pSpan _)) (pCons (.int _ _) pNil))) ?_
  unfold s21 at h
  refine Wp.seq ?_
  refine Wp.reg rfl ?_
  refine Wg.box rfl rfl rfl rfl ?_
  refine Wg.alloc rfl rfl rfl rfl ?_
  refine Wg.li rfl rfl rfl rfl (fun _ => rfl) ?_
  refine Wg.nil ?_
  refine ⟨fun _ => ?_, fun h => absurd (by decide) h⟩
  refine Wp.seq ?_
  refine Wp.reg rfl ?_
  iterate 3 refine Wg.li rfl rfl rfl rfl (fun _ => rfl) ?_
  obtain ⟨v1, hv1, h⟩ := ob h
  refine Wg.call rfl rfl rfl rfl (s64_ev hv1 _) ?_
  iterate 3 refine Wg.li rfl rfl rfl rfl (fun _ => rfl) ?_
  refine Wg.alloc rfl rfl rfl rfl ?_
  refine Wg.heavy true (Nat.le_of_ble_eq_true rfl) rfl rfl rfl rfl ?_
  refine Wg.li rfl rfl rfl rfl (fun _ => rfl) ?_
  refine Wg.nil ?_
  refine ⟨fun _ => ?_, fun h => absurd (by decide) h⟩
  refine Wp.seq ?_
  refine Wp.seq ?_
  refine Wp.reg rfl ?_
  iterate 2 refine Wg.li rfl rfl rfl rfl (fun _ => rfl) ?_
  refine Wg.nil ?_
  refine ⟨fun _ => ?_, fun h => absurd (by decide) h⟩
  refine Wp.cond (!(v1.2 == 0)) rfl (fun hb2 => ?_) (fun hb2 => ?_)
  · have h := iT h hb2
    refine Wp.seq ?_
    refine Wp.reg rfl ?_
    iterate 2 refine Wg.li rfl rfl rfl rfl (fun _ => rfl) ?_
    refine Wg.heavy true (Nat.le_of_ble_eq_true rfl) rfl rfl rfl rfl ?_
    refine Wg.li rfl rfl rfl rfl (fun _ => rfl) ?_
    refine Wg.nil ?_
    refine ⟨fun _ => ?_, fun h => absurd (by decide) h⟩
    refine Wp.ret ?_
    refine ⟨fun h => absurd h (by decide), fun _ => ?_⟩
    have h := Option.some.inj h
    subst h
    exact ⟨.inr (by decide), _, rfl, rfl⟩
  · have h := iF h hb2
    refine Wp.skip ?_
    refine ⟨fun _ => ?_, fun h => absurd (by decide) h⟩
    refine Wp.seq ?_
    refine Wp.seq ?_
    refine Wp.reg rfl ?_
    refine Wg.ld rfl rfl rfl rfl rfl rfl ?_
    iterate 2 refine Wg.li rfl rfl rfl rfl (fun _ => rfl) ?_
    obtain ⟨v3, hv3, h⟩ := ob h
    refine Wg.call rfl rfl rfl rfl (s65_ev hv3 _) ?_
    refine Wg.li rfl rfl rfl rfl (fun _ => rfl) ?_
    refine Wg.nil ?_
    refine ⟨fun _ => ?_, fun h => absurd (by decide) h⟩
    refine Wp.cond (v3 == 0) rfl (fun hb4 => ?_) (fun hb4 => ?_)
    · have h := iT h hb4
      refine Wp.seq ?_
      refine Wp.reg rfl ?_
      refine Wg.li rfl rfl rfl rfl (fun _ => rfl) ?_
      refine Wg.heavy true (Nat.le_of_ble_eq_true rfl) rfl rfl rfl rfl ?_
      refine Wg.li rfl rfl rfl rfl (fun _ => rfl) ?_
      refine Wg.nil ?_
      refine ⟨fun _ => ?_, fun h => absurd (by decide) h⟩
      refine Wp.ret ?_
      refine ⟨fun h => absurd h (by decide), fun _ => ?_⟩
      have h := Option.some.inj h
      subst h
      exact ⟨.inr (by decide), _, rfl, rfl⟩
    · have h := iF h hb4
      refine Wp.skip ?_
      refine ⟨fun _ => ?_, fun h => absurd (by decide) h⟩
      refine Wp.seq ?_
      refine Wp.reg rfl ?_
      refine Wg.ld rfl rfl rfl rfl rfl rfl ?_
      iterate 2 refine Wg.li rfl rfl rfl rfl (fun _ => rfl) ?_
      obtain ⟨v5, hv5, h⟩ := ob h
      refine Wg.call rfl rfl rfl rfl (s75_ev hv5 _) ?_
      refine Wg.heavy true (Nat.le_of_ble_eq_true rfl) rfl rfl rfl rfl ?_
      refine Wg.li rfl rfl rfl rfl (fun _ => rfl) ?_
      refine Wg.nil ?_
      refine ⟨fun _ => ?_, fun h => absurd (by decide) h⟩
      refine Wp.ret ?_
      have h := Option.some.inj h
      subst h
      exact ⟨.inr (by decide), _, rfl, rfl⟩
end Go.Abs.Tr
