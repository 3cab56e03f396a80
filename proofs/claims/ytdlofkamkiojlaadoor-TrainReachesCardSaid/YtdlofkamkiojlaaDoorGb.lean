/- Printed walks: the reference, single routes. Conditions: none. -/
import Derived.Test.YtdlofkamkiojlaaDoorGa
set_option maxRecDepth 100000
set_option maxHeartbeats 1000000
set_option linter.unusedVariables false
namespace Go.Abs.Tr
open Go Go.Abs Go.Proofs
def s63_l24 (N : Nat) (a0 : Table) (a1 : Train) (s6 : Bool × Int × Int) : Option ((Bool × Int × Int) ⊕ (Bool)) :=
  if (s6.1 && (decide (s6.2.2 < (a1.stops.length : Int)))) then
    (ix a1.stops s6.2.2).bind fun v12 =>
    (s86 N a0 v12.station).bind fun v13 =>
    (if v13 then 
      (s47 N v12.arrive s6.2.1 2879).bind fun v16 =>
      some v16
     else some false).bind fun v17 =>
    (if v17 then 
      (s47 N v12.leave v12.arrive 2879).bind fun v20 =>
      some v20
     else some false).bind fun v21 =>
    (ck (v12.leave + 1)).bind fun v22 =>
    (ck (s6.2.2 + 1)).bind fun v23 =>
    some (.inl (v21, v22, v23))
  else
    some (.inr s6.1)
def s63 (N : Nat) (a0 : Table) (a1 : Train) : Option (Bool) :=
  (s47 N (a1.stops.length : Int) 2 5).bind fun v1 =>
  (if v1 then 
    (s62 N a1.late 0 90).bind fun v4 =>
    some v4
   else some false).bind fun v5 =>
  (iter (s63_l24 N a0 a1) N (v5, 0, 0)).bind fun o7 =>
  some o7
abbrev F63 : Fr := { r := false, N := 54, m := 0 }
theorem at63 : ctx.P.funcs[63]? = some Tryd.f63 := by kernel_rfl
theorem s63_ev {N : Nat} {a0 : Table} {a1 : Train} {r : Bool} (h : s63 N a0 a1 = some r) : ∀ H, Ev ctx (.call 63 [.agg (eTable a0), .agg (eTrain a1)] H (.bool r) H) := by
  refine Ev.of_pure at63 rfl rfl (Nat.le_of_ble_eq_true rfl) (pCons (pv (pTab _)) (pCons (pv (pTrain _)) pNil)) (.bool _) ?_
  unfold s63 at h
  refine Wp.seq ?_
  refine Wp.reg rfl ?_
  refine Wg.box rfl rfl rfl rfl ?_
  refine Wg.box rfl rfl rfl rfl ?_
  refine Wg.li rfl rfl rfl rfl (fun _ => rfl) ?_
  refine Wg.nil ?_
  refine ⟨fun _ => ?_, fun h => absurd (by decide) h⟩
  refine Wp.seq ?_
  refine Wp.reg rfl ?_
  iterate 3 refine Wg.li rfl rfl rfl rfl (fun _ => rfl) ?_
  obtain ⟨v1, hv1, h⟩ := ob h
  refine Wg.call rfl rfl rfl rfl (s47_ev hv1 _) ?_
  refine Wg.li rfl rfl rfl rfl (fun _ => rfl) ?_
  obtain ⟨v5, hv2, h⟩ := ob h
  refine Wg.grp 4 17 13 v5 v1 rfl rfl (Nat.le_of_ble_eq_true rfl) (fun hb3 => ?_) (fun hb3 => ?_) ?_
  · have hv2 := iT hv2 hb3
    iterate 2 refine Wg.li rfl rfl rfl rfl (fun _ => rfl) ?_
    obtain ⟨v4, hv4, hv2⟩ := ob hv2
    refine Wg.call rfl rfl rfl rfl (s62_ev hv4 _) ?_
    refine Wg.li rfl rfl rfl rfl (fun _ => rfl) ?_
    refine Wg.nil ⟨some_b hv2, ?_, rfl⟩
    repeat (first | exact Env.le_refl _ | refine Env.le_put rfl ?_)
  · have hv2 := iF hv2 hb3
    iterate 3 refine Wg.skip rfl rfl ?_
    refine Wg.li rfl rfl rfl rfl (fun _ => rfl) ?_
    refine Wg.nil ⟨some_b hv2, ?_, rfl⟩
    repeat (first | exact Env.le_refl _ | refine Env.le_put rfl ?_)
  refine Wg.li rfl rfl rfl rfl (fun _ => rfl) ?_
  refine Wg.nil ?_
  refine ⟨fun _ => ?_, fun h => absurd (by decide) h⟩
  refine Wp.seq ?_
  refine Wp.reg rfl ?_
  refine Wg.li rfl rfl rfl rfl (fun _ => rfl) ?_
  refine Wg.nil ?_
  refine ⟨fun _ => ?_, fun h => absurd (by decide) h⟩
  refine Wp.seq ?_
  refine Wp.seq ?_
  refine Wp.reg rfl ?_
  refine Wg.li rfl rfl rfl rfl (fun _ => rfl) ?_
  refine Wg.nil ?_
  refine ⟨fun _ => ?_, fun h => absurd (by decide) h⟩
  refine Wp.block ?_
  obtain ⟨o7, hx8, h⟩ := ob h
  refine Sub.use (Sub.canon [] [] [(2, .ro (eTable a0)), (3, .ro (eTrain a1)), (5, .bool v5), (6, .int .i64 0), (7, .int .i64 0)] rfl (by decide) trivial (.pure rfl (.ro (pTab _)) (.pure rfl (.ro (pTrain _)) (.pure rfl (.bool _) (.pure rfl (.int _ _) (.pure rfl (.int _ _) .nil)))))) ?_
  refine Wp.after (Wp.iterS (s63_l24 N a0 a1) (fun s6 => Env.ofList [(2, .ro (eTable a0)), (3, .ro (eTrain a1)), (5, .bool s6.1), (6, .int .i64 s6.2.1), (7, .int .i64 s6.2.2)]) (fun s6 => hp []) (fun o7 x e' H' => x = .exit 0 ∧ Sub ctx F63 (Env.ofList [(5, .bool o7)]) (hp []) e' H') ?_ N (v5, 0, 0) _ hx8) ?_
  · intro s6 o ho
    unfold s63_l24 at ho
    refine Wp.seq ?_
    refine Wp.seq ?_
    refine Wp.reg rfl ?_
    iterate 2 refine Wg.li rfl rfl rfl rfl (fun _ => rfl) ?_
    have hv9 := ifAnd s6.1 (decide (s6.2.2 < (a1.stops.length : Int)))
    refine Wg.grp 6 25 19 (s6.1 && (decide (s6.2.2 < (a1.stops.length : Int)))) s6.1 rfl rfl (Nat.le_of_ble_eq_true rfl) (fun hb10 => ?_) (fun hb10 => ?_) ?_
    · have hv9 := iT hv9 hb10
      iterate 6 refine Wg.li rfl rfl rfl rfl (fun _ => rfl) ?_
      refine Wg.nil ⟨some_b hv9, ?_, rfl⟩
      repeat (first | exact Env.le_refl _ | refine Env.le_put rfl ?_)
    · have hv9 := iF hv9 hb10
      iterate 5 refine Wg.skip rfl rfl ?_
      refine Wg.li rfl rfl rfl rfl (fun _ => rfl) ?_
      refine Wg.nil ⟨some_b hv9, ?_, rfl⟩
      repeat (first | exact Env.le_refl _ | refine Env.le_put rfl ?_)
    refine Wg.nil ?_
    refine ⟨fun _ => ?_, fun h => absurd (by decide) h⟩
    refine Wp.cond (s6.1 && (decide (s6.2.2 < (a1.stops.length : Int)))) rfl (fun hb11 => ?_) (fun hb11 => ?_)
    · have ho := iT ho hb11
      refine Wp.skip ?_
      refine ⟨fun _ => ?_, fun h => absurd (by decide) h⟩
      refine Wp.seq ?_
      refine Wp.block ?_
      refine Wp.seq ?_
      refine Wp.reg rfl ?_
      iterate 3 refine Wg.li rfl rfl rfl rfl (fun _ => rfl) ?_
      obtain ⟨v12, hv12, ho⟩ := ob ho
      refine Wg.idx (f := eStop) (xs := a1.stops) (c := .unk) rfl rfl rfl rfl rfl rfl rfl lStop (by decide) hv12 ?_
      refine Wg.li rfl rfl rfl rfl (fun _ => rfl) ?_
      refine Wg.alloc rfl rfl rfl rfl ?_
      refine Wg.heavy true (Nat.le_of_ble_eq_true rfl) rfl rfl rfl rfl ?_
      refine Wg.nil ?_
      refine ⟨fun _ => ?_, fun h => absurd (by decide) h⟩
      refine Wp.seq ?_
      refine Wp.reg rfl ?_
      iterate 2 refine Wg.li rfl rfl rfl rfl (fun _ => rfl) ?_
      refine Wg.ld rfl rfl rfl rfl rfl rfl ?_
      obtain ⟨v13, hv13, ho⟩ := ob ho
      refine Wg.call rfl rfl rfl rfl (s86_ev hv13 _) ?_
      refine Wg.li rfl rfl rfl rfl (fun _ => rfl) ?_
      obtain ⟨v17, hv14, ho⟩ := ob ho
      refine Wg.grp 5 42 37 v17 v13 rfl rfl (Nat.le_of_ble_eq_true rfl) (fun hb15 => ?_) (fun hb15 => ?_) ?_
      · have hv14 := iT hv14 hb15
        refine Wg.li rfl rfl rfl rfl (fun _ => rfl) ?_
        refine Wg.ld rfl rfl rfl rfl rfl rfl ?_
        refine Wg.li rfl rfl rfl rfl (fun _ => rfl) ?_
        obtain ⟨v16, hv16, hv14⟩ := ob hv14
        refine Wg.call rfl rfl rfl rfl (s47_ev hv16 _) ?_
        refine Wg.li rfl rfl rfl rfl (fun _ => rfl) ?_
        refine Wg.nil ⟨some_b hv14, ?_, rfl⟩
        repeat (first | exact Env.le_refl _ | refine Env.le_put rfl ?_)
      · have hv14 := iF hv14 hb15
        iterate 4 refine Wg.skip rfl rfl ?_
        refine Wg.li rfl rfl rfl rfl (fun _ => rfl) ?_
        refine Wg.nil ⟨some_b hv14, ?_, rfl⟩
        repeat (first | exact Env.le_refl _ | refine Env.le_put rfl ?_)
      refine Wg.li rfl rfl rfl rfl (fun _ => rfl) ?_
      obtain ⟨v21, hv18, ho⟩ := ob ho
      refine Wg.grp 6 49 43 v21 v17 rfl rfl (Nat.le_of_ble_eq_true rfl) (fun hb19 => ?_) (fun hb19 => ?_) ?_
      · have hv18 := iT hv18 hb19
        refine Wg.li rfl rfl rfl rfl (fun _ => rfl) ?_
        refine Wg.ld rfl rfl rfl rfl rfl rfl ?_
        refine Wg.li rfl rfl rfl rfl (fun _ => rfl) ?_
        refine Wg.ld rfl rfl rfl rfl rfl rfl ?_
        obtain ⟨v20, hv20, hv18⟩ := ob hv18
        refine Wg.call rfl rfl rfl rfl (s47_ev hv20 _) ?_
        refine Wg.li rfl rfl rfl rfl (fun _ => rfl) ?_
        refine Wg.nil ⟨some_b hv18, ?_, rfl⟩
        repeat (first | exact Env.le_refl _ | refine Env.le_put rfl ?_)
      · have hv18 := iF hv18 hb19
        iterate 5 refine Wg.skip rfl rfl ?_
        refine Wg.li rfl rfl rfl rfl (fun _ => rfl) ?_
        refine Wg.nil ⟨some_b hv18, ?_, rfl⟩
        repeat (first | exact Env.le_refl _ | refine Env.le_put rfl ?_)
      refine Wg.li rfl rfl rfl rfl (fun _ => rfl) ?_
      refine Wg.nil ?_
      refine ⟨fun _ => ?_, fun h => absurd (by decide) h⟩
      refine Wp.reg rfl ?_
      refine Wg.li rfl rfl rfl rfl (fun _ => rfl) ?_
      refine Wg.ld rfl rfl rfl rfl rfl rfl ?_
      obtain ⟨v22, hv22, ho⟩ := ob ho
      refine Wg.bin (k := .i64) (k2 := .i64) (a := v12.leave) (b := 1) rfl rfl rfl rfl rfl (bAdd hv22) ?_
      refine Wg.li rfl rfl rfl rfl (fun _ => rfl) ?_
      refine Wg.nil ?_
      refine ⟨fun _ => ?_, fun h => absurd (by decide) h⟩
      refine Wp.reg rfl ?_
      refine Wg.li rfl rfl rfl rfl (fun _ => rfl) ?_
      obtain ⟨v23, hv23, ho⟩ := ob ho
      refine Wg.bin (k := .i64) (k2 := .i64) (a := s6.2.2) (b := 1) rfl rfl rfl rfl rfl (bAdd hv23) ?_
      refine Wg.li rfl rfl rfl rfl (fun _ => rfl) ?_
      refine Wg.nil ?_
      have ho := Option.some.inj ho
      subst ho
      exact ⟨by decide, (Sub.canon [] [] [(2, .ro (eTable a0)), (3, .ro (eTrain a1)), (5, .bool v21), (6, .int .i64 v22), (7, .int .i64 v23)] rfl (by decide) trivial (.pure rfl (.ro (pTab _)) (.pure rfl (.ro (pTrain _)) (.pure rfl (.bool _) (.pure rfl (.int _ _) (.pure rfl (.int _ _) .nil))))))⟩
    · have ho := iF ho hb11
      refine Wp.exit ?_
      refine ⟨fun h => absurd h (by decide), fun _ => ?_⟩
      have ho := Option.some.inj ho
      subst ho
      exact ⟨by decide, by decide, (Sub.canon [] [] [(5, .bool s6.1)] rfl (by decide) trivial (.pure rfl (.bool _) .nil))⟩
  · intro x e' H' hP
    obtain ⟨hPx, hP2⟩ := hP
    subst hPx
    have hP := And.intro (True.intro) hP2
    refine ⟨fun _ => ?_, fun h => absurd (by decide) h⟩
    refine Sub.use hP.2 ?_
    refine Wp.seq ?_
    refine Wp.reg rfl ?_
    iterate 2 refine Wg.li rfl rfl rfl rfl (fun _ => rfl) ?_
    refine Wg.nil ?_
    refine ⟨fun _ => ?_, fun h => absurd (by decide) h⟩
    refine Wp.ret ?_
    have h := Option.some.inj h
    subst h
    exact ⟨.inr (by decide), _, rfl, rfl⟩
def s15_l30 (N : Nat) (a0 : Table) (s8 : Bool × Int) (s15 : Bool × Int × Int) : Option ((Bool × Int × Int) ⊕ (Bool)) :=
  (if s15.1 then 
    (ix a0.offices s8.2).bind fun v20 =>
    some (decide (s15.2.2 < (v20.length : Int)))
   else some false).bind fun v21 =>
  if v21 then
    (ix a0.offices s8.2).bind fun v23 =>
    (ix v23 s15.2.2).bind fun v24 =>
    (s62 N v24 s15.2.1 2879).bind fun v25 =>
    (ix a0.offices s8.2).bind fun v26 =>
    (ix v26 s15.2.2).bind fun v27 =>
    (ck (v27.high + 1)).bind fun v28 =>
    (ck (s15.2.2 + 1)).bind fun v29 =>
    some (.inl (v25, v28, v29))
  else
    some (.inr s15.1)
def s15_l32 (N : Nat) (a0 : Table) (s8 : Bool × Int) : Option ((Bool × Int) ⊕ (Bool)) :=
  if (s8.1 && (decide (s8.2 < (a0.offices.length : Int)))) then
    (ix a0.offices s8.2).bind fun v14 =>
    (iter (s15_l30 N a0 s8) N ((decide ((v14.length : Int) ≤ 3)), 0, 0)).bind fun o16 =>
    (ck (s8.2 + 1)).bind fun v31 =>
    some (.inl (o16, v31))
  else
    some (.inr s8.1)
def s15_l42 (N : Nat) (a0 : Table) (s33 : Bool × Int) : Option ((Bool × Int) ⊕ (Bool)) :=
  if (s33.1 && (decide (s33.2 < (a0.trains.length : Int)))) then
    (ix a0.trains s33.2).bind fun v39 =>
    (s63 N a0 v39).bind fun v40 =>
    (ck (s33.2 + 1)).bind fun v41 =>
    some (.inl (v40, v41))
  else
    some (.inr s33.1)
def s15 (N : Nat) (a0 : Table) : Option (Int) :=
  (s47 N (a0.offices.length : Int) 1 6).bind fun v1 =>
  (if (v1 && (decide ((a0.trains.length : Int) ≤ 6))) then 
    (s47 N a0.load 0 60).bind fun v6 =>
    some v6
   else some false).bind fun v7 =>
  (iter (s15_l32 N a0) N (v7, 0)).bind fun o9 =>
  (iter (s15_l42 N a0) N (o9, 0)).bind fun o34 =>
  if (!o34) then
    some 30
  else
    some 0
abbrev F15 : Fr := { r := false, N := 92, m := 0 }
theorem at15 : ctx.P.funcs[15]? = some Tryd.f15 := by kernel_rfl
theorem s15_ev {N : Nat} {a0 : Table} {r : Int} (h : s15 N a0 = some r) : ∀ H, Ev ctx (.call 15 [.agg (eTable a0)] H (.int .i64 r) H) := by
  refine Ev.of_pure at15 rfl rfl (Nat.le_of_ble_eq_true rfl) (pCons (pv (pTab _)) pNil) (.int _ _) ?_
  unfold s15 at h
  refine Wp.seq ?_
  refine Wp.reg rfl ?_
  refine Wg.box rfl rfl rfl rfl ?_
  refine Wg.li rfl rfl rfl rfl (fun _ => rfl) ?_
  refine Wg.nil ?_
  refine ⟨fun _ => ?_, fun h => absurd (by decide) h⟩
  refine Wp.seq ?_
  refine Wp.reg rfl ?_
  iterate 3 refine Wg.li rfl rfl rfl rfl (fun _ => rfl) ?_
  obtain ⟨v1, hv1, h⟩ := ob h
  refine Wg.call rfl rfl rfl rfl (s47_ev hv1 _) ?_
  refine Wg.li rfl rfl rfl rfl (fun _ => rfl) ?_
  have hv2 := ifAnd v1 (decide ((a0.trains.length : Int) ≤ 6))
  refine Wg.grp 5 17 12 (v1 && (decide ((a0.trains.length : Int) ≤ 6))) v1 rfl rfl (Nat.le_of_ble_eq_true rfl) (fun hb3 => ?_) (fun hb3 => ?_) ?_
  · have hv2 := iT hv2 hb3
    iterate 5 refine Wg.li rfl rfl rfl rfl (fun _ => rfl) ?_
    refine Wg.nil ⟨some_b hv2, ?_, rfl⟩
    repeat (first | exact Env.le_refl _ | refine Env.le_put rfl ?_)
  · have hv2 := iF hv2 hb3
    iterate 4 refine Wg.skip rfl rfl ?_
    refine Wg.li rfl rfl rfl rfl (fun _ => rfl) ?_
    refine Wg.nil ⟨some_b hv2, ?_, rfl⟩
    repeat (first | exact Env.le_refl _ | refine Env.le_put rfl ?_)
  refine Wg.li rfl rfl rfl rfl (fun _ => rfl) ?_
  obtain ⟨v7, hv4, h⟩ := ob h
  refine Wg.grp 4 22 18 v7 (v1 && (decide ((a0.trains.length : Int) ≤ 6))) rfl rfl (Nat.le_of_ble_eq_true rfl) (fun hb5 => ?_) (fun hb5 => ?_) ?_
  · have hv4 := iT hv4 hb5
    iterate 2 refine Wg.li rfl rfl rfl rfl (fun _ => rfl) ?_
    obtain ⟨v6, hv6, hv4⟩ := ob hv4
    refine Wg.call rfl rfl rfl rfl (s47_ev hv6 _) ?_
    refine Wg.li rfl rfl rfl rfl (fun _ => rfl) ?_
    refine Wg.nil ⟨some_b hv4, ?_, rfl⟩
    repeat (first | exact Env.le_refl _ | refine Env.le_put rfl ?_)
  · have hv4 := iF hv4 hb5
    iterate 3 refine Wg.skip rfl rfl ?_
    refine Wg.li rfl rfl rfl rfl (fun _ => rfl) ?_
    refine Wg.nil ⟨some_b hv4, ?_, rfl⟩
    repeat (first | exact Env.le_refl _ | refine Env.le_put rfl ?_)
  refine Wg.li rfl rfl rfl rfl (fun _ => rfl) ?_
  refine Wg.nil ?_
  refine ⟨fun _ => ?_, fun h => absurd (by decide) h⟩
  refine Wp.seq ?_
  refine Wp.seq ?_
  refine Wp.reg rfl ?_
  refine Wg.li rfl rfl rfl rfl (fun _ => rfl) ?_
  refine Wg.nil ?_
  refine ⟨fun _ => ?_, fun h => absurd (by decide) h⟩
  refine Wp.block ?_
  obtain ⟨o9, hx10, h⟩ := ob h
  refine Sub.use (Sub.canon [] [] [(1, .ro (eTable a0)), (3, .bool v7), (4, .int .i64 0)] rfl (by decide) trivial (.pure rfl (.ro (pTab _)) (.pure rfl (.bool _) (.pure rfl (.int _ _) .nil)))) ?_
  refine Wp.after (Wp.iterS (s15_l32 N a0) (fun s8 => Env.ofList [(1, .ro (eTable a0)), (3, .bool s8.1), (4, .int .i64 s8.2)]) (fun s8 => hp []) (fun o9 x e' H' => x = .exit 0 ∧ Sub ctx F15 (Env.ofList [(1, .ro (eTable a0)), (3, .bool o9)]) (hp []) e' H') ?_ N (v7, 0) _ hx10) ?_
  · intro s8 o ho
    unfold s15_l32 at ho
    refine Wp.seq ?_
    refine Wp.seq ?_
    refine Wp.reg rfl ?_
    iterate 2 refine Wg.li rfl rfl rfl rfl (fun _ => rfl) ?_
    have hv11 := ifAnd s8.1 (decide (s8.2 < (a0.offices.length : Int)))
    refine Wg.grp 6 30 24 (s8.1 && (decide (s8.2 < (a0.offices.length : Int)))) s8.1 rfl rfl (Nat.le_of_ble_eq_true rfl) (fun hb12 => ?_) (fun hb12 => ?_) ?_
    · have hv11 := iT hv11 hb12
      iterate 6 refine Wg.li rfl rfl rfl rfl (fun _ => rfl) ?_
      refine Wg.nil ⟨some_b hv11, ?_, rfl⟩
      repeat (first | exact Env.le_refl _ | refine Env.le_put rfl ?_)
    · have hv11 := iF hv11 hb12
      iterate 5 refine Wg.skip rfl rfl ?_
      refine Wg.li rfl rfl rfl rfl (fun _ => rfl) ?_
      refine Wg.nil ⟨some_b hv11, ?_, rfl⟩
      repeat (first | exact Env.le_refl _ | refine Env.le_put rfl ?_)
    refine Wg.nil ?_
    refine ⟨fun _ => ?_, fun h => absurd (by decide) h⟩
    refine Wp.cond (s8.1 && (decide (s8.2 < (a0.offices.length : Int)))) rfl (fun hb13 => ?_) (fun hb13 => ?_)
    · have ho := iT ho hb13
      refine Wp.skip ?_
      refine ⟨fun _ => ?_, fun h => absurd (by decide) h⟩
      refine Wp.seq ?_
      refine Wp.block ?_
      refine Wp.seq ?_
      refine Wp.reg rfl ?_
      refine Wg.li rfl rfl rfl rfl (fun _ => rfl) ?_
      refine Wg.nil ?_
      refine ⟨fun _ => ?_, fun h => absurd (by decide) h⟩
      refine Wp.seq ?_
      refine Wp.reg rfl ?_
      iterate 3 refine Wg.li rfl rfl rfl rfl (fun _ => rfl) ?_
      obtain ⟨v14, hv14, ho⟩ := ob ho
      refine Wg.idx (f := (eLs eSpan)) (xs := a0.offices) (c := .unk) rfl rfl rfl rfl rfl rfl rfl lLs (by decide) hv14 ?_
      iterate 4 refine Wg.li rfl rfl rfl rfl (fun _ => rfl) ?_
      refine Wg.nil ?_
      refine ⟨fun _ => ?_, fun h => absurd (by decide) h⟩
      refine Wp.seq ?_
      refine Wp.reg rfl ?_
      refine Wg.li rfl rfl rfl rfl (fun _ => rfl) ?_
      refine Wg.nil ?_
      refine ⟨fun _ => ?_, fun h => absurd (by decide) h⟩
      refine Wp.block ?_
      obtain ⟨o16, hx17, ho⟩ := ob ho
      refine Sub.use (Sub.canon [] [] [(1, .ro (eTable a0)), (3, .bool (decide ((v14.length : Int) ≤ 3))), (4, .int .i64 s8.2), (5, .int .i64 0), (6, .int .i64 0)] rfl (by decide) trivial (.pure rfl (.ro (pTab _)) (.pure rfl (.bool _) (.pure rfl (.int _ _) (.pure rfl (.int _ _) (.pure rfl (.int _ _) .nil)))))) ?_
      refine Wp.after (Wp.iterS (s15_l30 N a0 s8) (fun s15 => Env.ofList [(1, .ro (eTable a0)), (3, .bool s15.1), (4, .int .i64 s8.2), (5, .int .i64 s15.2.1), (6, .int .i64 s15.2.2)]) (fun s15 => hp []) (fun o16 x e' H' => x = .exit 2 ∧ Sub ctx F15 (Env.ofList [(1, .ro (eTable a0)), (3, .bool o16), (4, .int .i64 s8.2)]) (hp []) e' H') ?_ N ((decide ((v14.length : Int) ≤ 3)), 0, 0) _ hx17) ?_
      · intro s15 o ho
        unfold s15_l30 at ho
        refine Wp.seq ?_
        refine Wp.seq ?_
        refine Wp.reg rfl ?_
        iterate 2 refine Wg.li rfl rfl rfl rfl (fun _ => rfl) ?_
        obtain ⟨v21, hv18, ho⟩ := ob ho
        refine Wg.grp 9 50 41 v21 s15.1 rfl rfl (Nat.le_of_ble_eq_true rfl) (fun hb19 => ?_) (fun hb19 => ?_) ?_
        · have hv18 := iT hv18 hb19
          iterate 4 refine Wg.li rfl rfl rfl rfl (fun _ => rfl) ?_
          obtain ⟨v20, hv20, hv18⟩ := ob hv18
          refine Wg.idx (f := (eLs eSpan)) (xs := a0.offices) (c := .unk) rfl rfl rfl rfl rfl rfl rfl lLs (by decide) hv20 ?_
          iterate 4 refine Wg.li rfl rfl rfl rfl (fun _ => rfl) ?_
          refine Wg.nil ⟨some_b hv18, ?_, rfl⟩
          repeat (first | exact Env.le_refl _ | refine Env.le_put rfl ?_)
        · have hv18 := iF hv18 hb19
          iterate 8 refine Wg.skip rfl rfl ?_
          refine Wg.li rfl rfl rfl rfl (fun _ => rfl) ?_
          refine Wg.nil ⟨some_b hv18, ?_, rfl⟩
          repeat (first | exact Env.le_refl _ | refine Env.le_put rfl ?_)
        refine Wg.nil ?_
        refine ⟨fun _ => ?_, fun h => absurd (by decide) h⟩
        refine Wp.cond v21 rfl (fun hb22 => ?_) (fun hb22 => ?_)
        · have ho := iT ho hb22
          refine Wp.skip ?_
          refine ⟨fun _ => ?_, fun h => absurd (by decide) h⟩
          refine Wp.seq ?_
          refine Wp.block ?_
          refine Wp.seq ?_
          refine Wp.reg rfl ?_
          iterate 3 refine Wg.li rfl rfl rfl rfl (fun _ => rfl) ?_
          obtain ⟨v23, hv23, ho⟩ := ob ho
          refine Wg.idx (f := (eLs eSpan)) (xs := a0.offices) (c := .unk) rfl rfl rfl rfl rfl rfl rfl lLs (by decide) hv23 ?_
          iterate 2 refine Wg.li rfl rfl rfl rfl (fun _ => rfl) ?_
          obtain ⟨v24, hv24, ho⟩ := ob ho
          refine Wg.idx (f := eSpan) (xs := v23) (c := .unk) rfl rfl rfl rfl rfl rfl rfl lSpan (by decide) hv24 ?_
          iterate 2 refine Wg.li rfl rfl rfl rfl (fun _ => rfl) ?_
          obtain ⟨v25, hv25, ho⟩ := ob ho
          refine Wg.call rfl rfl rfl rfl (s62_ev hv25 _) ?_
          refine Wg.li rfl rfl rfl rfl (fun _ => rfl) ?_
          refine Wg.nil ?_
          refine ⟨fun _ => ?_, fun h => absurd (by decide) h⟩
          refine Wp.reg rfl ?_
          iterate 3 refine Wg.li rfl rfl rfl rfl (fun _ => rfl) ?_
          obtain ⟨v26, hv26, ho⟩ := ob ho
          refine Wg.idx (f := (eLs eSpan)) (xs := a0.offices) (c := .unk) rfl rfl rfl rfl rfl rfl rfl lLs (by decide) hv26 ?_
          iterate 2 refine Wg.li rfl rfl rfl rfl (fun _ => rfl) ?_
          obtain ⟨v27, hv27, ho⟩ := ob ho
          refine Wg.idx (f := eSpan) (xs := v26) (c := .unk) rfl rfl rfl rfl rfl rfl rfl lSpan (by decide) hv27 ?_
          iterate 2 refine Wg.li rfl rfl rfl rfl (fun _ => rfl) ?_
          obtain ⟨v28, hv28, ho⟩ := ob ho
          refine Wg.bin (k := .i64) (k2 := .i64) (a := v27.high) (b := 1) rfl rfl rfl rfl rfl (bAdd hv28) ?_
          refine Wg.li rfl rfl rfl rfl (fun _ => rfl) ?_
          refine Wg.nil ?_
          refine ⟨fun _ => ?_, fun h => absurd (by decide) h⟩
          refine Wp.reg rfl ?_
          refine Wg.li rfl rfl rfl rfl (fun _ => rfl) ?_
          obtain ⟨v29, hv29, ho⟩ := ob ho
          refine Wg.bin (k := .i64) (k2 := .i64) (a := s15.2.2) (b := 1) rfl rfl rfl rfl rfl (bAdd hv29) ?_
          refine Wg.li rfl rfl rfl rfl (fun _ => rfl) ?_
          refine Wg.nil ?_
          have ho := Option.some.inj ho
          subst ho
          exact ⟨by decide, (Sub.canon [] [] [(1, .ro (eTable a0)), (3, .bool v25), (4, .int .i64 s8.2), (5, .int .i64 v28), (6, .int .i64 v29)] rfl (by decide) trivial (.pure rfl (.ro (pTab _)) (.pure rfl (.bool _) (.pure rfl (.int _ _) (.pure rfl (.int _ _) (.pure rfl (.int _ _) .nil))))))⟩
        · have ho := iF ho hb22
          refine Wp.exit ?_
          refine ⟨fun h => absurd h (by decide), fun _ => ?_⟩
          have ho := Option.some.inj ho
          subst ho
          exact ⟨by decide, by decide, (Sub.canon [] [] [(1, .ro (eTable a0)), (3, .bool s15.1), (4, .int .i64 s8.2)] rfl (by decide) trivial (.pure rfl (.ro (pTab _)) (.pure rfl (.bool _) (.pure rfl (.int _ _) .nil))))⟩
      · intro x e' H' hP
        obtain ⟨hPx, hP2⟩ := hP
        subst hPx
        have hP := And.intro (True.intro) hP2
        refine ⟨fun _ => ?_, fun h => absurd (by decide) h⟩
        refine Sub.use hP.2 ?_
        refine Wp.reg rfl ?_
        refine Wg.li rfl rfl rfl rfl (fun _ => rfl) ?_
        obtain ⟨v31, hv31, ho⟩ := ob ho
        refine Wg.bin (k := .i64) (k2 := .i64) (a := s8.2) (b := 1) rfl rfl rfl rfl rfl (bAdd hv31) ?_
        refine Wg.li rfl rfl rfl rfl (fun _ => rfl) ?_
        refine Wg.nil ?_
        have ho := Option.some.inj ho
        subst ho
        exact ⟨by decide, (Sub.canon [] [] [(1, .ro (eTable a0)), (3, .bool o16), (4, .int .i64 v31)] rfl (by decide) trivial (.pure rfl (.ro (pTab _)) (.pure rfl (.bool _) (.pure rfl (.int _ _) .nil))))⟩
    · have ho := iF ho hb13
      refine Wp.exit ?_
      refine ⟨fun h => absurd h (by decide), fun _ => ?_⟩
      have ho := Option.some.inj ho
      subst ho
      exact ⟨by decide, by decide, (Sub.canon [] [] [(1, .ro (eTable a0)), (3, .bool s8.1)] rfl (by decide) trivial (.pure rfl (.ro (pTab _)) (.pure rfl (.bool _) .nil)))⟩
  · intro x e' H' hP
    obtain ⟨hPx, hP2⟩ := hP
    subst hPx
    have hP := And.intro (True.intro) hP2
    refine ⟨fun _ => ?_, fun h => absurd (by decide) h⟩
    refine Sub.use hP.2 ?_
    refine Wp.seq ?_
    refine Wp.seq ?_
    refine Wp.reg rfl ?_
    refine Wg.li rfl rfl rfl rfl (fun _ => rfl) ?_
    refine Wg.nil ?_
    refine ⟨fun _ => ?_, fun h => absurd (by decide) h⟩
    refine Wp.block ?_
    obtain ⟨o34, hx35, h⟩ := ob h
    refine Sub.use (Sub.canon [] [] [(1, .ro (eTable a0)), (3, .bool o9), (7, .int .i64 0)] rfl (by decide) trivial (.pure rfl (.ro (pTab _)) (.pure rfl (.bool _) (.pure rfl (.int _ _) .nil)))) ?_
    refine Wp.after (Wp.iterS (s15_l42 N a0) (fun s33 => Env.ofList [(1, .ro (eTable a0)), (3, .bool s33.1), (7, .int .i64 s33.2)]) (fun s33 => hp []) (fun o34 x e' H' => x = .exit 4 ∧ Sub ctx F15 (Env.ofList [(3, .bool o34)]) (hp []) e' H') ?_ N (o9, 0) _ hx35) ?_
    · intro s33 o ho
      unfold s15_l42 at ho
      refine Wp.seq ?_
      refine Wp.seq ?_
      refine Wp.reg rfl ?_
      iterate 2 refine Wg.li rfl rfl rfl rfl (fun _ => rfl) ?_
      have hv36 := ifAnd s33.1 (decide (s33.2 < (a0.trains.length : Int)))
      refine Wg.grp 6 80 74 (s33.1 && (decide (s33.2 < (a0.trains.length : Int)))) s33.1 rfl rfl (Nat.le_of_ble_eq_true rfl) (fun hb37 => ?_) (fun hb37 => ?_) ?_
      · have hv36 := iT hv36 hb37
        iterate 6 refine Wg.li rfl rfl rfl rfl (fun _ => rfl) ?_
        refine Wg.nil ⟨some_b hv36, ?_, rfl⟩
        repeat (first | exact Env.le_refl _ | refine Env.le_put rfl ?_)
      · have hv36 := iF hv36 hb37
        iterate 5 refine Wg.skip rfl rfl ?_
        refine Wg.li rfl rfl rfl rfl (fun _ => rfl) ?_
        refine Wg.nil ⟨some_b hv36, ?_, rfl⟩
        repeat (first | exact Env.le_refl _ | refine Env.le_put rfl ?_)
      refine Wg.nil ?_
      refine ⟨fun _ => ?_, fun h => absurd (by decide) h⟩
      refine Wp.cond (s33.1 && (decide (s33.2 < (a0.trains.length : Int)))) rfl (fun hb38 => ?_) (fun hb38 => ?_)
      · have ho := iT ho hb38
        refine Wp.skip ?_
        refine ⟨fun _ => ?_, fun h => absurd (by decide) h⟩
        refine Wp.seq ?_
        refine Wp.block ?_
        refine Wp.drw _ [0, 2, 5] rfl (by kernel_rfl) (Nat.le_refl _) ?_
        iterate 4 refine Wg.li rfl rfl rfl rfl (fun _ => rfl) ?_
        obtain ⟨v39, hv39, ho⟩ := ob ho
        refine Wg.idx (f := eTrain) (xs := a0.trains) (c := .unk) rfl rfl rfl rfl rfl rfl rfl lTrain (by decide) hv39 ?_
        refine Wg.li rfl rfl rfl rfl (fun _ => rfl) ?_
        obtain ⟨v40, hv40, ho⟩ := ob ho
        refine Wg.call rfl rfl rfl rfl (s63_ev hv40 _) ?_
        refine Wg.li rfl rfl rfl rfl (fun _ => rfl) ?_
        refine Wg.nil ?_
        refine ⟨fun _ => ?_, fun h => absurd (by decide) h⟩
        refine Wp.reg rfl ?_
        refine Wg.li rfl rfl rfl rfl (fun _ => rfl) ?_
        obtain ⟨v41, hv41, ho⟩ := ob ho
        refine Wg.bin (k := .i64) (k2 := .i64) (a := s33.2) (b := 1) rfl rfl rfl rfl rfl (bAdd hv41) ?_
        refine Wg.li rfl rfl rfl rfl (fun _ => rfl) ?_
        refine Wg.nil ?_
        have ho := Option.some.inj ho
        subst ho
        exact ⟨by decide, (Sub.canon [] [] [(1, .ro (eTable a0)), (3, .bool v40), (7, .int .i64 v41)] rfl (by decide) trivial (.pure rfl (.ro (pTab _)) (.pure rfl (.bool _) (.pure rfl (.int _ _) .nil))))⟩
      · have ho := iF ho hb38
        refine Wp.exit ?_
        refine ⟨fun h => absurd h (by decide), fun _ => ?_⟩
        have ho := Option.some.inj ho
        subst ho
        exact ⟨by decide, by decide, (Sub.canon [] [] [(3, .bool s33.1)] rfl (by decide) trivial (.pure rfl (.bool _) .nil))⟩
    · intro x e' H' hP
      obtain ⟨hPx, hP2⟩ := hP
      subst hPx
      have hP := And.intro (True.intro) hP2
      refine ⟨fun _ => ?_, fun h => absurd (by decide) h⟩
      refine Sub.use hP.2 ?_
      refine Wp.seq ?_
      refine Wp.seq ?_
      refine Wp.reg rfl ?_
      iterate 2 refine Wg.li rfl rfl rfl rfl (fun _ => rfl) ?_
      refine Wg.nil ?_
      refine ⟨fun _ => ?_, fun h => absurd (by decide) h⟩
      refine Wp.cond (!o34) rfl (fun hb43 => ?_) (fun hb43 => ?_)
      · have h := iT h hb43
        refine Wp.seq ?_
        refine Wp.reg rfl ?_
        refine Wg.li rfl rfl rfl rfl (fun _ => rfl) ?_
        refine Wg.nil ?_
        refine ⟨fun _ => ?_, fun h => absurd (by decide) h⟩
        refine Wp.ret ?_
        refine ⟨fun h => absurd h (by decide), fun _ => ?_⟩
        have h := Option.some.inj h
        subst h
        exact ⟨.inr (by decide), _, rfl, rfl⟩
      · have h := iF h hb43
        refine Wp.skip ?_
        refine ⟨fun _ => ?_, fun h => absurd (by decide) h⟩
        refine Wp.seq ?_
        refine Wp.reg rfl ?_
        refine Wg.li rfl rfl rfl rfl (fun _ => rfl) ?_
        refine Wg.nil ?_
        refine ⟨fun _ => ?_, fun h => absurd (by decide) h⟩
        refine Wp.ret ?_
        have h := Option.some.inj h
        subst h
        exact ⟨.inr (by decide), _, rfl, rfl⟩
def s57 (N : Nat) (a0 : Table) (a1 : Bool) : Option (Int) :=
  (s15 N a0).bind fun v1 =>
  if (!(v1 == 0)) then
    some v1
  else
    if (!a1) then
      some 31
    else
      some 0
abbrev F57 : Fr := { r := false, N := 13, m := 0 }
theorem at57 : ctx.P.funcs[57]? = some Tryd.f57 := by kernel_rfl
theorem s57_ev {N : Nat} {a0 : Table} {a1 : Bool} {r : Int} (h : s57 N a0 a1 = some r) : ∀ H, Ev ctx (.call 57 [.agg (eTable a0), .bool a1] H (.int .i64 r) H) := by
  refine Ev.of_pure at57 rfl rfl (Nat.le_of_ble_eq_true rfl) (pCons (pv (pTab _)) (pCons (.bool _) pNil)) (.int _ _) ?_
  unfold s57 at h
  refine Wp.seq ?_
  refine Wp.reg rfl ?_
  refine Wg.box rfl rfl rfl rfl ?_
  refine Wg.li rfl rfl rfl rfl (fun _ => rfl) ?_
  refine Wg.nil ?_
  refine ⟨fun _ => ?_, fun h => absurd (by decide) h⟩
  refine Wp.seq ?_
  refine Wp.seq ?_
  refine Wp.reg rfl ?_
  refine Wg.li rfl rfl rfl rfl (fun _ => rfl) ?_
  obtain ⟨v1, hv1, h⟩ := ob h
  refine Wg.call rfl rfl rfl rfl (s15_ev hv1 _) ?_
  refine Wg.li rfl rfl rfl rfl (fun _ => rfl) ?_
  refine Wg.nil ?_
  refine ⟨fun _ => ?_, fun h => absurd (by decide) h⟩
  refine Wp.seq ?_
  refine Wp.reg rfl ?_
  iterate 2 refine Wg.li rfl rfl rfl rfl (fun _ => rfl) ?_
  refine Wg.nil ?_
  refine ⟨fun _ => ?_, fun h => absurd (by decide) h⟩
  refine Wp.cond (!(v1 == 0)) rfl (fun hb2 => ?_) (fun hb2 => ?_)
  · have h := iT h hb2
    refine Wp.seq ?_
    refine Wp.reg rfl ?_
    iterate 2 refine Wg.li rfl rfl rfl rfl (fun _ => rfl) ?_
    refine Wg.nil ?_
    refine ⟨fun _ => ?_, fun h => absurd (by decide) h⟩
    refine Wp.ret ?_
    refine ⟨fun h => absurd h (by decide), fun _ => ?_⟩
    have h := Option.some.inj h
    subst h
    exact ⟨.inr (by decide), _, rfl, rfl⟩
  · have h := iF h hb2
    refine Wp.skip ?_
    refine ⟨fun _ => ?_, fun h => absurd (by decide) h⟩
    refine Wp.seq ?_
    refine Wp.seq ?_
    refine Wp.reg rfl ?_
    iterate 2 refine Wg.li rfl rfl rfl rfl (fun _ => rfl) ?_
    refine Wg.nil ?_
    refine ⟨fun _ => ?_, fun h => absurd (by decide) h⟩
    refine Wp.cond (!a1) rfl (fun hb3 => ?_) (fun hb3 => ?_)
    · have h := iT h hb3
      refine Wp.seq ?_
      refine Wp.reg rfl ?_
      refine Wg.li rfl rfl rfl rfl (fun _ => rfl) ?_
      refine Wg.nil ?_
      refine ⟨fun _ => ?_, fun h => absurd (by decide) h⟩
      refine Wp.ret ?_
      refine ⟨fun h => absurd h (by decide), fun _ => ?_⟩
      have h := Option.some.inj h
      subst h
      exact ⟨.inr (by decide), _, rfl, rfl⟩
    · have h := iF h hb3
      refine Wp.skip ?_
      refine ⟨fun _ => ?_, fun h => absurd (by decide) h⟩
      refine Wp.seq ?_
      refine Wp.reg rfl ?_
      refine Wg.li rfl rfl rfl rfl (fun _ => rfl) ?_
      refine Wg.nil ?_
      refine ⟨fun _ => ?_, fun h => absurd (by decide) h⟩
      refine Wp.ret ?_
      have h := Option.some.inj h
      subst h
      exact ⟨.inr (by decide), _, rfl, rfl⟩
def s58 (N : Nat) (a0 : Table) (a1 : Int) (a2 : Int) : Option (Bool) :=
  (s86 N a0 a1).bind fun v1 =>
  (if v1 then 
    (s86 N a0 a2).bind fun v4 =>
    some v4
   else some false).bind fun v5 =>
  some (v5 && (!(a1 == a2)))
abbrev F58 : Fr := { r := false, N := 20, m := 0 }
theorem at58 : ctx.P.funcs[58]? = some Tryd.f58 := by kernel_rfl
theorem s58_ev {N : Nat} {a0 : Table} {a1 : Int} {a2 : Int} {r : Bool} (h : s58 N a0 a1 a2 = some r) : ∀ H, Ev ctx (.call 58 [.agg (eTable a0), .int .i64 a1, .int .i64 a2] H (.bool r) H) := by
  refine Ev.of_pure at58 rfl rfl (Nat.le_of_ble_eq_true rfl) (pCons (pv (pTab _)) (pCons (.int _ _) (pCons (.int _ _) pNil))) (.bool _) ?_
  unfold s58 at h
  refine Wp.seq ?_
  refine Wp.reg rfl ?_
  refine Wg.box rfl rfl rfl rfl ?_
  refine Wg.li rfl rfl rfl rfl (fun _ => rfl) ?_
  refine Wg.nil ?_
  refine ⟨fun _ => ?_, fun h => absurd (by decide) h⟩
  refine Wp.seq ?_
  refine Wp.reg rfl ?_
  iterate 2 refine Wg.li rfl rfl rfl rfl (fun _ => rfl) ?_
  obtain ⟨v1, hv1, h⟩ := ob h
  refine Wg.call rfl rfl rfl rfl (s86_ev hv1 _) ?_
  refine Wg.li rfl rfl rfl rfl (fun _ => rfl) ?_
  obtain ⟨v5, hv2, h⟩ := ob h
  refine Wg.grp 4 14 10 v5 v1 rfl rfl (Nat.le_of_ble_eq_true rfl) (fun hb3 => ?_) (fun hb3 => ?_) ?_
  · have hv2 := iT hv2 hb3
    iterate 2 refine Wg.li rfl rfl rfl rfl (fun _ => rfl) ?_
    obtain ⟨v4, hv4, hv2⟩ := ob hv2
    refine Wg.call rfl rfl rfl rfl (s86_ev hv4 _) ?_
    refine Wg.li rfl rfl rfl rfl (fun _ => rfl) ?_
    refine Wg.nil ⟨some_b hv2, ?_, rfl⟩
    repeat (first | exact Env.le_refl _ | refine Env.le_put rfl ?_)
  · have hv2 := iF hv2 hb3
    iterate 3 refine Wg.skip rfl rfl ?_
    refine Wg.li rfl rfl rfl rfl (fun _ => rfl) ?_
    refine Wg.nil ⟨some_b hv2, ?_, rfl⟩
    repeat (first | exact Env.le_refl _ | refine Env.le_put rfl ?_)
  refine Wg.li rfl rfl rfl rfl (fun _ => rfl) ?_
  have hv6 := ifAnd v5 (!(a1 == a2))
  refine Wg.grp 4 19 15 (v5 && (!(a1 == a2))) v5 rfl rfl (Nat.le_of_ble_eq_true rfl) (fun hb7 => ?_) (fun hb7 => ?_) ?_
  · have hv6 := iT hv6 hb7
    iterate 4 refine Wg.li rfl rfl rfl rfl (fun _ => rfl) ?_
    refine Wg.nil ⟨some_b hv6, ?_, rfl⟩
    repeat (first | exact Env.le_refl _ | refine Env.le_put rfl ?_)
  · have hv6 := iF hv6 hb7
    iterate 3 refine Wg.skip rfl rfl ?_
    refine Wg.li rfl rfl rfl rfl (fun _ => rfl) ?_
    refine Wg.nil ⟨some_b hv6, ?_, rfl⟩
    repeat (first | exact Env.le_refl _ | refine Env.le_put rfl ?_)
  refine Wg.li rfl rfl rfl rfl (fun _ => rfl) ?_
  refine Wg.nil ?_
  refine ⟨fun _ => ?_, fun h => absurd (by decide) h⟩
  refine Wp.ret ?_
  have h := Option.some.inj h
  subst h
  exact ⟨.inr (by decide), _, rfl, rfl⟩
def s72 (N : Nat) (a0 : Table) (a1 : Leg) : Option (Stop) :=
  (ix a0.trains a1.train).bind fun v1 =>
  (ix v1.stops a1.frm).bind fun v2 =>
  some v2
abbrev F72 : Fr := { r := false, N := 16, m := 0 }
theorem at72 : ctx.P.funcs[72]? = some Tryd.f72 := by kernel_rfl
theorem s72_ev {N : Nat} {a0 : Table} {a1 : Leg} {r : Stop} (h : s72 N a0 a1 = some r) : ∀ H, Ev ctx (.call 72 [.agg (eTable a0), .agg (eLeg a1)] H (.agg (eStop r)) H) := by
  refine Ev.of_pure at72 rfl rfl (Nat.le_of_ble_eq_true rfl) (pCons (pv (pTab _)) (pCons (pv (pLeg _)) pNil)) (pv (pStop _)) ?_
  unfold s72 at h
  refine Wp.seq ?_
  refine Wp.reg rfl ?_
  refine Wg.box rfl rfl rfl rfl ?_
  refine Wg.box rfl rfl rfl rfl ?_
  refine Wg.alloc rfl rfl rfl rfl ?_
  refine Wg.nil ?_
  refine ⟨fun _ => ?_, fun h => absurd (by decide) h⟩
  refine Wp.seq ?_
  refine Wp.drw _ [1, 3, 6, 8, 10] rfl (by kernel_rfl) (Nat.le_refl _) ?_
  iterate 4 refine Wg.li rfl rfl rfl rfl (fun _ => rfl) ?_
  obtain ⟨v1, hv1, h⟩ := ob h
  refine Wg.idx (f := eTrain) (xs := a0.trains) (c := .unk) rfl rfl rfl rfl rfl rfl rfl lTrain (by decide) hv1 ?_
  iterate 4 refine Wg.li rfl rfl rfl rfl (fun _ => rfl) ?_
  obtain ⟨v2, hv2, h⟩ := ob h
  refine Wg.idx (f := eStop) (xs := v1.stops) (c := .unk) rfl rfl rfl rfl rfl rfl rfl lStop (by decide) hv2 ?_
  refine Wg.li rfl rfl rfl rfl (fun _ => rfl) ?_
  refine Wg.heavy true (Nat.le_of_ble_eq_true rfl) rfl rfl rfl rfl ?_
  refine Wg.nil ?_
  refine ⟨fun _ => ?_, fun h => absurd (by decide) h⟩
  refine Wp.ret ?_
  have h := Option.some.inj h
  subst h
  exact ⟨.inr (by decide), _, rfl, rfl⟩
def s73 (N : Nat) (a0 : Table) (a1 : Leg) : Option (Span) :=
  (ix a0.trains a1.train).bind fun v1 =>
  some v1.late
abbrev F73 : Fr := { r := false, N := 12, m := 0 }
theorem at73 : ctx.P.funcs[73]? = some Tryd.f73 := by kernel_rfl
theorem s73_ev {N : Nat} {a0 : Table} {a1 : Leg} {r : Span} (h : s73 N a0 a1 = some r) : ∀ H, Ev ctx (.call 73 [.agg (eTable a0), .agg (eLeg a1)] H (.agg (eSpan r)) H) := by
  refine Ev.of_pure at73 rfl rfl (Nat.le_of_ble_eq_true rfl) (pCons (pv (pTab _)) (pCons (pv (pLeg _)) pNil)) (pv (pSpan _)) ?_
  unfold s73 at h
  refine Wp.seq ?_
  refine Wp.reg rfl ?_
  refine Wg.box rfl rfl rfl rfl ?_
  refine Wg.box rfl rfl rfl rfl ?_
  refine Wg.alloc rfl rfl rfl rfl ?_
  refine Wg.nil ?_
  refine ⟨fun _ => ?_, fun h => absurd (by decide) h⟩
  refine Wp.seq ?_
  refine Wp.reg rfl ?_
  iterate 4 refine Wg.li rfl rfl rfl rfl (fun _ => rfl) ?_
  obtain ⟨v1, hv1, h⟩ := ob h
  refine Wg.idx (f := eTrain) (xs := a0.trains) (c := .unk) rfl rfl rfl rfl rfl rfl rfl lTrain (by decide) hv1 ?_
  iterate 2 refine Wg.li rfl rfl rfl rfl (fun _ => rfl) ?_
  refine Wg.heavy true (Nat.le_of_ble_eq_true rfl) rfl rfl rfl rfl ?_
  refine Wg.nil ?_
  refine ⟨fun _ => ?_, fun h => absurd (by decide) h⟩
  refine Wp.ret ?_
  have h := Option.some.inj h
  subst h
  exact ⟨.inr (by decide), _, rfl, rfl⟩
def s74 (N : Nat) (a0 : Table) (a1 : Leg) : Option (Stop) :=
  (ix a0.trains a1.train).bind fun v1 =>
  (ix v1.stops a1.to).bind fun v2 =>
  some v2
abbrev F74 : Fr := { r := false, N := 16, m := 0 }
theorem at74 : ctx.P.funcs[74]? = some Tryd.f74 := by kernel_rfl
theorem s74_ev {N : Nat} {a0 : Table} {a1 : Leg} {r : Stop} (h : s74 N a0 a1 = some r) : ∀ H, Ev ctx (.call 74 [.agg (eTable a0), .agg (eLeg a1)] H (.agg (eStop r)) H) := by
  refine Ev.of_pure at74 rfl rfl (Nat.le_of_ble_eq_true rfl) (pCons (pv (pTab _)) (pCons (pv (pLeg _)) pNil)) (pv (pStop _)) ?_
  unfold s74 at h
  refine Wp.seq ?_
  refine Wp.reg rfl ?_
  refine Wg.box rfl rfl rfl rfl ?_
  refine Wg.box rfl rfl rfl rfl ?_
  refine Wg.alloc rfl rfl rfl rfl ?_
  refine Wg.nil ?_
  refine ⟨fun _ => ?_, fun h => absurd (by decide) h⟩
  refine Wp.seq ?_
  refine Wp.drw _ [1, 3, 6, 8, 10] rfl (by kernel_rfl) (Nat.le_refl _) ?_
  iterate 4 refine Wg.li rfl rfl rfl rfl (fun _ => rfl) ?_
  obtain ⟨v1, hv1, h⟩ := ob h
  refine Wg.idx (f := eTrain) (xs := a0.trains) (c := .unk) rfl rfl rfl rfl rfl rfl rfl lTrain (by decide) hv1 ?_
  iterate 4 refine Wg.li rfl rfl rfl rfl (fun _ => rfl) ?_
  obtain ⟨v2, hv2, h⟩ := ob h
  refine Wg.idx (f := eStop) (xs := v1.stops) (c := .unk) rfl rfl rfl rfl rfl rfl rfl lStop (by decide) hv2 ?_
  refine Wg.li rfl rfl rfl rfl (fun _ => rfl) ?_
  refine Wg.heavy true (Nat.le_of_ble_eq_true rfl) rfl rfl rfl rfl ?_
  refine Wg.nil ?_
  refine ⟨fun _ => ?_, fun h => absurd (by decide) h⟩
  refine Wp.ret ?_
  have h := Option.some.inj h
  subst h
  exact ⟨.inr (by decide), _, rfl, rfl⟩
def s59_l29 (N : Nat) (a1 : (List Leg)) (s3 : Int) (v7 : Leg) (s22 : Int) : Option ((Int) ⊕ (Unit ⊕ (Int × Int × Bool))) :=
  if (decide (s22 < s3)) then
    (ix a1 s22).bind fun v26 =>
    if (v26.train == v7.train) then
      some (.inr (.inr (0, 0, false)))
    else
      (ck (s22 + 1)).bind fun v28 =>
      some (.inl v28)
  else
    some (.inr (.inl ()))
def s59_l41 (N : Nat) (a0 : Table) (a1 : (List Leg)) (s3 : Int) : Option ((Int) ⊕ (Unit ⊕ (Int × Int × Bool))) :=
  if (decide (s3 < (a1.length : Int))) then
    (ix a1 s3).bind fun v7 =>
    (ck ((a0.trains.length : Int) - 1)).bind fun v8 =>
    (s47 N v7.train 0 v8).bind fun v9 =>
    (if (!v9) then some true else 
      (ix a0.trains v7.train).bind fun v12 =>
      (ck ((v12.stops.length : Int) - 1)).bind fun v13 =>
      (s47 N v7.to 1 v13).bind fun v14 =>
      some (!v14)).bind fun v15 =>
    (if v15 then some true else 
      (ck (v7.to - 1)).bind fun v18 =>
      (s47 N v7.frm 0 v18).bind fun v19 =>
      some (!v19)).bind fun v20 =>
    if v20 then
      some (.inr (.inr (0, 0, false)))
    else
      (iter (s59_l29 N a1 s3 v7) N 0).bind fun o23 => match o23 with
      | .inl s30 =>
        (if (decide (s3 > 0)) then 
          (ck (s3 - 1)).bind fun v33 =>
          (ix a1 v33).bind fun v34 =>
          (s74 N a0 v34).bind fun v35 =>
          (s72 N a0 v7).bind fun v36 =>
          some (!(v35.station == v36.station))
         else some false).bind fun v37 =>
        if v37 then
          some (.inr (.inr (0, 0, false)))
        else
          (ck (s3 + 1)).bind fun v39 =>
          some (.inl v39)
      | .inr s40 =>
        some (.inr (.inr s40))
  else
    some (.inr (.inl ()))
def s59 (N : Nat) (a0 : Table) (a1 : (List Leg)) : Option (Int × Int × Bool) :=
  (s47 N (a1.length : Int) 1 4).bind fun v1 =>
  if (!v1) then
    some (0, 0, false)
  else
    (iter (s59_l41 N a0 a1) N 0).bind fun o4 => match o4 with
    | .inl s42 =>
      (ix a1 0).bind fun v43 =>
      (s72 N a0 v43).bind fun v44 =>
      (ck ((a1.length : Int) - 1)).bind fun v45 =>
      (ix a1 v45).bind fun v46 =>
      (s74 N a0 v46).bind fun v47 =>
      some (v44.station, v47.station, (!(v44.station == v47.station)))
    | .inr s48 =>
      some s48
abbrev F59 : Fr := { r := false, N := 108, m := 0 }
theorem at59 : ctx.P.funcs[59]? = some Tryd.f59 := by kernel_rfl
theorem s59_ev {N : Nat} {a0 : Table} {a1 : (List Leg)} {r : Int × Int × Bool} (h : s59 N a0 a1 = some r) : ∀ H, Ev ctx (.call 59 [.agg (eTable a0), lst eLeg a1 .unk] H (.tuple [.int .i64 r.1, .int .i64 r.2.1, .bool r.2.2]) H) := by
  refine Ev.of_pure at59 rfl rfl (Nat.le_of_ble_eq_true rfl) (pCons (pv (pTab _)) (pCons (Pure.lst pLeg _ pUnk) pNil)) (.tuple (pCons (.int _ _) (pCons (.int _ _) (pCons (.bool _) pNil)))) ?_
  unfold s59 at h
  refine Wp.seq ?_
  refine Wp.reg rfl ?_
  refine Wg.box rfl rfl rfl rfl ?_
  iterate 3 refine Wg.li rfl rfl rfl rfl (fun _ => rfl) ?_
  refine Wg.nil ?_
  refine ⟨fun _ => ?_, fun h => absurd (by decide) h⟩
  refine Wp.seq ?_
  refine Wp.seq ?_
  refine Wp.reg rfl ?_
  iterate 2 refine Wg.li rfl rfl rfl rfl (fun _ => rfl) ?_
  obtain ⟨v1, hv1, h⟩ := ob h
  refine Wg.call rfl rfl rfl rfl (s47_ev hv1 _) ?_
  refine Wg.li rfl rfl rfl rfl (fun _ => rfl) ?_
  refine Wg.nil ?_
  refine ⟨fun _ => ?_, fun h => absurd (by decide) h⟩
  refine Wp.cond (!v1) rfl (fun hb2 => ?_) (fun hb2 => ?_)
  · have h := iT h hb2
    refine Wp.seq ?_
    refine Wp.reg rfl ?_
    iterate 3 refine Wg.li rfl rfl rfl rfl (fun _ => rfl) ?_
    refine Wg.nil ?_
    refine ⟨fun _ => ?_, fun h => absurd (by decide) h⟩
    refine Wp.ret ?_
    refine ⟨fun h => absurd h (by decide), fun _ => ?_⟩
    have h := Option.some.inj h
    subst h
    exact ⟨.inr (by decide), _, rfl, rfl⟩
  · have h := iF h hb2
    refine Wp.skip ?_
    refine ⟨fun _ => ?_, fun h => absurd (by decide) h⟩
    refine Wp.seq ?_
    refine Wp.seq ?_
    refine Wp.reg rfl ?_
    refine Wg.li rfl rfl rfl rfl (fun _ => rfl) ?_
    refine Wg.nil ?_
    refine ⟨fun _ => ?_, fun h => absurd (by decide) h⟩
    refine Wp.block ?_
    obtain ⟨o4, hx5, h⟩ := ob h
    refine Sub.use (Sub.canon [] [] [(1, lst eLeg a1 .unk), (2, .ro (eTable a0)), (7, .int .i64 0)] rfl (by decide) trivial (.pure rfl (Pure.lst pLeg _ pUnk) (.pure rfl (.ro (pTab _)) (.pure rfl (.int _ _) .nil)))) ?_
    refine Wp.after (Wp.iterS (s59_l41 N a0 a1) (fun s3 => Env.ofList [(1, lst eLeg a1 .unk), (2, .ro (eTable a0)), (7, .int .i64 s3)]) (fun s3 => hp []) (fun o4 x e' H' => match o4 with | .inl s => x = .exit 0 ∧ Sub ctx F59 (Env.ofList [(1, lst eLeg a1 .unk), (2, .ro (eTable a0))]) (hp []) e' H' | .inr s => x = .ret ∧ ∃ vs, resA ctx e' H' [.tmp 4, .tmp 5, .tmp 6] = some vs ∧ retA vs = .tuple [.int .i64 s.1, .int .i64 s.2.1, .bool s.2.2]) ?_ N 0 _ hx5) ?_
    · intro s3 o ho
      unfold s59_l41 at ho
      refine Wp.seq ?_
      refine Wp.seq ?_
      refine Wp.reg rfl ?_
      iterate 4 refine Wg.li rfl rfl rfl rfl (fun _ => rfl) ?_
      refine Wg.nil ?_
      refine ⟨fun _ => ?_, fun h => absurd (by decide) h⟩
      refine Wp.cond (decide (s3 < (a1.length : Int))) rfl (fun hb6 => ?_) (fun hb6 => ?_)
      · have ho := iT ho hb6
        refine Wp.skip ?_
        refine ⟨fun _ => ?_, fun h => absurd (by decide) h⟩
        refine Wp.seq ?_
        refine Wp.block ?_
        refine Wp.seq ?_
        refine Wp.reg rfl ?_
        iterate 2 refine Wg.li rfl rfl rfl rfl (fun _ => rfl) ?_
        obtain ⟨v7, hv7, ho⟩ := ob ho
        refine Wg.idx (f := eLeg) (xs := a1) (c := .unk) rfl rfl rfl rfl rfl rfl rfl lLeg (by decide) hv7 ?_
        refine Wg.li rfl rfl rfl rfl (fun _ => rfl) ?_
        refine Wg.alloc rfl rfl rfl rfl ?_
        refine Wg.heavy true (Nat.le_of_ble_eq_true rfl) rfl rfl rfl rfl ?_
        refine Wg.nil ?_
        refine ⟨fun _ => ?_, fun h => absurd (by decide) h⟩
        refine Wp.seq ?_
        refine Wp.seq ?_
        refine Wp.drw _ [3, 12, 17] rfl (by kernel_rfl) (Nat.le_refl _) ?_
        refine Wg.li rfl rfl rfl rfl (fun _ => rfl) ?_
        refine Wg.ld rfl rfl rfl rfl rfl rfl ?_
        iterate 3 refine Wg.li rfl rfl rfl rfl (fun _ => rfl) ?_
        obtain ⟨v8, hv8, ho⟩ := ob ho
        refine Wg.bin (k := .i64) (k2 := .i64) (a := (a0.trains.length : Int)) (b := 1) rfl rfl rfl rfl rfl (bSub hv8) ?_
        obtain ⟨v9, hv9, ho⟩ := ob ho
        refine Wg.call rfl rfl rfl rfl (s47_ev hv9 _) ?_
        iterate 2 refine Wg.li rfl rfl rfl rfl (fun _ => rfl) ?_
        obtain ⟨v15, hv10, ho⟩ := ob ho
        refine Wg.grp 14 48 34 v15 (!v9) rfl rfl (Nat.le_of_ble_eq_true rfl) (fun hb11 => ?_) (fun hb11 => ?_) ?_
        · have hv10 := iT hv10 hb11
          iterate 13 refine Wg.skip rfl rfl ?_
          refine Wg.li rfl rfl rfl rfl (fun _ => rfl) ?_
          refine Wg.nil ⟨some_b hv10, ?_, rfl⟩
          repeat (first | exact Env.le_refl _ | refine Env.le_put rfl ?_)
        · have hv10 := iF hv10 hb11
          refine Wg.li rfl rfl rfl rfl (fun _ => rfl) ?_
          refine Wg.ld rfl rfl rfl rfl rfl rfl ?_
          iterate 3 refine Wg.li rfl rfl rfl rfl (fun _ => rfl) ?_
          refine Wg.ld rfl rfl rfl rfl rfl rfl ?_
          obtain ⟨v12, hv12, hv10⟩ := ob hv10
          refine Wg.idx (f := eTrain) (xs := a0.trains) (c := .unk) rfl rfl rfl rfl rfl rfl rfl lTrain (by decide) hv12 ?_
          iterate 3 refine Wg.li rfl rfl rfl rfl (fun _ => rfl) ?_
          obtain ⟨v13, hv13, hv10⟩ := ob hv10
          refine Wg.bin (k := .i64) (k2 := .i64) (a := (v12.stops.length : Int)) (b := 1) rfl rfl rfl rfl rfl (bSub hv13) ?_
          obtain ⟨v14, hv14, hv10⟩ := ob hv10
          refine Wg.call rfl rfl rfl rfl (s47_ev hv14 _) ?_
          iterate 2 refine Wg.li rfl rfl rfl rfl (fun _ => rfl) ?_
          refine Wg.nil ⟨some_b hv10, ?_, rfl⟩
          repeat (first | exact Env.le_refl _ | refine Env.le_put rfl ?_)
        refine Wg.li rfl rfl rfl rfl (fun _ => rfl) ?_
        obtain ⟨v20, hv16, ho⟩ := ob ho
        refine Wg.grp 8 57 49 v20 v15 rfl rfl (Nat.le_of_ble_eq_true rfl) (fun hb17 => ?_) (fun hb17 => ?_) ?_
        · have hv16 := iT hv16 hb17
          iterate 7 refine Wg.skip rfl rfl ?_
          refine Wg.li rfl rfl rfl rfl (fun _ => rfl) ?_
          refine Wg.nil ⟨some_b hv16, ?_, rfl⟩
          repeat (first | exact Env.le_refl _ | refine Env.le_put rfl ?_)
        · have hv16 := iF hv16 hb17
          refine Wg.li rfl rfl rfl rfl (fun _ => rfl) ?_
          refine Wg.ld rfl rfl rfl rfl rfl rfl ?_
          refine Wg.li rfl rfl rfl rfl (fun _ => rfl) ?_
          refine Wg.ld rfl rfl rfl rfl rfl rfl ?_
          obtain ⟨v18, hv18, hv16⟩ := ob hv16
          refine Wg.bin (k := .i64) (k2 := .i64) (a := v7.to) (b := 1) rfl rfl rfl rfl rfl (bSub hv18) ?_
          obtain ⟨v19, hv19, hv16⟩ := ob hv16
          refine Wg.call rfl rfl rfl rfl (s47_ev hv19 _) ?_
          iterate 2 refine Wg.li rfl rfl rfl rfl (fun _ => rfl) ?_
          refine Wg.nil ⟨some_b hv16, ?_, rfl⟩
          repeat (first | exact Env.le_refl _ | refine Env.le_put rfl ?_)
        refine Wg.nil ?_
        refine ⟨fun _ => ?_, fun h => absurd (by decide) h⟩
        refine Wp.cond v20 rfl (fun hb21 => ?_) (fun hb21 => ?_)
        · have ho := iT ho hb21
          refine Wp.seq ?_
          refine Wp.reg rfl ?_
          iterate 3 refine Wg.li rfl rfl rfl rfl (fun _ => rfl) ?_
          refine Wg.nil ?_
          refine ⟨fun _ => ?_, fun h => absurd (by decide) h⟩
          refine Wp.ret ?_
          refine ⟨fun h => absurd h (by decide), fun _ => ?_⟩
          refine ⟨fun h => absurd h (by decide), fun _ => ?_⟩
          have ho := Option.some.inj ho
          subst ho
          exact ⟨by decide, by decide, _, rfl, rfl⟩
        · have ho := iF ho hb21
          refine Wp.skip ?_
          refine ⟨fun _ => ?_, fun h => absurd (by decide) h⟩
          refine Wp.seq ?_
          refine Wp.seq ?_
          refine Wp.reg rfl ?_
          refine Wg.li rfl rfl rfl rfl (fun _ => rfl) ?_
          refine Wg.nil ?_
          refine ⟨fun _ => ?_, fun h => absurd (by decide) h⟩
          refine Wp.block ?_
          obtain ⟨o23, hx24, ho⟩ := ob ho
          refine Sub.use (Sub.canon [some 0] [.cells (eLeg v7)] [(1, lst eLeg a1 .unk), (2, .ro (eTable a0)), (7, .int .i64 s3), (8, .ptr 0 0), (9, .int .i64 0)] rfl (by decide) ⟨.pure rfl (pLeg _), trivial⟩ (.pure rfl (Pure.lst pLeg _ pUnk) (.pure rfl (.ro (pTab _)) (.pure rfl (.int _ _) (.ptr rfl rfl (.pure rfl (.int _ _) .nil)))))) ?_
          refine Wp.after (Wp.iterS (s59_l29 N a1 s3 v7) (fun s22 => Env.ofList [(1, lst eLeg a1 .unk), (2, .ro (eTable a0)), (7, .int .i64 s3), (8, .ptr 0 0), (9, .int .i64 s22)]) (fun s22 => hp [.cells (eLeg v7)]) (fun o23 x e' H' => match o23 with | .inl s => x = .exit 2 ∧ Sub ctx F59 (Env.ofList [(1, lst eLeg a1 .unk), (2, .ro (eTable a0)), (7, .int .i64 s3), (8, .ptr 0 0)]) (hp [.cells (eLeg v7)]) e' H' | .inr s => x = .ret ∧ ∃ vs, resA ctx e' H' [.tmp 4, .tmp 5, .tmp 6] = some vs ∧ retA vs = .tuple [.int .i64 s.1, .int .i64 s.2.1, .bool s.2.2]) ?_ N 0 _ hx24) ?_
          · intro s22 o ho
            unfold s59_l29 at ho
            refine Wp.seq ?_
            refine Wp.seq ?_
            refine Wp.reg rfl ?_
            iterate 3 refine Wg.li rfl rfl rfl rfl (fun _ => rfl) ?_
            refine Wg.nil ?_
            refine ⟨fun _ => ?_, fun h => absurd (by decide) h⟩
            refine Wp.cond (decide (s22 < s3)) rfl (fun hb25 => ?_) (fun hb25 => ?_)
            · have ho := iT ho hb25
              refine Wp.skip ?_
              refine ⟨fun _ => ?_, fun h => absurd (by decide) h⟩
              refine Wp.seq ?_
              refine Wp.block ?_
              refine Wp.seq ?_
              refine Wp.drw _ [4] rfl (by kernel_rfl) (Nat.le_refl _) ?_
              iterate 2 refine Wg.li rfl rfl rfl rfl (fun _ => rfl) ?_
              obtain ⟨v26, hv26, ho⟩ := ob ho
              refine Wg.idx (f := eLeg) (xs := a1) (c := .unk) rfl rfl rfl rfl rfl rfl rfl lLeg (by decide) hv26 ?_
              iterate 3 refine Wg.li rfl rfl rfl rfl (fun _ => rfl) ?_
              refine Wg.ld rfl rfl rfl rfl rfl rfl ?_
              refine Wg.li rfl rfl rfl rfl (fun _ => rfl) ?_
              refine Wg.nil ?_
              refine ⟨fun _ => ?_, fun h => absurd (by decide) h⟩
              refine Wp.cond (v26.train == v7.train) rfl (fun hb27 => ?_) (fun hb27 => ?_)
              · have ho := iT ho hb27
                refine Wp.seq ?_
                refine Wp.reg rfl ?_
                iterate 3 refine Wg.li rfl rfl rfl rfl (fun _ => rfl) ?_
                refine Wg.nil ?_
                refine ⟨fun _ => ?_, fun h => absurd (by decide) h⟩
                refine Wp.ret ?_
                refine ⟨fun h => absurd h (by decide), fun _ => ?_⟩
                have ho := Option.some.inj ho
                subst ho
                exact ⟨by decide, by decide, _, rfl, rfl⟩
              · have ho := iF ho hb27
                refine Wp.skip ?_
                refine ⟨fun _ => ?_, fun h => absurd (by decide) h⟩
                refine Wp.reg rfl ?_
                refine Wg.li rfl rfl rfl rfl (fun _ => rfl) ?_
                obtain ⟨v28, hv28, ho⟩ := ob ho
                refine Wg.bin (k := .i64) (k2 := .i64) (a := s22) (b := 1) rfl rfl rfl rfl rfl (bAdd hv28) ?_
                refine Wg.li rfl rfl rfl rfl (fun _ => rfl) ?_
                refine Wg.nil ?_
                have ho := Option.some.inj ho
                subst ho
                exact ⟨by decide, (Sub.canon [some 0] [.cells (eLeg v7)] [(1, lst eLeg a1 .unk), (2, .ro (eTable a0)), (7, .int .i64 s3), (8, .ptr 0 0), (9, .int .i64 v28)] rfl (by decide) ⟨.pure rfl (pLeg _), trivial⟩ (.pure rfl (Pure.lst pLeg _ pUnk) (.pure rfl (.ro (pTab _)) (.pure rfl (.int _ _) (.ptr rfl rfl (.pure rfl (.int _ _) .nil))))))⟩
            · have ho := iF ho hb25
              refine Wp.exit ?_
              refine ⟨fun h => absurd h (by decide), fun _ => ?_⟩
              have ho := Option.some.inj ho
              subst ho
              exact ⟨by decide, by decide, (Sub.canon [some 0] [.cells (eLeg v7)] [(1, lst eLeg a1 .unk), (2, .ro (eTable a0)), (7, .int .i64 s3), (8, .ptr 0 0)] rfl (by decide) ⟨.pure rfl (pLeg _), trivial⟩ (.pure rfl (Pure.lst pLeg _ pUnk) (.pure rfl (.ro (pTab _)) (.pure rfl (.int _ _) (.ptr rfl rfl .nil)))))⟩
          · intro x e' H' hP
            rcases o23 with s30 | s40
            · obtain ⟨hPx, hP2⟩ := hP
              subst hPx
              have hP := And.intro (True.intro) hP2
              refine ⟨fun _ => ?_, fun h => absurd (by decide) h⟩
              refine Sub.use hP.2 ?_
              refine Wp.seq ?_
              refine Wp.drw _ [3, 8, 11] rfl (by kernel_rfl) (Nat.le_refl _) ?_
              iterate 3 refine Wg.li rfl rfl rfl rfl (fun _ => rfl) ?_
              obtain ⟨v37, hv31, ho⟩ := ob ho
              refine Wg.grp 14 87 73 v37 (decide (s3 > 0)) rfl rfl (Nat.le_of_ble_eq_true rfl) (fun hb32 => ?_) (fun hb32 => ?_) ?_
              · have hv31 := iT hv31 hb32
                iterate 3 refine Wg.li rfl rfl rfl rfl (fun _ => rfl) ?_
                obtain ⟨v33, hv33, hv31⟩ := ob hv31
                refine Wg.bin (k := .i64) (k2 := .i64) (a := s3) (b := 1) rfl rfl rfl rfl rfl (bSub hv33) ?_
                obtain ⟨v34, hv34, hv31⟩ := ob hv31
                refine Wg.idx (f := eLeg) (xs := a1) (c := .unk) rfl rfl rfl rfl rfl rfl rfl lLeg (by decide) hv34 ?_
                refine Wg.li rfl rfl rfl rfl (fun _ => rfl) ?_
                obtain ⟨v35, hv35, hv31⟩ := ob hv31
                refine Wg.call rfl rfl rfl rfl (s74_ev hv35 _) ?_
                iterate 2 refine Wg.li rfl rfl rfl rfl (fun _ => rfl) ?_
                refine Wg.ld rfl rfl rfl rfl rfl rfl ?_
                obtain ⟨v36, hv36, hv31⟩ := ob hv31
                refine Wg.call rfl rfl rfl rfl (s72_ev hv36 _) ?_
                iterate 3 refine Wg.li rfl rfl rfl rfl (fun _ => rfl) ?_
                refine Wg.nil ⟨some_b hv31, ?_, rfl⟩
                repeat (first | exact Env.le_refl _ | refine Env.le_put rfl ?_)
              · have hv31 := iF hv31 hb32
                iterate 13 refine Wg.skip rfl rfl ?_
                refine Wg.li rfl rfl rfl rfl (fun _ => rfl) ?_
                refine Wg.nil ⟨some_b hv31, ?_, rfl⟩
                repeat (first | exact Env.le_refl _ | refine Env.le_put rfl ?_)
              refine Wg.nil ?_
              refine ⟨fun _ => ?_, fun h => absurd (by decide) h⟩
              refine Wp.cond v37 rfl (fun hb38 => ?_) (fun hb38 => ?_)
              · have ho := iT ho hb38
                refine Wp.seq ?_
                refine Wp.reg rfl ?_
                iterate 3 refine Wg.li rfl rfl rfl rfl (fun _ => rfl) ?_
                refine Wg.nil ?_
                refine ⟨fun _ => ?_, fun h => absurd (by decide) h⟩
                refine Wp.ret ?_
                refine ⟨fun h => absurd h (by decide), fun _ => ?_⟩
                have ho := Option.some.inj ho
                subst ho
                exact ⟨by decide, by decide, _, rfl, rfl⟩
              · have ho := iF ho hb38
                refine Wp.skip ?_
                refine ⟨fun _ => ?_, fun h => absurd (by decide) h⟩
                refine Wp.reg rfl ?_
                refine Wg.li rfl rfl rfl rfl (fun _ => rfl) ?_
                obtain ⟨v39, hv39, ho⟩ := ob ho
                refine Wg.bin (k := .i64) (k2 := .i64) (a := s3) (b := 1) rfl rfl rfl rfl rfl (bAdd hv39) ?_
                refine Wg.li rfl rfl rfl rfl (fun _ => rfl) ?_
                refine Wg.nil ?_
                have ho := Option.some.inj ho
                subst ho
                exact ⟨by decide, (Sub.canon [] [] [(1, lst eLeg a1 .unk), (2, .ro (eTable a0)), (7, .int .i64 v39)] rfl (by decide) trivial (.pure rfl (Pure.lst pLeg _ pUnk) (.pure rfl (.ro (pTab _)) (.pure rfl (.int _ _) .nil))))⟩
            · have hPx := hP.1
              subst hPx
              refine ⟨fun h => absurd h (by decide), fun _ => ?_⟩
              refine ⟨fun h => absurd h (by decide), fun _ => ?_⟩
              have ho := Option.some.inj ho
              subst ho
              exact ⟨by rw [hP.1]; decide, hP.1, hP.2⟩
      · have ho := iF ho hb6
        refine Wp.exit ?_
        refine ⟨fun h => absurd h (by decide), fun _ => ?_⟩
        have ho := Option.some.inj ho
        subst ho
        exact ⟨by decide, by decide, (Sub.canon [] [] [(1, lst eLeg a1 .unk), (2, .ro (eTable a0))] rfl (by decide) trivial (.pure rfl (Pure.lst pLeg _ pUnk) (.pure rfl (.ro (pTab _)) .nil)))⟩
    · intro x e' H' hP
      rcases o4 with s42 | s48
      · obtain ⟨hPx, hP2⟩ := hP
        subst hPx
        have hP := And.intro (True.intro) hP2
        refine ⟨fun _ => ?_, fun h => absurd (by decide) h⟩
        refine Sub.use hP.2 ?_
        refine Wp.seq ?_
        refine Wp.drw _ [0, 3, 6, 12] rfl (by kernel_rfl) (Nat.le_refl _) ?_
        iterate 2 refine Wg.li rfl rfl rfl rfl (fun _ => rfl) ?_
        obtain ⟨v43, hv43, h⟩ := ob h
        refine Wg.idx (f := eLeg) (xs := a1) (c := .unk) rfl rfl rfl rfl rfl rfl rfl lLeg (by decide) hv43 ?_
        refine Wg.li rfl rfl rfl rfl (fun _ => rfl) ?_
        obtain ⟨v44, hv44, h⟩ := ob h
        refine Wg.call rfl rfl rfl rfl (s72_ev hv44 _) ?_
        iterate 5 refine Wg.li rfl rfl rfl rfl (fun _ => rfl) ?_
        obtain ⟨v45, hv45, h⟩ := ob h
        refine Wg.bin (k := .i64) (k2 := .i64) (a := (a1.length : Int)) (b := 1) rfl rfl rfl rfl rfl (bSub hv45) ?_
        obtain ⟨v46, hv46, h⟩ := ob h
        refine Wg.idx (f := eLeg) (xs := a1) (c := .unk) rfl rfl rfl rfl rfl rfl rfl lLeg (by decide) hv46 ?_
        refine Wg.li rfl rfl rfl rfl (fun _ => rfl) ?_
        obtain ⟨v47, hv47, h⟩ := ob h
        refine Wg.call rfl rfl rfl rfl (s74_ev hv47 _) ?_
        iterate 3 refine Wg.li rfl rfl rfl rfl (fun _ => rfl) ?_
        refine Wg.nil ?_
        refine ⟨fun _ => ?_, fun h => absurd (by decide) h⟩
        refine Wp.seq ?_
        refine Wp.reg rfl ?_
        iterate 8 refine Wg.li rfl rfl rfl rfl (fun _ => rfl) ?_
        refine Wg.nil ?_
        refine ⟨fun _ => ?_, fun h => absurd (by decide) h⟩
        refine Wp.ret ?_
        have h := Option.some.inj h
        subst h
        exact ⟨.inr (by decide), _, rfl, rfl⟩
      · have hPx := hP.1
        subst hPx
        refine ⟨fun h => absurd h (by decide), fun _ => ?_⟩
        exact ⟨.inr rfl, by obtain ⟨vs, h1, h2⟩ := hP.2; exact ⟨vs, h1, by rw [h2]; have h := Option.some.inj h; subst h; rfl⟩⟩
def s66 (N : Nat) (a0 : Table) (a1 : (List Leg)) : Option (Bool) :=
  (s59 N a0 a1).bind fun v1 =>
  some v1.2.2
abbrev F66 : Fr := { r := false, N := 16, m := 0 }
theorem at66 : ctx.P.funcs[66]? = some Tryd.f66 := by kernel_rfl
theorem s66_ev {N : Nat} {a0 : Table} {a1 : (List Leg)} {r : Bool} (h : s66 N a0 a1 = some r) : ∀ H, Ev ctx (.call 66 [.agg (eTable a0), lst eLeg a1 .unk] H (.bool r) H) := by
  refine Ev.of_pure at66 rfl rfl (Nat.le_of_ble_eq_true rfl) (pCons (pv (pTab _)) (pCons (Pure.lst pLeg _ pUnk) pNil)) (.bool _) ?_
  unfold s66 at h
  refine Wp.seq ?_
  refine Wp.reg rfl ?_
  refine Wg.box rfl rfl rfl rfl ?_
  refine Wg.li rfl rfl rfl rfl (fun _ => rfl) ?_
  refine Wg.nil ?_
  refine ⟨fun _ => ?_, fun h => absurd (by decide) h⟩
  refine Wp.seq ?_
  refine Wp.reg rfl ?_
  iterate 2 refine Wg.li rfl rfl rfl rfl (fun _ => rfl) ?_
  obtain ⟨v1, hv1, h⟩ := ob h
  refine Wg.call rfl rfl rfl rfl (s59_ev hv1 _) ?_
  iterate 7 refine Wg.li rfl rfl rfl rfl (fun _ => rfl) ?_
  refine Wg.nil ?_
  refine ⟨fun _ => ?_, fun h => absurd (by decide) h⟩
  refine Wp.seq ?_
  refine Wp.reg rfl ?_
  iterate 2 refine Wg.li rfl rfl rfl rfl (fun _ => rfl) ?_
  refine Wg.nil ?_
  refine ⟨fun _ => ?_, fun h => absurd (by decide) h⟩
  refine Wp.ret ?_
  have h := Option.some.inj h
  subst h
  exact ⟨.inr (by decide), _, rfl, rfl⟩
def s13 (N : Nat) (a0 : Table) (a1 : (List Leg)) (a2 : Int) (a3 : Int) : Option (Bool × Int) :=
  (s58 N a0 a2 a3).bind fun v1 =>
  (s57 N a0 v1).bind fun v2 =>
  if (!(v2 == 0)) then
    some (false, v2)
  else
    (s59 N a0 a1).bind fun v4 =>
    some (((v4.2.2 && (v4.1 == a2)) && (v4.2.1 == a3)), 0)
abbrev F13 : Fr := { r := false, N := 41, m := 0 }
theorem at13 : ctx.P.funcs[13]? = some Tryd.f13 := by kernel_rfl
theorem s13_ev {N : Nat} {a0 : Table} {a1 : (List Leg)} {a2 : Int} {a3 : Int} {r : Bool × Int} (h : s13 N a0 a1 a2 a3 = some r) : ∀ H, Ev ctx (.call 13 [.agg (eTable a0), lst eLeg a1 .unk, .int .i64 a2, .int .i64 a3] H (.tuple [.bool r.1, .int .i64 r.2]) H) := by
  refine Ev.of_pure at13 rfl rfl (Nat.le_of_ble_eq_true rfl) (pCons (pv (pTab _)) (pCons (Pure.lst pLeg _ pUnk) (pCons (.int _ _) (pCons (.int _ _) pNil)))) (.tuple (pCons (.bool _) (pCons (.int _ _) pNil))) ?_
  unfold s13 at h
  refine Wp.seq ?_
  refine Wp.reg rfl ?_
  refine Wg.box rfl rfl rfl rfl ?_
  iterate 2 refine Wg.li rfl rfl rfl rfl (fun _ => rfl) ?_
  refine Wg.nil ?_
  refine ⟨fun _ => ?_, fun h => absurd (by decide) h⟩
  refine Wp.seq ?_
  refine Wp.seq ?_
  refine Wp.drw _ [0, 1] rfl (by kernel_rfl) (Nat.le_refl _) ?_
  iterate 4 refine Wg.li rfl rfl rfl rfl (fun _ => rfl) ?_
  obtain ⟨v1, hv1, h⟩ := ob h
  refine Wg.call rfl rfl rfl rfl (s58_ev hv1 _) ?_
  obtain ⟨v2, hv2, h⟩ := ob h
  refine Wg.call rfl rfl rfl rfl (s57_ev hv2 _) ?_
  refine Wg.li rfl rfl rfl rfl (fun _ => rfl) ?_
  refine Wg.nil ?_
  refine ⟨fun _ => ?_, fun h => absurd (by decide) h⟩
  refine Wp.seq ?_
  refine Wp.reg rfl ?_
  iterate 2 refine Wg.li rfl rfl rfl rfl (fun _ => rfl) ?_
  refine Wg.nil ?_
  refine ⟨fun _ => ?_, fun h => absurd (by decide) h⟩
  refine Wp.cond (!(v2 == 0)) rfl (fun hb3 => ?_) (fun hb3 => ?_)
  · have h := iT h hb3
    refine Wp.seq ?_
    refine Wp.reg rfl ?_
    iterate 3 refine Wg.li rfl rfl rfl rfl (fun _ => rfl) ?_
    refine Wg.nil ?_
    refine ⟨fun _ => ?_, fun h => absurd (by decide) h⟩
    refine Wp.ret ?_
    refine ⟨fun h => absurd h (by decide), fun _ => ?_⟩
    have h := Option.some.inj h
    subst h
    exact ⟨.inr (by decide), _, rfl, rfl⟩
  · have h := iF h hb3
    refine Wp.skip ?_
    refine ⟨fun _ => ?_, fun h => absurd (by decide) h⟩
    refine Wp.seq ?_
    refine Wp.reg rfl ?_
    iterate 2 refine Wg.li rfl rfl rfl rfl (fun _ => rfl) ?_
    obtain ⟨v4, hv4, h⟩ := ob h
    refine Wg.call rfl rfl rfl rfl (s59_ev hv4 _) ?_
    iterate 7 refine Wg.li rfl rfl rfl rfl (fun _ => rfl) ?_
    refine Wg.nil ?_
    refine ⟨fun _ => ?_, fun h => absurd (by decide) h⟩
    refine Wp.seq ?_
    refine Wp.reg rfl ?_
    iterate 2 refine Wg.li rfl rfl rfl rfl (fun _ => rfl) ?_
    have hv5 := ifAnd v4.2.2 (v4.1 == a2)
    refine Wg.grp 4 35 31 (v4.2.2 && (v4.1 == a2)) v4.2.2 rfl rfl (Nat.le_of_ble_eq_true rfl) (fun hb6 => ?_) (fun hb6 => ?_) ?_
    · have hv5 := iT hv5 hb6
      iterate 4 refine Wg.li rfl rfl rfl rfl (fun _ => rfl) ?_
      refine Wg.nil ⟨some_b hv5, ?_, rfl⟩
      repeat (first | exact Env.le_refl _ | refine Env.le_put rfl ?_)
    · have hv5 := iF hv5 hb6
      iterate 3 refine Wg.skip rfl rfl ?_
      refine Wg.li rfl rfl rfl rfl (fun _ => rfl) ?_
      refine Wg.nil ⟨some_b hv5, ?_, rfl⟩
      repeat (first | exact Env.le_refl _ | refine Env.le_put rfl ?_)
    refine Wg.li rfl rfl rfl rfl (fun _ => rfl) ?_
    have hv7 := ifAnd (v4.2.2 && (v4.1 == a2)) (v4.2.1 == a3)
    refine Wg.grp 4 40 36 ((v4.2.2 && (v4.1 == a2)) && (v4.2.1 == a3)) (v4.2.2 && (v4.1 == a2)) rfl rfl (Nat.le_of_ble_eq_true rfl) (fun hb8 => ?_) (fun hb8 => ?_) ?_
    · have hv7 := iT hv7 hb8
      iterate 4 refine Wg.li rfl rfl rfl rfl (fun _ => rfl) ?_
      refine Wg.nil ⟨some_b hv7, ?_, rfl⟩
      repeat (first | exact Env.le_refl _ | refine Env.le_put rfl ?_)
    · have hv7 := iF hv7 hb8
      iterate 3 refine Wg.skip rfl rfl ?_
      refine Wg.li rfl rfl rfl rfl (fun _ => rfl) ?_
      refine Wg.nil ⟨some_b hv7, ?_, rfl⟩
      repeat (first | exact Env.le_refl _ | refine Env.le_put rfl ?_)
    iterate 2 refine Wg.li rfl rfl rfl rfl (fun _ => rfl) ?_
    refine Wg.nil ?_
    refine ⟨fun _ => ?_, fun h => absurd (by decide) h⟩
    refine Wp.ret ?_
    have h := Option.some.inj h
    subst h
    exact ⟨.inr (by decide), _, rfl, rfl⟩
def s71_l10 (N : Nat) (a2 : Int) (v1 : (List Span)) (s2 : Int) : Option ((Int) ⊕ (Unit ⊕ Int)) :=
  if (decide (s2 < (v1.length : Int))) then
    (ix v1 s2).bind fun v6 =>
    if (decide (a2 ≤ v6.high)) then
      (ix v1 s2).bind fun v8 =>
      some (.inr (.inr (mx a2 v8.low)))
    else
      (ck (s2 + 1)).bind fun v9 =>
      some (.inl v9)
  else
    some (.inr (.inl ()))
def s71 (N : Nat) (a0 : Table) (a1 : Int) (a2 : Int) : Option (Int) :=
  (ix a0.offices a1).bind fun v1 =>
  (iter (s71_l10 N a2 v1) N 0).bind fun o3 => match o3 with
  | .inl s11 =>
    some 2880
  | .inr s12 =>
    some s12
abbrev F71 : Fr := { r := false, N := 34, m := 0 }
theorem at71 : ctx.P.funcs[71]? = some Tryd.f71 := by kernel_rfl
theorem s71_ev {N : Nat} {a0 : Table} {a1 : Int} {a2 : Int} {r : Int} (h : s71 N a0 a1 a2 = some r) : ∀ H, Ev ctx (.call 71 [.agg (eTable a0), .int .i64 a1, .int .i64 a2] H (.int .i64 r) H) := by
  refine Ev.of_pure at71 rfl rfl (Nat.le_of_ble_eq_true rfl) (pCons (pv (pTab _)) (pCons (.int _ _) (pCons (.int _ _) pNil))) (.int _ _) ?_
  unfold s71 at h
  refine Wp.seq ?_
  refine Wp.reg rfl ?_
  refine Wg.box rfl rfl rfl rfl ?_
  refine Wg.li rfl rfl rfl rfl (fun _ => rfl) ?_
  refine Wg.nil ?_
  refine ⟨fun _ => ?_, fun h => absurd (by decide) h⟩
  refine Wp.seq ?_
  refine Wp.reg rfl ?_
  iterate 3 refine Wg.li rfl rfl rfl rfl (fun _ => rfl) ?_
  obtain ⟨v1, hv1, h⟩ := ob h
  refine Wg.idx (f := (eLs eSpan)) (xs := a0.offices) (c := .unk) rfl rfl rfl rfl rfl rfl rfl lLs (by decide) hv1 ?_
  iterate 2 refine Wg.li rfl rfl rfl rfl (fun _ => rfl) ?_
  refine Wg.nil ?_
  refine ⟨fun _ => ?_, fun h => absurd (by decide) h⟩
  refine Wp.seq ?_
  refine Wp.seq ?_
  refine Wp.reg rfl ?_
  refine Wg.li rfl rfl rfl rfl (fun _ => rfl) ?_
  refine Wg.nil ?_
  refine ⟨fun _ => ?_, fun h => absurd (by decide) h⟩
  refine Wp.block ?_
  obtain ⟨o3, hx4, h⟩ := ob h
  refine Sub.use (Sub.canon [] [] [(2, .int .i64 a2), (7, lst eSpan v1 .unk), (8, .int .i64 0)] rfl (by decide) trivial (.pure rfl (.int _ _) (.pure rfl (Pure.lst pSpan _ pUnk) (.pure rfl (.int _ _) .nil)))) ?_
  refine Wp.after (Wp.iterS (s71_l10 N a2 v1) (fun s2 => Env.ofList [(2, .int .i64 a2), (7, lst eSpan v1 .unk), (8, .int .i64 s2)]) (fun s2 => hp []) (fun o3 x e' H' => match o3 with | .inl s => x = .exit 0 ∧ Sub ctx F71 (Env.ofList []) (hp []) e' H' | .inr s => x = .ret ∧ ∃ vs, resA ctx e' H' [.tmp 6] = some vs ∧ retA vs = .int .i64 s) ?_ N 0 _ hx4) ?_
  · intro s2 o ho
    unfold s71_l10 at ho
    refine Wp.seq ?_
    refine Wp.seq ?_
    refine Wp.reg rfl ?_
    iterate 4 refine Wg.li rfl rfl rfl rfl (fun _ => rfl) ?_
    refine Wg.nil ?_
    refine ⟨fun _ => ?_, fun h => absurd (by decide) h⟩
    refine Wp.cond (decide (s2 < (v1.length : Int))) rfl (fun hb5 => ?_) (fun hb5 => ?_)
    · have ho := iT ho hb5
      refine Wp.skip ?_
      refine ⟨fun _ => ?_, fun h => absurd (by decide) h⟩
      refine Wp.seq ?_
      refine Wp.block ?_
      refine Wp.seq ?_
      refine Wp.reg rfl ?_
      iterate 3 refine Wg.li rfl rfl rfl rfl (fun _ => rfl) ?_
      obtain ⟨v6, hv6, ho⟩ := ob ho
      refine Wg.idx (f := eSpan) (xs := v1) (c := .unk) rfl rfl rfl rfl rfl rfl rfl lSpan (by decide) hv6 ?_
      iterate 3 refine Wg.li rfl rfl rfl rfl (fun _ => rfl) ?_
      refine Wg.nil ?_
      refine ⟨fun _ => ?_, fun h => absurd (by decide) h⟩
      refine Wp.cond (decide (a2 ≤ v6.high)) rfl (fun hb7 => ?_) (fun hb7 => ?_)
      · have ho := iT ho hb7
        refine Wp.seq ?_
        refine Wp.reg rfl ?_
        iterate 3 refine Wg.li rfl rfl rfl rfl (fun _ => rfl) ?_
        obtain ⟨v8, hv8, ho⟩ := ob ho
        refine Wg.idx (f := eSpan) (xs := v1) (c := .unk) rfl rfl rfl rfl rfl rfl rfl lSpan (by decide) hv8 ?_
        iterate 4 refine Wg.li rfl rfl rfl rfl (fun _ => rfl) ?_
        refine Wg.nil ?_
        refine ⟨fun _ => ?_, fun h => absurd (by decide) h⟩
        refine Wp.ret ?_
        refine ⟨fun h => absurd h (by decide), fun _ => ?_⟩
        have ho := Option.some.inj ho
        subst ho
        exact ⟨by decide, by decide, _, rfl, rfl⟩
      · have ho := iF ho hb7
        refine Wp.skip ?_
        refine ⟨fun _ => ?_, fun h => absurd (by decide) h⟩
        refine Wp.reg rfl ?_
        refine Wg.li rfl rfl rfl rfl (fun _ => rfl) ?_
        obtain ⟨v9, hv9, ho⟩ := ob ho
        refine Wg.bin (k := .i64) (k2 := .i64) (a := s2) (b := 1) rfl rfl rfl rfl rfl (bAdd hv9) ?_
        refine Wg.li rfl rfl rfl rfl (fun _ => rfl) ?_
        refine Wg.nil ?_
        have ho := Option.some.inj ho
        subst ho
        exact ⟨by decide, (Sub.canon [] [] [(2, .int .i64 a2), (7, lst eSpan v1 .unk), (8, .int .i64 v9)] rfl (by decide) trivial (.pure rfl (.int _ _) (.pure rfl (Pure.lst pSpan _ pUnk) (.pure rfl (.int _ _) .nil))))⟩
    · have ho := iF ho hb5
      refine Wp.exit ?_
      refine ⟨fun h => absurd h (by decide), fun _ => ?_⟩
      have ho := Option.some.inj ho
      subst ho
      exact ⟨by decide, by decide, (Sub.canon [] [] [] rfl (by decide) trivial .nil)⟩
  · intro x e' H' hP
    rcases o3 with s11 | s12
    · obtain ⟨hPx, hP2⟩ := hP
      subst hPx
      have hP := And.intro (True.intro) hP2
      refine ⟨fun _ => ?_, fun h => absurd (by decide) h⟩
      refine Sub.use hP.2 ?_
      refine Wp.seq ?_
      refine Wp.reg rfl ?_
      refine Wg.li rfl rfl rfl rfl (fun _ => rfl) ?_
      refine Wg.nil ?_
      refine ⟨fun _ => ?_, fun h => absurd (by decide) h⟩
      refine Wp.ret ?_
      have h := Option.some.inj h
      subst h
      exact ⟨.inr (by decide), _, rfl, rfl⟩
    · have hPx := hP.1
      subst hPx
      refine ⟨fun h => absurd h (by decide), fun _ => ?_⟩
      exact ⟨.inr rfl, by obtain ⟨vs, h1, h2⟩ := hP.2; exact ⟨vs, h1, by rw [h2]; have h := Option.some.inj h; subst h; rfl⟩⟩
def s68_l35 (N : Nat) (a0 : Table) (a1 : (List Leg)) (s7 : Bool × Bool × Int × Span × Span × Span) : Option ((Bool × Bool × Int × Span × Span × Span) ⊕ ((Bool × Bool × Span × Span))) :=
  if (decide (s7.2.2.1 < (a1.length : Int))) then
    (ix a1 s7.2.2.1).bind fun v11 =>
    (if s7.1 then 
      (s72 N a0 v11).bind fun v14 =>
      (s73 N a0 v11).bind fun v15 =>
      (ck (v14.leave + v15.low)).bind fun v16 =>
      some (decide (s7.2.2.2.2.1.high ≤ v16))
     else some false).bind fun v17 =>
    (s73 N a0 v11).bind fun v18 =>
    (s72 N a0 v11).bind fun v19 =>
    (ck (s7.2.2.2.2.1.low - v19.leave)).bind fun v20 =>
    (if s7.2.1 then 
      (s73 N a0 v11).bind fun v23 =>
      some (decide ((mx v18.low v20) ≤ v23.high))
     else some false).bind fun v24 =>
    (s74 N a0 v11).bind fun v25 =>
    (ck (v25.arrive + (mx v18.low v20))).bind fun v26 =>
    (s74 N a0 v11).bind fun v27 =>
    (s73 N a0 v11).bind fun v28 =>
    (ck (v27.arrive + v28.high)).bind fun v29 =>
    (s46 N v26 v29).bind fun v30 =>
    (ck (v30.low + a0.load)).bind fun v31 =>
    (ck (v30.high + a0.load)).bind fun v32 =>
    (s46 N v31 v32).bind fun v33 =>
    (ck (s7.2.2.1 + 1)).bind fun v34 =>
    some (.inl (v17, v24, v34, s7.2.2.2.1, v33, v30))
  else
    some (.inr (s7.1, s7.2.1, s7.2.2.2.1, s7.2.2.2.2.2))
def s68 (N : Nat) (a0 : Table) (a1 : (List Leg)) (a2 : Int) : Option (Span × Bool × Bool) :=
  (s59 N a0 a1).bind fun v1 =>
  (ck (a2 + a0.load)).bind fun v2 =>
  (ck (a2 + a0.load)).bind fun v3 =>
  (s46 N v2 v3).bind fun v4 =>
  (s71 N a0 v1.1 a2).bind fun v5 =>
  (s71 N a0 v1.1 a2).bind fun v6 =>
  (iter (s68_l35 N a0 a1) N ((v5 == a2), (v6 == a2), 0, (Span.mk 0 0), v4, (Span.mk 0 0))).bind fun o8 =>
  some (o8.2.2.2, o8.1, o8.2.1)
abbrev F68 : Fr := { r := false, N := 123, m := 0 }
theorem at68 : ctx.P.funcs[68]? = some Tryd.f68 := by kernel_rfl
theorem s68_ev {N : Nat} {a0 : Table} {a1 : (List Leg)} {a2 : Int} {r : Span × Bool × Bool} (h : s68 N a0 a1 a2 = some r) : ∀ H, Ev ctx (.call 68 [.agg (eTable a0), lst eLeg a1 .unk, .int .i64 a2] H (.tuple [.agg (eSpan r.1), .bool r.2.1, .bool r.2.2]) H) := by
  refine Ev.of_pure at68 rfl rfl (Nat.le_of_ble_eq_true rfl) (pCons (pv (pTab _)) (pCons (Pure.lst pLeg _ pUnk) (pCons (.int _ _) pNil))) (.tuple (pCons (pv (pSpan _)) (pCons (.bool _) (pCons (.bool _) pNil)))) ?_
  unfold s68 at h
  refine Wp.seq ?_
  refine Wp.reg rfl ?_
  refine Wg.box rfl rfl rfl rfl ?_
  refine Wg.alloc rfl rfl rfl rfl ?_
  iterate 2 refine Wg.li rfl rfl rfl rfl (fun _ => rfl) ?_
  refine Wg.nil ?_
  refine ⟨fun _ => ?_, fun h => absurd (by decide) h⟩
  refine Wp.seq ?_
  refine Wp.reg rfl ?_
  iterate 2 refine Wg.li rfl rfl rfl rfl (fun _ => rfl) ?_
  obtain ⟨v1, hv1, h⟩ := ob h
  refine Wg.call rfl rfl rfl rfl (s59_ev hv1 _) ?_
  iterate 7 refine Wg.li rfl rfl rfl rfl (fun _ => rfl) ?_
  refine Wg.nil ?_
  refine ⟨fun _ => ?_, fun h => absurd (by decide) h⟩
  refine Wp.seq ?_
  refine Wp.reg rfl ?_
  iterate 3 refine Wg.li rfl rfl rfl rfl (fun _ => rfl) ?_
  obtain ⟨v2, hv2, h⟩ := ob h
  refine Wg.bin (k := .i64) (k2 := .i64) (a := a2) (b := a0.load) rfl rfl rfl rfl rfl (bAdd hv2) ?_
  iterate 3 refine Wg.li rfl rfl rfl rfl (fun _ => rfl) ?_
  obtain ⟨v3, hv3, h⟩ := ob h
  refine Wg.bin (k := .i64) (k2 := .i64) (a := a2) (b := a0.load) rfl rfl rfl rfl rfl (bAdd hv3) ?_
  obtain ⟨v4, hv4, h⟩ := ob h
  refine Wg.call rfl rfl rfl rfl (s46_ev hv4 _) ?_
  refine Wg.alloc rfl rfl rfl rfl ?_
  refine Wg.heavy true (Nat.le_of_ble_eq_true rfl) rfl rfl rfl rfl ?_
  refine Wg.nil ?_
  refine ⟨fun _ => ?_, fun h => absurd (by decide) h⟩
  refine Wp.seq ?_
  refine Wp.drw _ [0, 6] rfl (by kernel_rfl) (Nat.le_refl _) ?_
  iterate 3 refine Wg.li rfl rfl rfl rfl (fun _ => rfl) ?_
  obtain ⟨v5, hv5, h⟩ := ob h
  refine Wg.call rfl rfl rfl rfl (s71_ev hv5 _) ?_
  iterate 5 refine Wg.li rfl rfl rfl rfl (fun _ => rfl) ?_
  obtain ⟨v6, hv6, h⟩ := ob h
  refine Wg.call rfl rfl rfl rfl (s71_ev hv6 _) ?_
  iterate 4 refine Wg.li rfl rfl rfl rfl (fun _ => rfl) ?_
  refine Wg.nil ?_
  refine ⟨fun _ => ?_, fun h => absurd (by decide) h⟩
  refine Wp.seq ?_
  refine Wp.reg rfl ?_
  refine Wg.alloc rfl rfl rfl rfl ?_
  refine Wg.nil ?_
  refine ⟨fun _ => ?_, fun h => absurd (by decide) h⟩
  refine Wp.seq ?_
  refine Wp.seq ?_
  refine Wp.reg rfl ?_
  refine Wg.li rfl rfl rfl rfl (fun _ => rfl) ?_
  refine Wg.nil ?_
  refine ⟨fun _ => ?_, fun h => absurd (by decide) h⟩
  refine Wp.block ?_
  obtain ⟨o8, hx9, h⟩ := ob h
  refine Sub.use (Sub.canon [some 0, some 1, some 2] [.cells (eSpan (Span.mk 0 0)), .cells (eSpan v4), .cells (eSpan (Span.mk 0 0))] [(1, lst eLeg a1 .unk), (3, .ro (eTable a0)), (6, .ptr 0 0), (12, .ptr 1 0), (13, .bool (v5 == a2)), (14, .bool (v6 == a2)), (15, .ptr 2 0), (16, .int .i64 0)] rfl (by decide) ⟨.pure rfl (pSpan _), .pure rfl (pSpan _), .pure rfl (pSpan _), trivial⟩ (.pure rfl (Pure.lst pLeg _ pUnk) (.pure rfl (.ro (pTab _)) (.ptr rfl rfl (.ptr rfl rfl (.pure rfl (.bool _) (.pure rfl (.bool _) (.ptr rfl rfl (.pure rfl (.int _ _) .nil))))))))) ?_
  refine Wp.after (Wp.iterS (s68_l35 N a0 a1) (fun s7 => Env.ofList [(1, lst eLeg a1 .unk), (3, .ro (eTable a0)), (6, .ptr 0 0), (12, .ptr 1 0), (13, .bool s7.1), (14, .bool s7.2.1), (15, .ptr 2 0), (16, .int .i64 s7.2.2.1)]) (fun s7 => hp [.cells (eSpan s7.2.2.2.1), .cells (eSpan s7.2.2.2.2.1), .cells (eSpan s7.2.2.2.2.2)]) (fun o8 x e' H' => x = .exit 0 ∧ Sub ctx F68 (Env.ofList [(6, .ptr 0 0), (13, .bool o8.1), (14, .bool o8.2.1), (15, .ptr 1 0)]) (hp [.cells (eSpan o8.2.2.1), .cells (eSpan o8.2.2.2)]) e' H') ?_ N ((v5 == a2), (v6 == a2), 0, (Span.mk 0 0), v4, (Span.mk 0 0)) _ hx9) ?_
  · intro s7 o ho
    unfold s68_l35 at ho
    refine Wp.seq ?_
    refine Wp.seq ?_
    refine Wp.reg rfl ?_
    iterate 4 refine Wg.li rfl rfl rfl rfl (fun _ => rfl) ?_
    refine Wg.nil ?_
    refine ⟨fun _ => ?_, fun h => absurd (by decide) h⟩
    refine Wp.cond (decide (s7.2.2.1 < (a1.length : Int))) rfl (fun hb10 => ?_) (fun hb10 => ?_)
    · have ho := iT ho hb10
      refine Wp.skip ?_
      refine ⟨fun _ => ?_, fun h => absurd (by decide) h⟩
      refine Wp.seq ?_
      refine Wp.block ?_
      refine Wp.seq ?_
      refine Wp.reg rfl ?_
      iterate 2 refine Wg.li rfl rfl rfl rfl (fun _ => rfl) ?_
      obtain ⟨v11, hv11, ho⟩ := ob ho
      refine Wg.idx (f := eLeg) (xs := a1) (c := .unk) rfl rfl rfl rfl rfl rfl rfl lLeg (by decide) hv11 ?_
      refine Wg.li rfl rfl rfl rfl (fun _ => rfl) ?_
      refine Wg.alloc rfl rfl rfl rfl ?_
      refine Wg.heavy true (Nat.le_of_ble_eq_true rfl) rfl rfl rfl rfl ?_
      refine Wg.nil ?_
      refine ⟨fun _ => ?_, fun h => absurd (by decide) h⟩
      refine Wp.seq ?_
      refine Wp.drw _ [4, 8] rfl (by kernel_rfl) (Nat.le_refl _) ?_
      iterate 2 refine Wg.li rfl rfl rfl rfl (fun _ => rfl) ?_
      obtain ⟨v17, hv12, ho⟩ := ob ho
      refine Wg.grp 13 71 58 v17 s7.1 rfl rfl (Nat.le_of_ble_eq_true rfl) (fun hb13 => ?_) (fun hb13 => ?_) ?_
      · have hv12 := iT hv12 hb13
        refine Wg.li rfl rfl rfl rfl (fun _ => rfl) ?_
        refine Wg.ld rfl rfl rfl rfl rfl rfl ?_
        refine Wg.li rfl rfl rfl rfl (fun _ => rfl) ?_
        refine Wg.ld rfl rfl rfl rfl rfl rfl ?_
        obtain ⟨v14, hv14, hv12⟩ := ob hv12
        refine Wg.call rfl rfl rfl rfl (s72_ev hv14 _) ?_
        iterate 2 refine Wg.li rfl rfl rfl rfl (fun _ => rfl) ?_
        refine Wg.ld rfl rfl rfl rfl rfl rfl ?_
        obtain ⟨v15, hv15, hv12⟩ := ob hv12
        refine Wg.call rfl rfl rfl rfl (s73_ev hv15 _) ?_
        refine Wg.li rfl rfl rfl rfl (fun _ => rfl) ?_
        obtain ⟨v16, hv16, hv12⟩ := ob hv12
        refine Wg.bin (k := .i64) (k2 := .i64) (a := v14.leave) (b := v15.low) rfl rfl rfl rfl rfl (bAdd hv16) ?_
        iterate 2 refine Wg.li rfl rfl rfl rfl (fun _ => rfl) ?_
        refine Wg.nil ⟨some_b hv12, ?_, rfl⟩
        repeat (first | exact Env.le_refl _ | refine Env.le_put rfl ?_)
      · have hv12 := iF hv12 hb13
        iterate 12 refine Wg.skip rfl rfl ?_
        refine Wg.li rfl rfl rfl rfl (fun _ => rfl) ?_
        refine Wg.nil ⟨some_b hv12, ?_, rfl⟩
        repeat (first | exact Env.le_refl _ | refine Env.le_put rfl ?_)
      refine Wg.li rfl rfl rfl rfl (fun _ => rfl) ?_
      refine Wg.nil ?_
      refine ⟨fun _ => ?_, fun h => absurd (by decide) h⟩
      refine Wp.seq ?_
      refine Wp.drw _ [0, 6] rfl (by kernel_rfl) (Nat.le_refl _) ?_
      refine Wg.li rfl rfl rfl rfl (fun _ => rfl) ?_
      refine Wg.ld rfl rfl rfl rfl rfl rfl ?_
      obtain ⟨v18, hv18, ho⟩ := ob ho
      refine Wg.call rfl rfl rfl rfl (s73_ev hv18 _) ?_
      iterate 2 refine Wg.li rfl rfl rfl rfl (fun _ => rfl) ?_
      refine Wg.ld rfl rfl rfl rfl rfl rfl ?_
      refine Wg.li rfl rfl rfl rfl (fun _ => rfl) ?_
      refine Wg.ld rfl rfl rfl rfl rfl rfl ?_
      obtain ⟨v19, hv19, ho⟩ := ob ho
      refine Wg.call rfl rfl rfl rfl (s72_ev hv19 _) ?_
      refine Wg.li rfl rfl rfl rfl (fun _ => rfl) ?_
      obtain ⟨v20, hv20, ho⟩ := ob ho
      refine Wg.bin (k := .i64) (k2 := .i64) (a := s7.2.2.2.2.1.low) (b := v19.leave) rfl rfl rfl rfl rfl (bSub hv20) ?_
      iterate 2 refine Wg.li rfl rfl rfl rfl (fun _ => rfl) ?_
      refine Wg.nil ?_
      refine ⟨fun _ => ?_, fun h => absurd (by decide) h⟩
      refine Wp.seq ?_
      refine Wp.reg rfl ?_
      iterate 2 refine Wg.li rfl rfl rfl rfl (fun _ => rfl) ?_
      obtain ⟨v24, hv21, ho⟩ := ob ho
      refine Wg.grp 7 92 85 v24 s7.2.1 rfl rfl (Nat.le_of_ble_eq_true rfl) (fun hb22 => ?_) (fun hb22 => ?_) ?_
      · have hv21 := iT hv21 hb22
        iterate 2 refine Wg.li rfl rfl rfl rfl (fun _ => rfl) ?_
        refine Wg.ld rfl rfl rfl rfl rfl rfl ?_
        obtain ⟨v23, hv23, hv21⟩ := ob hv21
        refine Wg.call rfl rfl rfl rfl (s73_ev hv23 _) ?_
        iterate 3 refine Wg.li rfl rfl rfl rfl (fun _ => rfl) ?_
        refine Wg.nil ⟨some_b hv21, ?_, rfl⟩
        repeat (first | exact Env.le_refl _ | refine Env.le_put rfl ?_)
      · have hv21 := iF hv21 hb22
        iterate 6 refine Wg.skip rfl rfl ?_
        refine Wg.li rfl rfl rfl rfl (fun _ => rfl) ?_
        refine Wg.nil ⟨some_b hv21, ?_, rfl⟩
        repeat (first | exact Env.le_refl _ | refine Env.le_put rfl ?_)
      refine Wg.li rfl rfl rfl rfl (fun _ => rfl) ?_
      refine Wg.nil ?_
      refine ⟨fun _ => ?_, fun h => absurd (by decide) h⟩
      refine Wp.seq ?_
      refine Wp.drw _ [0, 6, 10] rfl (by kernel_rfl) (Nat.le_refl _) ?_
      refine Wg.li rfl rfl rfl rfl (fun _ => rfl) ?_
      refine Wg.ld rfl rfl rfl rfl rfl rfl ?_
      obtain ⟨v25, hv25, ho⟩ := ob ho
      refine Wg.call rfl rfl rfl rfl (s74_ev hv25 _) ?_
      iterate 2 refine Wg.li rfl rfl rfl rfl (fun _ => rfl) ?_
      obtain ⟨v26, hv26, ho⟩ := ob ho
      refine Wg.bin (k := .i64) (k2 := .i64) (a := v25.arrive) (b := (mx v18.low v20)) rfl rfl rfl rfl rfl (bAdd hv26) ?_
      refine Wg.li rfl rfl rfl rfl (fun _ => rfl) ?_
      refine Wg.ld rfl rfl rfl rfl rfl rfl ?_
      obtain ⟨v27, hv27, ho⟩ := ob ho
      refine Wg.call rfl rfl rfl rfl (s74_ev hv27 _) ?_
      iterate 2 refine Wg.li rfl rfl rfl rfl (fun _ => rfl) ?_
      refine Wg.ld rfl rfl rfl rfl rfl rfl ?_
      obtain ⟨v28, hv28, ho⟩ := ob ho
      refine Wg.call rfl rfl rfl rfl (s73_ev hv28 _) ?_
      refine Wg.li rfl rfl rfl rfl (fun _ => rfl) ?_
      obtain ⟨v29, hv29, ho⟩ := ob ho
      refine Wg.bin (k := .i64) (k2 := .i64) (a := v27.arrive) (b := v28.high) rfl rfl rfl rfl rfl (bAdd hv29) ?_
      obtain ⟨v30, hv30, ho⟩ := ob ho
      refine Wg.call rfl rfl rfl rfl (s46_ev hv30 _) ?_
      refine Wg.heavy true (Nat.le_of_ble_eq_true rfl) rfl rfl rfl rfl ?_
      refine Wg.nil ?_
      refine ⟨fun _ => ?_, fun h => absurd (by decide) h⟩
      refine Wp.reg rfl ?_
      refine Wg.li rfl rfl rfl rfl (fun _ => rfl) ?_
      refine Wg.ld rfl rfl rfl rfl rfl rfl ?_
      iterate 2 refine Wg.li rfl rfl rfl rfl (fun _ => rfl) ?_
      obtain ⟨v31, hv31, ho⟩ := ob ho
      refine Wg.bin (k := .i64) (k2 := .i64) (a := v30.low) (b := a0.load) rfl rfl rfl rfl rfl (bAdd hv31) ?_
      refine Wg.li rfl rfl rfl rfl (fun _ => rfl) ?_
      refine Wg.ld rfl rfl rfl rfl rfl rfl ?_
      iterate 2 refine Wg.li rfl rfl rfl rfl (fun _ => rfl) ?_
      obtain ⟨v32, hv32, ho⟩ := ob ho
      refine Wg.bin (k := .i64) (k2 := .i64) (a := v30.high) (b := a0.load) rfl rfl rfl rfl rfl (bAdd hv32) ?_
      obtain ⟨v33, hv33, ho⟩ := ob ho
      refine Wg.call rfl rfl rfl rfl (s46_ev hv33 _) ?_
      refine Wg.heavy true (Nat.le_of_ble_eq_true rfl) rfl rfl rfl rfl ?_
      refine Wg.nil ?_
      refine ⟨fun _ => ?_, fun h => absurd (by decide) h⟩
      refine Wp.reg rfl ?_
      refine Wg.li rfl rfl rfl rfl (fun _ => rfl) ?_
      obtain ⟨v34, hv34, ho⟩ := ob ho
      refine Wg.bin (k := .i64) (k2 := .i64) (a := s7.2.2.1) (b := 1) rfl rfl rfl rfl rfl (bAdd hv34) ?_
      refine Wg.li rfl rfl rfl rfl (fun _ => rfl) ?_
      refine Wg.nil ?_
      have ho := Option.some.inj ho
      subst ho
      exact ⟨by decide, (Sub.canon [some 0, some 1, some 2] [.cells (eSpan s7.2.2.2.1), .cells (eSpan v33), .cells (eSpan v30)] [(1, lst eLeg a1 .unk), (3, .ro (eTable a0)), (6, .ptr 0 0), (12, .ptr 1 0), (13, .bool v17), (14, .bool v24), (15, .ptr 2 0), (16, .int .i64 v34)] rfl (by decide) ⟨.pure rfl (pSpan _), .pure rfl (pSpan _), .pure rfl (pSpan _), trivial⟩ (.pure rfl (Pure.lst pLeg _ pUnk) (.pure rfl (.ro (pTab _)) (.ptr rfl rfl (.ptr rfl rfl (.pure rfl (.bool _) (.pure rfl (.bool _) (.ptr rfl rfl (.pure rfl (.int _ _) .nil)))))))))⟩
    · have ho := iF ho hb10
      refine Wp.exit ?_
      refine ⟨fun h => absurd h (by decide), fun _ => ?_⟩
      have ho := Option.some.inj ho
      subst ho
      exact ⟨by decide, by decide, (Sub.canon [some 0, some 2] [.cells (eSpan s7.2.2.2.1), .cells (eSpan s7.2.2.2.2.2)] [(6, .ptr 0 0), (13, .bool s7.1), (14, .bool s7.2.1), (15, .ptr 1 0)] rfl (by decide) ⟨.pure rfl (pSpan _), .pure rfl (pSpan _), trivial⟩ (.ptr rfl rfl (.pure rfl (.bool _) (.pure rfl (.bool _) (.ptr rfl rfl .nil)))))⟩
  · intro x e' H' hP
    obtain ⟨hPx, hP2⟩ := hP
    subst hPx
    have hP := And.intro (True.intro) hP2
    refine ⟨fun _ => ?_, fun h => absurd (by decide) h⟩
    refine Sub.use hP.2 ?_
    refine Wp.seq ?_
    refine Wp.reg rfl ?_
    refine Wg.ld rfl rfl rfl rfl rfl rfl ?_
    iterate 2 refine Wg.li rfl rfl rfl rfl (fun _ => rfl) ?_
    refine Wg.heavy true (Nat.le_of_ble_eq_true rfl) rfl rfl rfl rfl ?_
    iterate 2 refine Wg.li rfl rfl rfl rfl (fun _ => rfl) ?_
    refine Wg.nil ?_
    refine ⟨fun _ => ?_, fun h => absurd (by decide) h⟩
    refine Wp.ret ?_
    have h := Option.some.inj h
    subst h
    exact ⟨.inr (by decide), _, rfl, rfl⟩
def s17 (N : Nat) (a0 : Table) (a1 : (List Leg)) (a2 : Int) : Option (Int × Int) :=
  (s15 N a0).bind fun v1 =>
  if (!(v1 == 0)) then
    some (0, v1)
  else
    (s66 N a0 a1).bind fun v3 =>
    (if (!v3) then some true else 
      (s67 N a2).bind fun v6 =>
      some (!v6)).bind fun v7 =>
    if v7 then
      some (0, 31)
    else
      (s68 N a0 a1 a2).bind fun v9 =>
      if v9.2.1 then
        some (2, 0)
      else
        if v9.2.2 then
          some (1, 0)
        else
          some (0, 0)
abbrev F17 : Fr := { r := false, N := 38, m := 0 }
theorem at17 : ctx.P.funcs[17]? = some Tryd.f17 := by kernel_rfl
theorem s17_ev {N : Nat} {a0 : Table} {a1 : (List Leg)} {a2 : Int} {r : Int × Int} (h : s17 N a0 a1 a2 = some r) : ∀ H, Ev ctx (.call 17 [.agg (eTable a0), lst eLeg a1 .unk, .int .i64 a2] H (.tuple [.int .i64 r.1, .int .i64 r.2]) H) := by
  refine Ev.of_pure at17 rfl rfl (Nat.le_of_ble_eq_true rfl) (pCons (pv (pTab _)) (pCons (Pure.lst pLeg _ pUnk) (pCons (.int _ _) pNil))) (.tuple (pCons (.int _ _) (pCons (.int _ _) pNil))) ?_
  unfold s17 at h
  refine Wp.seq ?_
  refine Wp.reg rfl ?_
  refine Wg.box rfl rfl rfl rfl ?_
  iterate 2 refine Wg.li rfl rfl rfl rfl (fun _ => rfl) ?_
  refine Wg.nil ?_
  refine ⟨fun _ => ?_, fun h => absurd (by decide) h⟩
  refine Wp.seq ?_
  refine Wp.seq ?_
  refine Wp.reg rfl ?_
  refine Wg.li rfl rfl rfl rfl (fun _ => rfl) ?_
  obtain ⟨v1, hv1, h⟩ := ob h
  refine Wg.call rfl rfl rfl rfl (s15_ev hv1 _) ?_
  refine Wg.li rfl rfl rfl rfl (fun _ => rfl) ?_
  refine Wg.nil ?_
  refine ⟨fun _ => ?_, fun h => absurd (by decide) h⟩
  refine Wp.seq ?_
  refine Wp.reg rfl ?_
  iterate 2 refine Wg.li rfl rfl rfl rfl (fun _ => rfl) ?_
  refine Wg.nil ?_
  refine ⟨fun _ => ?_, fun h => absurd (by decide) h⟩
  refine Wp.cond (!(v1 == 0)) rfl (fun hb2 => ?_) (fun hb2 => ?_)
  · have h := iT h hb2
    refine Wp.seq ?_
    refine Wp.reg rfl ?_
    iterate 3 refine Wg.li rfl rfl rfl rfl (fun _ => rfl) ?_
    refine Wg.nil ?_
    refine ⟨fun _ => ?_, fun h => absurd (by decide) h⟩
    refine Wp.ret ?_
    refine ⟨fun h => absurd h (by decide), fun _ => ?_⟩
    have h := Option.some.inj h
    subst h
    exact ⟨.inr (by decide), _, rfl, rfl⟩
  · have h := iF h hb2
    refine Wp.skip ?_
    refine ⟨fun _ => ?_, fun h => absurd (by decide) h⟩
    refine Wp.seq ?_
    refine Wp.seq ?_
    refine Wp.reg rfl ?_
    iterate 2 refine Wg.li rfl rfl rfl rfl (fun _ => rfl) ?_
    obtain ⟨v3, hv3, h⟩ := ob h
    refine Wg.call rfl rfl rfl rfl (s66_ev hv3 _) ?_
    iterate 2 refine Wg.li rfl rfl rfl rfl (fun _ => rfl) ?_
    obtain ⟨v7, hv4, h⟩ := ob h
    refine Wg.grp 4 25 21 v7 (!v3) rfl rfl (Nat.le_of_ble_eq_true rfl) (fun hb5 => ?_) (fun hb5 => ?_) ?_
    · have hv4 := iT hv4 hb5
      iterate 3 refine Wg.skip rfl rfl ?_
      refine Wg.li rfl rfl rfl rfl (fun _ => rfl) ?_
      refine Wg.nil ⟨some_b hv4, ?_, rfl⟩
      repeat (first | exact Env.le_refl _ | refine Env.le_put rfl ?_)
    · have hv4 := iF hv4 hb5
      refine Wg.li rfl rfl rfl rfl (fun _ => rfl) ?_
      obtain ⟨v6, hv6, hv4⟩ := ob hv4
      refine Wg.call rfl rfl rfl rfl (s67_ev hv6 _) ?_
      iterate 2 refine Wg.li rfl rfl rfl rfl (fun _ => rfl) ?_
      refine Wg.nil ⟨some_b hv4, ?_, rfl⟩
      repeat (first | exact Env.le_refl _ | refine Env.le_put rfl ?_)
    refine Wg.nil ?_
    refine ⟨fun _ => ?_, fun h => absurd (by decide) h⟩
    refine Wp.cond v7 rfl (fun hb8 => ?_) (fun hb8 => ?_)
    · have h := iT h hb8
      refine Wp.seq ?_
      refine Wp.reg rfl ?_
      iterate 2 refine Wg.li rfl rfl rfl rfl (fun _ => rfl) ?_
      refine Wg.nil ?_
      refine ⟨fun _ => ?_, fun h => absurd (by decide) h⟩
      refine Wp.ret ?_
      refine ⟨fun h => absurd h (by decide), fun _ => ?_⟩
      have h := Option.some.inj h
      subst h
      exact ⟨.inr (by decide), _, rfl, rfl⟩
    · have h := iF h hb8
      refine Wp.skip ?_
      refine ⟨fun _ => ?_, fun h => absurd (by decide) h⟩
      refine Wp.seq ?_
      refine Wp.reg rfl ?_
      iterate 3 refine Wg.li rfl rfl rfl rfl (fun _ => rfl) ?_
      obtain ⟨v9, hv9, h⟩ := ob h
      refine Wg.call rfl rfl rfl rfl (s68_ev hv9 _) ?_
      iterate 4 refine Wg.li rfl rfl rfl rfl (fun _ => rfl) ?_
      refine Wg.alloc rfl rfl rfl rfl ?_
      refine Wg.heavy true (Nat.le_of_ble_eq_true rfl) rfl rfl rfl rfl ?_
      iterate 2 refine Wg.li rfl rfl rfl rfl (fun _ => rfl) ?_
      refine Wg.nil ?_
      refine ⟨fun _ => ?_, fun h => absurd (by decide) h⟩
      refine Wp.seq ?_
      refine Wp.block ?_
      refine Wp.seq ?_
      refine Wp.reg rfl ?_
      iterate 2 refine Wg.li rfl rfl rfl rfl (fun _ => rfl) ?_
      refine Wg.nil ?_
      refine ⟨fun _ => ?_, fun h => absurd (by decide) h⟩
      refine Wp.cond v9.2.1 rfl (fun hb10 => ?_) (fun hb10 => ?_)
      · have h := iT h hb10
        refine Wp.seq ?_
        refine Wp.reg rfl ?_
        iterate 2 refine Wg.li rfl rfl rfl rfl (fun _ => rfl) ?_
        refine Wg.nil ?_
        refine ⟨fun _ => ?_, fun h => absurd (by decide) h⟩
        refine Wp.ret ?_
        refine ⟨fun h => absurd h (by decide), fun _ => ?_⟩
        have h := Option.some.inj h
        subst h
        exact ⟨.inr (by decide), _, rfl, rfl⟩
      · have h := iF h hb10
        refine Wp.seq ?_
        refine Wp.reg rfl ?_
        iterate 2 refine Wg.li rfl rfl rfl rfl (fun _ => rfl) ?_
        refine Wg.nil ?_
        refine ⟨fun _ => ?_, fun h => absurd (by decide) h⟩
        refine Wp.cond v9.2.2 rfl (fun hb11 => ?_) (fun hb11 => ?_)
        · have h := iT h hb11
          refine Wp.seq ?_
          refine Wp.reg rfl ?_
          iterate 2 refine Wg.li rfl rfl rfl rfl (fun _ => rfl) ?_
          refine Wg.nil ?_
          refine ⟨fun _ => ?_, fun h => absurd (by decide) h⟩
          refine Wp.ret ?_
          refine ⟨fun h => absurd h (by decide), fun _ => ?_⟩
          have h := Option.some.inj h
          subst h
          exact ⟨.inr (by decide), _, rfl, rfl⟩
        · have h := iF h hb11
          refine Wp.skip ?_
          refine ⟨fun _ => ?_, fun h => absurd (by decide) h⟩
          refine Wp.seq ?_
          refine Wp.reg rfl ?_
          iterate 2 refine Wg.li rfl rfl rfl rfl (fun _ => rfl) ?_
          refine Wg.nil ?_
          refine ⟨fun _ => ?_, fun h => absurd (by decide) h⟩
          refine Wp.ret ?_
          have h := Option.some.inj h
          subst h
          exact ⟨.inr (by decide), _, rfl, rfl⟩
def s19_l33 (N : Nat) (a0 : Table) (a1 : (List Leg)) (s13 : (List Int) × Int × Int) : Option (((List Int) × Int × Int) ⊕ ((List Int))) :=
  if (decide (s13.2.2 < (a1.length : Int))) then
    (ix a1 s13.2.2).bind fun v17 =>
    (s72 N a0 v17).bind fun v18 =>
    (ix a1 s13.2.2).bind fun v19 =>
    (s73 N a0 v19).bind fun v20 =>
    (ck (v18.leave + v20.low)).bind fun v21 =>
    (if (decide (s13.2.1 > v21)) then
      (ap 8 s13.1 ([s13.2.2])).bind fun v25 =>
      some v25
    else
      some s13.1).bind fun o22 =>
    (ix a1 s13.2.2).bind fun v26 =>
    (s74 N a0 v26).bind fun v27 =>
    (ix a1 s13.2.2).bind fun v28 =>
    (s73 N a0 v28).bind fun v29 =>
    (ck (v27.arrive + v29.high)).bind fun v30 =>
    (ck (v30 + a0.load)).bind fun v31 =>
    (ck (s13.2.2 + 1)).bind fun v32 =>
    some (.inl (o22, v31, v32))
  else
    some (.inr s13.1)
def s19 (N : Nat) (a0 : Table) (a1 : (List Leg)) (a2 : Int) : Option ((List Int) × Int) :=
  (s15 N a0).bind fun v1 =>
  if (!(v1 == 0)) then
    some ([], v1)
  else
    (s66 N a0 a1).bind fun v3 =>
    (if (!v3) then some true else 
      (s67 N a2).bind fun v6 =>
      some (!v6)).bind fun v7 =>
    if v7 then
      some ([], 31)
    else
      (s59 N a0 a1).bind fun v9 =>
      (s71 N a0 v9.1 a2).bind fun v10 =>
      if (!(v10 == a2)) then
        some ([], 4)
      else
        (ck (a2 + a0.load)).bind fun v12 =>
        (iter (s19_l33 N a0 a1) N ([], v12, 0)).bind fun o14 =>
        some (o14, 0)
abbrev F19 : Fr := { r := false, N := 92, m := 0 }
theorem at19 : ctx.P.funcs[19]? = some Tryd.f19 := by kernel_rfl
theorem s19_ev {N : Nat} {a0 : Table} {a1 : (List Leg)} {a2 : Int} {r : (List Int) × Int} (h : s19 N a0 a1 a2 = some r) : ∀ H, Ev ctx (.call 19 [.agg (eTable a0), lst eLeg a1 .unk, .int .i64 a2] H (.tuple [lst eInt r.1 .unk, .int .i64 r.2]) H) := by
  refine Ev.of_pure at19 rfl rfl (Nat.le_of_ble_eq_true rfl) (pCons (pv (pTab _)) (pCons (Pure.lst pLeg _ pUnk) (pCons (.int _ _) pNil))) (.tuple (pCons (Pure.lst pInt _ pUnk) (pCons (.int _ _) pNil))) ?_
  unfold s19 at h
  refine Wp.seq ?_
  refine Wp.reg rfl ?_
  refine Wg.box rfl rfl rfl rfl ?_
  iterate 2 refine Wg.li rfl rfl rfl rfl (fun _ => rfl) ?_
  refine Wg.nil ?_
  refine ⟨fun _ => ?_, fun h => absurd (by decide) h⟩
  refine Wp.seq ?_
  refine Wp.seq ?_
  refine Wp.reg rfl ?_
  refine Wg.li rfl rfl rfl rfl (fun _ => rfl) ?_
  obtain ⟨v1, hv1, h⟩ := ob h
  refine Wg.call rfl rfl rfl rfl (s15_ev hv1 _) ?_
  refine Wg.li rfl rfl rfl rfl (fun _ => rfl) ?_
  refine Wg.nil ?_
  refine ⟨fun _ => ?_, fun h => absurd (by decide) h⟩
  refine Wp.seq ?_
  refine Wp.reg rfl ?_
  iterate 2 refine Wg.li rfl rfl rfl rfl (fun _ => rfl) ?_
  refine Wg.nil ?_
  refine ⟨fun _ => ?_, fun h => absurd (by decide) h⟩
  refine Wp.cond (!(v1 == 0)) rfl (fun hb2 => ?_) (fun hb2 => ?_)
  · have h := iT h hb2
    refine Wp.seq ?_
    refine Wp.reg rfl ?_
    iterate 3 refine Wg.li rfl rfl rfl rfl (fun _ => rfl) ?_
    refine Wg.nil ?_
    refine ⟨fun _ => ?_, fun h => absurd (by decide) h⟩
    refine Sub.use (Sub.canon [] [] [(6, lst eInt [] .unk), (7, .int .i64 v1)] rfl (by decide) trivial (.unk (c := .full) rfl pInt (.pure rfl (.int _ _) .nil))) ?_
    refine Wp.ret ?_
    refine ⟨fun h => absurd h (by decide), fun _ => ?_⟩
    have h := Option.some.inj h
    subst h
    exact ⟨.inr (by decide), _, rfl, rfl⟩
  · have h := iF h hb2
    refine Wp.skip ?_
    refine ⟨fun _ => ?_, fun h => absurd (by decide) h⟩
    refine Wp.seq ?_
    refine Wp.seq ?_
    refine Wp.reg rfl ?_
    iterate 2 refine Wg.li rfl rfl rfl rfl (fun _ => rfl) ?_
    obtain ⟨v3, hv3, h⟩ := ob h
    refine Wg.call rfl rfl rfl rfl (s66_ev hv3 _) ?_
    iterate 2 refine Wg.li rfl rfl rfl rfl (fun _ => rfl) ?_
    obtain ⟨v7, hv4, h⟩ := ob h
    refine Wg.grp 4 28 24 v7 (!v3) rfl rfl (Nat.le_of_ble_eq_true rfl) (fun hb5 => ?_) (fun hb5 => ?_) ?_
    · have hv4 := iT hv4 hb5
      iterate 3 refine Wg.skip rfl rfl ?_
      refine Wg.li rfl rfl rfl rfl (fun _ => rfl) ?_
      refine Wg.nil ⟨some_b hv4, ?_, rfl⟩
      repeat (first | exact Env.le_refl _ | refine Env.le_put rfl ?_)
    · have hv4 := iF hv4 hb5
      refine Wg.li rfl rfl rfl rfl (fun _ => rfl) ?_
      obtain ⟨v6, hv6, hv4⟩ := ob hv4
      refine Wg.call rfl rfl rfl rfl (s67_ev hv6 _) ?_
      iterate 2 refine Wg.li rfl rfl rfl rfl (fun _ => rfl) ?_
      refine Wg.nil ⟨some_b hv4, ?_, rfl⟩
      repeat (first | exact Env.le_refl _ | refine Env.le_put rfl ?_)
    refine Wg.nil ?_
    refine ⟨fun _ => ?_, fun h => absurd (by decide) h⟩
    refine Wp.cond v7 rfl (fun hb8 => ?_) (fun hb8 => ?_)
    · have h := iT h hb8
      refine Wp.seq ?_
      refine Wp.reg rfl ?_
      iterate 2 refine Wg.li rfl rfl rfl rfl (fun _ => rfl) ?_
      refine Wg.nil ?_
      refine ⟨fun _ => ?_, fun h => absurd (by decide) h⟩
      refine Sub.use (Sub.canon [] [] [(6, lst eInt [] .unk), (7, .int .i64 31)] rfl (by decide) trivial (.unk (c := .full) rfl pInt (.pure rfl (.int _ _) .nil))) ?_
      refine Wp.ret ?_
      refine ⟨fun h => absurd h (by decide), fun _ => ?_⟩
      have h := Option.some.inj h
      subst h
      exact ⟨.inr (by decide), _, rfl, rfl⟩
    · have h := iF h hb8
      refine Wp.skip ?_
      refine ⟨fun _ => ?_, fun h => absurd (by decide) h⟩
      refine Wp.seq ?_
      refine Wp.seq ?_
      refine Wp.reg rfl ?_
      iterate 2 refine Wg.li rfl rfl rfl rfl (fun _ => rfl) ?_
      obtain ⟨v9, hv9, h⟩ := ob h
      refine Wg.call rfl rfl rfl rfl (s59_ev hv9 _) ?_
      iterate 7 refine Wg.li rfl rfl rfl rfl (fun _ => rfl) ?_
      refine Wg.nil ?_
      refine ⟨fun _ => ?_, fun h => absurd (by decide) h⟩
      refine Wp.seq ?_
      refine Wp.reg rfl ?_
      iterate 3 refine Wg.li rfl rfl rfl rfl (fun _ => rfl) ?_
      obtain ⟨v10, hv10, h⟩ := ob h
      refine Wg.call rfl rfl rfl rfl (s71_ev hv10 _) ?_
      iterate 2 refine Wg.li rfl rfl rfl rfl (fun _ => rfl) ?_
      refine Wg.nil ?_
      refine ⟨fun _ => ?_, fun h => absurd (by decide) h⟩
      refine Wp.cond (!(v10 == a2)) rfl (fun hb11 => ?_) (fun hb11 => ?_)
      · have h := iT h hb11
        refine Wp.seq ?_
        refine Wp.reg rfl ?_
        iterate 2 refine Wg.li rfl rfl rfl rfl (fun _ => rfl) ?_
        refine Wg.nil ?_
        refine ⟨fun _ => ?_, fun h => absurd (by decide) h⟩
        refine Sub.use (Sub.canon [] [] [(6, lst eInt [] .unk), (7, .int .i64 4)] rfl (by decide) trivial (.unk (c := .full) rfl pInt (.pure rfl (.int _ _) .nil))) ?_
        refine Wp.ret ?_
        refine ⟨fun h => absurd h (by decide), fun _ => ?_⟩
        have h := Option.some.inj h
        subst h
        exact ⟨.inr (by decide), _, rfl, rfl⟩
      · have h := iF h hb11
        refine Wp.skip ?_
        refine ⟨fun _ => ?_, fun h => absurd (by decide) h⟩
        refine Wp.seq ?_
        refine Wp.reg rfl ?_
        refine Wg.li rfl rfl rfl rfl (fun _ => rfl) ?_
        refine Wg.nil ?_
        refine ⟨fun _ => ?_, fun h => absurd (by decide) h⟩
        refine Wp.seq ?_
        refine Wp.reg rfl ?_
        iterate 3 refine Wg.li rfl rfl rfl rfl (fun _ => rfl) ?_
        obtain ⟨v12, hv12, h⟩ := ob h
        refine Wg.bin (k := .i64) (k2 := .i64) (a := a2) (b := a0.load) rfl rfl rfl rfl rfl (bAdd hv12) ?_
        refine Wg.li rfl rfl rfl rfl (fun _ => rfl) ?_
        refine Wg.nil ?_
        refine ⟨fun _ => ?_, fun h => absurd (by decide) h⟩
        refine Wp.seq ?_
        refine Wp.seq ?_
        refine Wp.reg rfl ?_
        refine Wg.li rfl rfl rfl rfl (fun _ => rfl) ?_
        refine Wg.nil ?_
        refine ⟨fun _ => ?_, fun h => absurd (by decide) h⟩
        refine Wp.block ?_
        obtain ⟨o14, hx15, h⟩ := ob h
        refine Sub.use (Sub.canon [none] [.gone] [(1, lst eLeg a1 .unk), (3, .ro (eTable a0)), (12, lst eInt [] (capT [] 0)), (13, .int .i64 v12), (14, .int .i64 0)] rfl (by decide) trivial (.pure rfl (Pure.lst pLeg _ pUnk) (.pure rfl (.ro (pTab _)) (.grow0 rfl (.pure rfl (.int _ _) (.pure rfl (.int _ _) .nil)))))) ?_
        refine Wp.after (Wp.iterS (s19_l33 N a0 a1) (fun s13 => Env.ofList [(1, lst eLeg a1 .unk), (3, .ro (eTable a0)), (12, lst eInt s13.1 (capT s13.1 0)), (13, .int .i64 s13.2.1), (14, .int .i64 s13.2.2)]) (fun s13 => hp [ownT s13.1]) (fun o14 x e' H' => x = .exit 0 ∧ Sub ctx F19 (Env.ofList [(12, lst eInt o14 (capT o14 0))]) (hp [ownT o14]) e' H') ?_ N ([], v12, 0) _ hx15) ?_
        · intro s13 o ho
          unfold s19_l33 at ho
          refine Wp.seq ?_
          refine Wp.seq ?_
          refine Wp.reg rfl ?_
          iterate 4 refine Wg.li rfl rfl rfl rfl (fun _ => rfl) ?_
          refine Wg.nil ?_
          refine ⟨fun _ => ?_, fun h => absurd (by decide) h⟩
          refine Wp.cond (decide (s13.2.2 < (a1.length : Int))) rfl (fun hb16 => ?_) (fun hb16 => ?_)
          · have ho := iT ho hb16
            refine Wp.skip ?_
            refine ⟨fun _ => ?_, fun h => absurd (by decide) h⟩
            refine Wp.seq ?_
            refine Wp.block ?_
            refine Wp.seq ?_
            refine Wp.seq ?_
            refine Wp.drw _ [1, 5, 8, 12] rfl (by kernel_rfl) (Nat.le_refl _) ?_
            iterate 4 refine Wg.li rfl rfl rfl rfl (fun _ => rfl) ?_
            obtain ⟨v17, hv17, ho⟩ := ob ho
            refine Wg.idx (f := eLeg) (xs := a1) (c := .unk) rfl rfl rfl rfl rfl rfl rfl lLeg (by decide) hv17 ?_
            refine Wg.li rfl rfl rfl rfl (fun _ => rfl) ?_
            obtain ⟨v18, hv18, ho⟩ := ob ho
            refine Wg.call rfl rfl rfl rfl (s72_ev hv18 _) ?_
            iterate 4 refine Wg.li rfl rfl rfl rfl (fun _ => rfl) ?_
            obtain ⟨v19, hv19, ho⟩ := ob ho
            refine Wg.idx (f := eLeg) (xs := a1) (c := .unk) rfl rfl rfl rfl rfl rfl rfl lLeg (by decide) hv19 ?_
            refine Wg.li rfl rfl rfl rfl (fun _ => rfl) ?_
            obtain ⟨v20, hv20, ho⟩ := ob ho
            refine Wg.call rfl rfl rfl rfl (s73_ev hv20 _) ?_
            refine Wg.li rfl rfl rfl rfl (fun _ => rfl) ?_
            obtain ⟨v21, hv21, ho⟩ := ob ho
            refine Wg.bin (k := .i64) (k2 := .i64) (a := v18.leave) (b := v20.low) rfl rfl rfl rfl rfl (bAdd hv21) ?_
            refine Wg.li rfl rfl rfl rfl (fun _ => rfl) ?_
            refine Wg.nil ?_
            refine ⟨fun _ => ?_, fun h => absurd (by decide) h⟩
            obtain ⟨o22, hx23, ho⟩ := ob ho
            refine Wp.after (Q' := fun x e' H' => x = .normal ∧ Sub ctx F19 (Env.ofList [(1, lst eLeg a1 .unk), (3, .ro (eTable a0)), (12, lst eInt o22 (capT o22 0)), (14, .int .i64 s13.2.2)]) (hp [ownT o22]) e' H') ?_ ?_
            · refine Wp.cond (decide (s13.2.1 > v21)) rfl (fun hb24 => ?_) (fun hb24 => ?_)
              · have hx23 := iT hx23 hb24
                refine Wp.reg rfl ?_
                iterate 3 refine Wg.li rfl rfl rfl rfl (fun _ => rfl) ?_
                obtain ⟨v25, hv25, hx23⟩ := ob hx23
                refine Wg.appG (k := 0) (f := eInt) (xs := s13.1) (ys := [s13.2.2]) (c2 := .full) (Nat.le_of_ble_eq_true rfl) rfl rfl rfl rfl rfl rfl rfl rfl rfl lInt (by decide) (by decide) (by simp) rfl hv25 ?_
                refine Wg.li rfl rfl rfl rfl (fun _ => rfl) ?_
                refine Wg.nil ?_
                have hx23 := Option.some.inj hx23
                subst hx23
                exact ⟨by decide, (Sub.canon [some 1] [ownT v25] [(1, lst eLeg a1 .unk), (3, .ro (eTable a0)), (12, lst eInt v25 (capT v25 0)), (14, .int .i64 s13.2.2)] rfl (by decide) ⟨.grow rfl, trivial⟩ (.pure rfl (Pure.lst pLeg _ pUnk) (.pure rfl (.ro (pTab _)) (.grow rfl pInt rfl (.pure rfl (.int _ _) .nil)))))⟩
              · have hx23 := iF hx23 hb24
                refine Wp.skip ?_
                have hx23 := Option.some.inj hx23
                subst hx23
                exact ⟨by decide, (Sub.canon [some 0] [ownT s13.1] [(1, lst eLeg a1 .unk), (3, .ro (eTable a0)), (12, lst eInt s13.1 (capT s13.1 0)), (14, .int .i64 s13.2.2)] rfl (by decide) ⟨.grow rfl, trivial⟩ (.pure rfl (Pure.lst pLeg _ pUnk) (.pure rfl (.ro (pTab _)) (.grow rfl pInt rfl (.pure rfl (.int _ _) .nil)))))⟩
            · intro x e' H' hP
              obtain ⟨hPx, hP2⟩ := hP
              subst hPx
              have hP := And.intro (True.intro) hP2
              refine ⟨fun _ => ?_, fun h => absurd (by decide) h⟩
              refine Sub.use hP.2 ?_
              refine Wp.drw _ [0, 4, 7, 11, 16] rfl (by kernel_rfl) (Nat.le_refl _) ?_
              iterate 3 refine Wg.li rfl rfl rfl rfl (fun _ => rfl) ?_
              obtain ⟨v26, hv26, ho⟩ := ob ho
              refine Wg.idx (f := eLeg) (xs := a1) (c := .unk) rfl rfl rfl rfl rfl rfl rfl lLeg (by decide) hv26 ?_
              refine Wg.li rfl rfl rfl rfl (fun _ => rfl) ?_
              obtain ⟨v27, hv27, ho⟩ := ob ho
              refine Wg.call rfl rfl rfl rfl (s74_ev hv27 _) ?_
              iterate 4 refine Wg.li rfl rfl rfl rfl (fun _ => rfl) ?_
              obtain ⟨v28, hv28, ho⟩ := ob ho
              refine Wg.idx (f := eLeg) (xs := a1) (c := .unk) rfl rfl rfl rfl rfl rfl rfl lLeg (by decide) hv28 ?_
              refine Wg.li rfl rfl rfl rfl (fun _ => rfl) ?_
              obtain ⟨v29, hv29, ho⟩ := ob ho
              refine Wg.call rfl rfl rfl rfl (s73_ev hv29 _) ?_
              refine Wg.li rfl rfl rfl rfl (fun _ => rfl) ?_
              obtain ⟨v30, hv30, ho⟩ := ob ho
              refine Wg.bin (k := .i64) (k2 := .i64) (a := v27.arrive) (b := v29.high) rfl rfl rfl rfl rfl (bAdd hv30) ?_
              iterate 2 refine Wg.li rfl rfl rfl rfl (fun _ => rfl) ?_
              obtain ⟨v31, hv31, ho⟩ := ob ho
              refine Wg.bin (k := .i64) (k2 := .i64) (a := v30) (b := a0.load) rfl rfl rfl rfl rfl (bAdd hv31) ?_
              refine Wg.li rfl rfl rfl rfl (fun _ => rfl) ?_
              refine Wg.nil ?_
              refine ⟨fun _ => ?_, fun h => absurd (by decide) h⟩
              refine Wp.reg rfl ?_
              refine Wg.li rfl rfl rfl rfl (fun _ => rfl) ?_
              obtain ⟨v32, hv32, ho⟩ := ob ho
              refine Wg.bin (k := .i64) (k2 := .i64) (a := s13.2.2) (b := 1) rfl rfl rfl rfl rfl (bAdd hv32) ?_
              refine Wg.li rfl rfl rfl rfl (fun _ => rfl) ?_
              refine Wg.nil ?_
              have ho := Option.some.inj ho
              subst ho
              exact ⟨by decide, (Sub.canon [some 0] [ownT o22] [(1, lst eLeg a1 .unk), (3, .ro (eTable a0)), (12, lst eInt o22 (capT o22 0)), (13, .int .i64 v31), (14, .int .i64 v32)] rfl (by decide) ⟨.grow rfl, trivial⟩ (.pure rfl (Pure.lst pLeg _ pUnk) (.pure rfl (.ro (pTab _)) (.grow rfl pInt rfl (.pure rfl (.int _ _) (.pure rfl (.int _ _) .nil))))))⟩
          · have ho := iF ho hb16
            refine Wp.exit ?_
            refine ⟨fun h => absurd h (by decide), fun _ => ?_⟩
            have ho := Option.some.inj ho
            subst ho
            exact ⟨by decide, by decide, (Sub.canon [some 0] [ownT s13.1] [(12, lst eInt s13.1 (capT s13.1 0))] rfl (by decide) ⟨.grow rfl, trivial⟩ (.grow rfl pInt rfl .nil))⟩
        · intro x e' H' hP
          obtain ⟨hPx, hP2⟩ := hP
          subst hPx
          have hP := And.intro (True.intro) hP2
          refine ⟨fun _ => ?_, fun h => absurd (by decide) h⟩
          refine Sub.use hP.2 ?_
          refine Wp.seq ?_
          refine Wp.reg rfl ?_
          iterate 3 refine Wg.li rfl rfl rfl rfl (fun _ => rfl) ?_
          refine Wg.nil ?_
          refine ⟨fun _ => ?_, fun h => absurd (by decide) h⟩
          refine Sub.use (Sub.canon [] [] [(6, lst eInt o14 .unk), (7, .int .i64 0)] rfl (by decide) trivial (.unk (c := (capT o14 0)) rfl pInt (.pure rfl (.int _ _) .nil))) ?_
          refine Wp.ret ?_
          have h := Option.some.inj h
          subst h
          exact ⟨.inr (by decide), _, rfl, rfl⟩
def s76 (N : Nat) (a0 : Table) (a1 : (List Leg)) (a2 : Int) : Option (Span) :=
  (s68 N a0 a1 a2).bind fun v1 =>
  (s59 N a0 a1).bind fun v2 =>
  (ck (v1.1.low + a0.load)).bind fun v3 =>
  (s71 N a0 v2.2.1 v3).bind fun v4 =>
  (ck (v1.1.high + a0.load)).bind fun v5 =>
  (s71 N a0 v2.2.1 v5).bind fun v6 =>
  (s46 N v4 v6).bind fun v7 =>
  some v7
abbrev F76 : Fr := { r := false, N := 45, m := 0 }
theorem at76 : ctx.P.funcs[76]? = some Tryd.f76 := by kernel_rfl
theorem s76_ev {N : Nat} {a0 : Table} {a1 : (List Leg)} {a2 : Int} {r : Span} (h : s76 N a0 a1 a2 = some r) : ∀ H, Ev ctx (.call 76 [.agg (eTable a0), lst eLeg a1 .unk, .int .i64 a2] H (.agg (eSpan r)) H) := by
  refine Ev.of_pure at76 rfl rfl (Nat.le_of_ble_eq_true rfl) (pCons (pv (pTab _)) (pCons (Pure.lst pLeg _ pUnk) (pCons (.int _ _) pNil))) (pv (pSpan _)) ?_
  unfold s76 at h
  refine Wp.seq ?_
  refine Wp.reg rfl ?_
  refine Wg.box rfl rfl rfl rfl ?_
  refine Wg.alloc rfl rfl rfl rfl ?_
  refine Wg.nil ?_
  refine ⟨fun _ => ?_, fun h => absurd (by decide) h⟩
  refine Wp.seq ?_
  refine Wp.reg rfl ?_
  iterate 3 refine Wg.li rfl rfl rfl rfl (fun _ => rfl) ?_
  obtain ⟨v1, hv1, h⟩ := ob h
  refine Wg.call rfl rfl rfl rfl (s68_ev hv1 _) ?_
  iterate 4 refine Wg.li rfl rfl rfl rfl (fun _ => rfl) ?_
  refine Wg.alloc rfl rfl rfl rfl ?_
  refine Wg.heavy true (Nat.le_of_ble_eq_true rfl) rfl rfl rfl rfl ?_
  iterate 2 refine Wg.li rfl rfl rfl rfl (fun _ => rfl) ?_
  refine Wg.nil ?_
  refine ⟨fun _ => ?_, fun h => absurd (by decide) h⟩
  refine Wp.seq ?_
  refine Wp.reg rfl ?_
  iterate 2 refine Wg.li rfl rfl rfl rfl (fun _ => rfl) ?_
  obtain ⟨v2, hv2, h⟩ := ob h
  refine Wg.call rfl rfl rfl rfl (s59_ev hv2 _) ?_
  iterate 7 refine Wg.li rfl rfl rfl rfl (fun _ => rfl) ?_
  refine Wg.nil ?_
  refine ⟨fun _ => ?_, fun h => absurd (by decide) h⟩
  refine Wp.seq ?_
  refine Wp.drw _ [0, 5, 8, 13] rfl (by kernel_rfl) (Nat.le_refl _) ?_
  iterate 3 refine Wg.li rfl rfl rfl rfl (fun _ => rfl) ?_
  refine Wg.ld rfl rfl rfl rfl rfl rfl ?_
  iterate 2 refine Wg.li rfl rfl rfl rfl (fun _ => rfl) ?_
  obtain ⟨v3, hv3, h⟩ := ob h
  refine Wg.bin (k := .i64) (k2 := .i64) (a := v1.1.low) (b := a0.load) rfl rfl rfl rfl rfl (bAdd hv3) ?_
  obtain ⟨v4, hv4, h⟩ := ob h
  refine Wg.call rfl rfl rfl rfl (s71_ev hv4 _) ?_
  iterate 3 refine Wg.li rfl rfl rfl rfl (fun _ => rfl) ?_
  refine Wg.ld rfl rfl rfl rfl rfl rfl ?_
  iterate 2 refine Wg.li rfl rfl rfl rfl (fun _ => rfl) ?_
  obtain ⟨v5, hv5, h⟩ := ob h
  refine Wg.bin (k := .i64) (k2 := .i64) (a := v1.1.high) (b := a0.load) rfl rfl rfl rfl rfl (bAdd hv5) ?_
  obtain ⟨v6, hv6, h⟩ := ob h
  refine Wg.call rfl rfl rfl rfl (s71_ev hv6 _) ?_
  obtain ⟨v7, hv7, h⟩ := ob h
  refine Wg.call rfl rfl rfl rfl (s46_ev hv7 _) ?_
  refine Wg.heavy true (Nat.le_of_ble_eq_true rfl) rfl rfl rfl rfl ?_
  refine Wg.nil ?_
  refine ⟨fun _ => ?_, fun h => absurd (by decide) h⟩
  refine Wp.ret ?_
  have h := Option.some.inj h
  subst h
  exact ⟨.inr (by decide), _, rfl, rfl⟩
def s22 (N : Nat) (a0 : Table) (a1 : (List Leg)) (a2 : Int) : Option (Span × Int) :=
  (s17 N a0 a1 a2).bind fun v1 =>
  if (!(v1.2 == 0)) then
    some ((Span.mk 0 0), v1.2)
  else
    if (v1.1 == 0) then
      some ((Span.mk 0 0), 4)
    else
      (s76 N a0 a1 a2).bind fun v4 =>
      some (v4, 0)
abbrev F22 : Fr := { r := false, N := 28, m := 0 }
theorem at22 : ctx.P.funcs[22]? = some Tryd.f22 := by kernel_rfl
theorem s22_ev {N : Nat} {a0 : Table} {a1 : (List Leg)} {a2 : Int} {r : Span × Int} (h : s22 N a0 a1 a2 = some r) : ∀ H, Ev ctx (.call 22 [.agg (eTable a0), lst eLeg a1 .unk, .int .i64 a2] H (.tuple [.agg (eSpan r.1), .int .i64 r.2]) H) := by
  refine Ev.of_pure at22 rfl rfl (Nat.le_of_ble_eq_true rfl) (pCons (pv (pTab _)) (pCons (Pure.lst pLeg _ pUnk) (pCons (.int _ _) pNil))) (.tuple (pCons (pv (pSpan _)) (pCons (.int _ _) pNil))) ?_
  unfold s22 at h
  refine Wp.seq ?_
  refine Wp.reg rfl ?_
  refine Wg.box rfl rfl rfl rfl ?_
  refine Wg.alloc rfl rfl rfl rfl ?_
  refine Wg.li rfl rfl rfl rfl (fun _ => rfl) ?_
  refine Wg.nil ?_
  refine ⟨fun _ => ?_, fun h => absurd (by decide) h⟩
  refine Wp.seq ?_
  refine Wp.reg rfl ?_
  iterate 3 refine Wg.li rfl rfl rfl rfl (fun _ => rfl) ?_
  obtain ⟨v1, hv1, h⟩ := ob h
  refine Wg.call rfl rfl rfl rfl (s17_ev hv1 _) ?_
  iterate 5 refine Wg.li rfl rfl rfl rfl (fun _ => rfl) ?_
  refine Wg.nil ?_
  refine ⟨fun _ => ?_, fun h => absurd (by decide) h⟩
  refine Wp.seq ?_
  refine Wp.seq ?_
  refine Wp.reg rfl ?_
  iterate 2 refine Wg.li rfl rfl rfl rfl (fun _ => rfl) ?_
  refine Wg.nil ?_
  refine ⟨fun _ => ?_, fun h => absurd (by decide) h⟩
  refine Wp.cond (!(v1.2 == 0)) rfl (fun hb2 => ?_) (fun hb2 => ?_)
  · have h := iT h hb2
    refine Wp.seq ?_
    refine Wp.reg rfl ?_
    iterate 2 refine Wg.li rfl rfl rfl rfl (fun _ => rfl) ?_
    refine Wg.heavy true (Nat.le_of_ble_eq_true rfl) rfl rfl rfl rfl ?_
    refine Wg.li rfl rfl rfl rfl (fun _ => rfl) ?_
    refine Wg.nil ?_
    refine ⟨fun _ => ?_, fun h => absurd (by decide) h⟩
    refine Wp.ret ?_
    refine ⟨fun h => absurd h (by decide), fun _ => ?_⟩
    have h := Option.some.inj h
    subst h
    exact ⟨.inr (by decide), _, rfl, rfl⟩
  · have h := iF h hb2
    refine Wp.skip ?_
    refine ⟨fun _ => ?_, fun h => absurd (by decide) h⟩
    refine Wp.seq ?_
    refine Wp.seq ?_
    refine Wp.reg rfl ?_
    iterate 2 refine Wg.li rfl rfl rfl rfl (fun _ => rfl) ?_
    refine Wg.nil ?_
    refine ⟨fun _ => ?_, fun h => absurd (by decide) h⟩
    refine Wp.cond (v1.1 == 0) rfl (fun hb3 => ?_) (fun hb3 => ?_)
    · have h := iT h hb3
      refine Wp.seq ?_
      refine Wp.reg rfl ?_
      refine Wg.li rfl rfl rfl rfl (fun _ => rfl) ?_
      refine Wg.heavy true (Nat.le_of_ble_eq_true rfl) rfl rfl rfl rfl ?_
      refine Wg.li rfl rfl rfl rfl (fun _ => rfl) ?_
      refine Wg.nil ?_
      refine ⟨fun _ => ?_, fun h => absurd (by decide) h⟩
      refine Wp.ret ?_
      refine ⟨fun h => absurd h (by decide), fun _ => ?_⟩
      have h := Option.some.inj h
      subst h
      exact ⟨.inr (by decide), _, rfl, rfl⟩
    · have h := iF h hb3
      refine Wp.skip ?_
      refine ⟨fun _ => ?_, fun h => absurd (by decide) h⟩
      refine Wp.seq ?_
      refine Wp.reg rfl ?_
      iterate 3 refine Wg.li rfl rfl rfl rfl (fun _ => rfl) ?_
      obtain ⟨v4, hv4, h⟩ := ob h
      refine Wg.call rfl rfl rfl rfl (s76_ev hv4 _) ?_
      refine Wg.heavy true (Nat.le_of_ble_eq_true rfl) rfl rfl rfl rfl ?_
      refine Wg.li rfl rfl rfl rfl (fun _ => rfl) ?_
      refine Wg.nil ?_
      refine ⟨fun _ => ?_, fun h => absurd (by decide) h⟩
      refine Wp.ret ?_
      have h := Option.some.inj h
      subst h
      exact ⟨.inr (by decide), _, rfl, rfl⟩
end Go.Abs.Tr
