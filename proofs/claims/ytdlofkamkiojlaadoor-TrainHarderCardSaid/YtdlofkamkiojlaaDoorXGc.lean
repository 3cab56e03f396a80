/- Printed walks: the layer of trains. Conditions: none. -/
import Derived.Test.YtdlofkamkiojlaaDoorXGa
set_option maxRecDepth 100000
set_option maxHeartbeats 1000000
set_option linter.unusedVariables false
namespace Go.Abs.Tr
open Go Go.Abs Go.Proofs
def s60 (N : Nat) (a0 : Int) (a1 : Int) (a2 : Int) : Option (Bool) :=
  some ((decide (a1 ≤ a0)) && (decide (a0 ≤ a2)))
theorem at60 : ctx.P.funcs[60]? = some Tryd.f60 := by kernel_rfl
theorem s60_ev {N : Nat} {a0 : Int} {a1 : Int} {a2 : Int} {r : Bool} (h : s60 N a0 a1 a2 = some r) : ∀ H, Ev ctx (.call 60 [.int .i64 a0, .int .i64 a1, .int .i64 a2] H (.bool r) H) := by
  refine Ev.of_pure at60 rfl rfl (Nat.le_of_ble_eq_true rfl) (pCons (.int _ _) (pCons (.int _ _) (pCons (.int _ _) pNil))) (.bool _) ?_
  unfold s60 at h
  refine Wp.seq ?_
  refine Wp.reg rfl ?_
  refine Wg.li rfl rfl rfl rfl (fun _ => rfl) ?_
  refine Wg.nil ?_
  refine ⟨fun _ => ?_, fun h => absurd (by decide) h⟩
  refine Wp.seq ?_
  refine Wp.reg rfl ?_
  iterate 4 refine Wg.li rfl rfl rfl rfl (fun _ => rfl) ?_
  have hv1 := ifAnd (decide (a1 ≤ a0)) (decide (a0 ≤ a2))
  refine Wg.grp 4 14 10 ((decide (a1 ≤ a0)) && (decide (a0 ≤ a2))) (decide (a1 ≤ a0)) rfl rfl (Nat.le_of_ble_eq_true rfl) (fun hb2 => ?_) (fun hb2 => ?_) ?_
  · have hv1 := iT hv1 hb2
    iterate 4 refine Wg.li rfl rfl rfl rfl (fun _ => rfl) ?_
    refine Wg.nil ⟨some_b hv1, ?_, rfl⟩
    repeat (first | exact Env.le_refl _ | refine Env.le_put rfl ?_)
  · have hv1 := iF hv1 hb2
    iterate 3 refine Wg.skip rfl rfl ?_
    refine Wg.li rfl rfl rfl rfl (fun _ => rfl) ?_
    refine Wg.nil ⟨some_b hv1, ?_, rfl⟩
    repeat (first | exact Env.le_refl _ | refine Env.le_put rfl ?_)
  refine Wg.li rfl rfl rfl rfl (fun _ => rfl) ?_
  refine Wg.nil ?_
  refine ⟨fun _ => ?_, fun h => absurd (by decide) h⟩
  refine Wp.ret ?_
  have h := Option.some.inj h
  subst h
  exact ⟨.inr (by decide), _, rfl, rfl⟩
def s61 (N : Nat) (a0 : Span) (a1 : Int) (a2 : Int) : Option (Bool) :=
  some (((decide (a1 ≤ a0.low)) && (decide (a0.low ≤ a0.high))) && (decide (a0.high ≤ a2)))
theorem at61 : ctx.P.funcs[61]? = some Tryd.f61 := by kernel_rfl
theorem s61_ev {N : Nat} {a0 : Span} {a1 : Int} {a2 : Int} {r : Bool} (h : s61 N a0 a1 a2 = some r) : ∀ H, Ev ctx (.call 61 [.agg (eSpan a0), .int .i64 a1, .int .i64 a2] H (.bool r) H) := by
  refine Ev.of_pure at61 rfl rfl (Nat.le_of_ble_eq_true rfl) (pCons (pv (pSpan _)) (pCons (.int _ _) (pCons (.int _ _) pNil))) (.bool _) ?_
  unfold s61 at h
  refine Wp.seq ?_
  refine Wp.reg rfl ?_
  refine Wg.box rfl rfl rfl rfl ?_
  refine Wg.li rfl rfl rfl rfl (fun _ => rfl) ?_
  refine Wg.nil ?_
  refine ⟨fun _ => ?_, fun h => absurd (by decide) h⟩
  refine Wp.seq ?_
  refine Wp.reg rfl ?_
  iterate 5 refine Wg.li rfl rfl rfl rfl (fun _ => rfl) ?_
  have hv1 := ifAnd (decide (a1 ≤ a0.low)) (decide (a0.low ≤ a0.high))
  refine Wg.grp 6 17 11 ((decide (a1 ≤ a0.low)) && (decide (a0.low ≤ a0.high))) (decide (a1 ≤ a0.low)) rfl rfl (Nat.le_of_ble_eq_true rfl) (fun hb2 => ?_) (fun hb2 => ?_) ?_
  · have hv1 := iT hv1 hb2
    iterate 6 refine Wg.li rfl rfl rfl rfl (fun _ => rfl) ?_
    refine Wg.nil ⟨some_b hv1, ?_, rfl⟩
    repeat (first | exact Env.le_refl _ | refine Env.le_put rfl ?_)
  · have hv1 := iF hv1 hb2
    iterate 5 refine Wg.skip rfl rfl ?_
    refine Wg.li rfl rfl rfl rfl (fun _ => rfl) ?_
    refine Wg.nil ⟨some_b hv1, ?_, rfl⟩
    repeat (first | exact Env.le_refl _ | refine Env.le_put rfl ?_)
  refine Wg.li rfl rfl rfl rfl (fun _ => rfl) ?_
  have hv3 := ifAnd ((decide (a1 ≤ a0.low)) && (decide (a0.low ≤ a0.high))) (decide (a0.high ≤ a2))
  refine Wg.grp 5 23 18 (((decide (a1 ≤ a0.low)) && (decide (a0.low ≤ a0.high))) && (decide (a0.high ≤ a2))) ((decide (a1 ≤ a0.low)) && (decide (a0.low ≤ a0.high))) rfl rfl (Nat.le_of_ble_eq_true rfl) (fun hb4 => ?_) (fun hb4 => ?_) ?_
  · have hv3 := iT hv3 hb4
    iterate 5 refine Wg.li rfl rfl rfl rfl (fun _ => rfl) ?_
    refine Wg.nil ⟨some_b hv3, ?_, rfl⟩
    repeat (first | exact Env.le_refl _ | refine Env.le_put rfl ?_)
  · have hv3 := iF hv3 hb4
    iterate 4 refine Wg.skip rfl rfl ?_
    refine Wg.li rfl rfl rfl rfl (fun _ => rfl) ?_
    refine Wg.nil ⟨some_b hv3, ?_, rfl⟩
    repeat (first | exact Env.le_refl _ | refine Env.le_put rfl ?_)
  refine Wg.li rfl rfl rfl rfl (fun _ => rfl) ?_
  refine Wg.nil ?_
  refine ⟨fun _ => ?_, fun h => absurd (by decide) h⟩
  refine Wp.ret ?_
  have h := Option.some.inj h
  subst h
  exact ⟨.inr (by decide), _, rfl, rfl⟩
def s14_l26 (N : Nat) (v12 : (List Span)) (s15 : Bool × Int × Int) : Option ((Bool × Int × Int) ⊕ (Bool)) :=
  if (decide (s15.2.2 < (v12.length : Int))) then
    (ix v12 s15.2.2).bind fun v19 =>
    (if s15.1 then 
      (ck (s15.2.1 + 1)).bind fun v22 =>
      (s61 N v19 v22 2879).bind fun v23 =>
      some v23
     else some false).bind fun v24 =>
    (ck (s15.2.2 + 1)).bind fun v25 =>
    some (.inl (v24, v19.high, v25))
  else
    some (.inr s15.1)
def s14_l28 (N : Nat) (a0 : Table) (s8 : Bool × Int) : Option ((Bool × Int) ⊕ (Bool)) :=
  if (decide (s8.2 < (a0.offices.length : Int))) then
    (ix a0.offices s8.2).bind fun v12 =>
    (iter (s14_l26 N v12) N ((s8.1 && (decide ((v12.length : Int) ≤ 3))), (-1), 0)).bind fun o16 =>
    (ck (s8.2 + 1)).bind fun v27 =>
    some (.inl (o16, v27))
  else
    some (.inr s8.1)
def s14_l62 (N : Nat) (a0 : Table) (v33 : Train) (s42 : Bool × Int × Int) : Option ((Bool × Int × Int) ⊕ (Bool)) :=
  if (decide (s42.2.2 < (v33.stops.length : Int))) then
    (ix v33.stops s42.2.2).bind fun v46 =>
    (if s42.1 then 
      (ck ((a0.offices.length : Int) - 1)).bind fun v49 =>
      (s60 N v46.station 0 v49).bind fun v50 =>
      some v50
     else some false).bind fun v51 =>
    (if v51 then 
      (ck (s42.2.1 + 1)).bind fun v54 =>
      (s60 N v46.arrive v54 2879).bind fun v55 =>
      some v55
     else some false).bind fun v56 =>
    (if v56 then 
      (s60 N v46.leave v46.arrive 2879).bind fun v59 =>
      some v59
     else some false).bind fun v60 =>
    (ck (s42.2.2 + 1)).bind fun v61 =>
    some (.inl (v60, v46.leave, v61))
  else
    some (.inr s42.1)
def s14_l64 (N : Nat) (a0 : Table) (s29 : Bool × Int) : Option ((Bool × Int) ⊕ (Bool)) :=
  if (decide (s29.2 < (a0.trains.length : Int))) then
    (ix a0.trains s29.2).bind fun v33 =>
    (if s29.1 then 
      (s60 N (v33.stops.length : Int) 2 5).bind fun v36 =>
      some v36
     else some false).bind fun v37 =>
    (if v37 then 
      (s61 N v33.late 0 90).bind fun v40 =>
      some v40
     else some false).bind fun v41 =>
    (iter (s14_l62 N a0 v33) N (v41, (-1), 0)).bind fun o43 =>
    (ck (s29.2 + 1)).bind fun v63 =>
    some (.inl (o43, v63))
  else
    some (.inr s29.1)
def s14 (N : Nat) (a0 : Table) : Option (Int) :=
  (s60 N (a0.offices.length : Int) 1 6).bind fun v1 =>
  (if (v1 && (decide ((a0.trains.length : Int) ≤ 6))) then 
    (s60 N a0.load 0 60).bind fun v6 =>
    some v6
   else some false).bind fun v7 =>
  (iter (s14_l28 N a0) N (v7, 0)).bind fun o9 =>
  (iter (s14_l64 N a0) N (o9, 0)).bind fun o30 =>
  if (!o30) then
    some 30
  else
    some 0
abbrev F14 : Fr := { r := false, N := 115, m := 0 }
theorem at14 : ctx.P.funcs[14]? = some Tryd.f14 := by kernel_rfl
theorem s14_ev {N : Nat} {a0 : Table} {r : Int} (h : s14 N a0 = some r) : ∀ H, Ev ctx (.call 14 [.agg (eTable a0)] H (.int .i64 r) H) := by
  refine Ev.of_pure at14 rfl rfl (Nat.le_of_ble_eq_true rfl) (pCons (pv (pTab _)) pNil) (.int _ _) ?_
  unfold s14 at h
  refine Wp.seq ?_
  refine Wp.reg rfl ?_
  refine Wg.box rfl rfl rfl rfl ?_
  refine Wg.li rfl rfl rfl rfl (fun _ => rfl) ?_
  refine Wg.nil ?_
  refine ⟨fun _ => ?_, fun h => absurd (by decide) h⟩
  refine Wp.seq ?_
  refine Wp.reg rfl ?_
  iterate 3 refine Wg.li rfl rfl rfl rfl (fun _ => rfl) ?_
  obtain ⟨v1, hv1, h⟩ := ob h
  refine Wg.call rfl rfl rfl rfl (s60_ev hv1 _) ?_
  refine Wg.li rfl rfl rfl rfl (fun _ => rfl) ?_
  have hv2 := ifAnd v1 (decide ((a0.trains.length : Int) ≤ 6))
  refine Wg.grp 5 23 18 (v1 && (decide ((a0.trains.length : Int) ≤ 6))) v1 rfl rfl (Nat.le_of_ble_eq_true rfl) (fun hb3 => ?_) (fun hb3 => ?_) ?_
  · have hv2 := iT hv2 hb3
    iterate 5 refine Wg.li rfl rfl rfl rfl (fun _ => rfl) ?_
    refine Wg.nil ⟨some_b hv2, ?_, rfl⟩
    repeat (first | exact Env.le_refl _ | refine Env.le_put rfl ?_)
  · have hv2 := iF hv2 hb3
    iterate 4 refine Wg.skip rfl rfl ?_
    refine Wg.li rfl rfl rfl rfl (fun _ => rfl) ?_
    refine Wg.nil ⟨some_b hv2, ?_, rfl⟩
    repeat (first | exact Env.le_refl _ | refine Env.le_put rfl ?_)
  refine Wg.li rfl rfl rfl rfl (fun _ => rfl) ?_
  obtain ⟨v7, hv4, h⟩ := ob h
  refine Wg.grp 4 28 24 v7 (v1 && (decide ((a0.trains.length : Int) ≤ 6))) rfl rfl (Nat.le_of_ble_eq_true rfl) (fun hb5 => ?_) (fun hb5 => ?_) ?_
  · have hv4 := iT hv4 hb5
    iterate 2 refine Wg.li rfl rfl rfl rfl (fun _ => rfl) ?_
    obtain ⟨v6, hv6, hv4⟩ := ob hv4
    refine Wg.call rfl rfl rfl rfl (s60_ev hv6 _) ?_
    refine Wg.li rfl rfl rfl rfl (fun _ => rfl) ?_
    refine Wg.nil ⟨some_b hv4, ?_, rfl⟩
    repeat (first | exact Env.le_refl _ | refine Env.le_put rfl ?_)
  · have hv4 := iF hv4 hb5
    iterate 3 refine Wg.skip rfl rfl ?_
    refine Wg.li rfl rfl rfl rfl (fun _ => rfl) ?_
    refine Wg.nil ⟨some_b hv4, ?_, rfl⟩
    repeat (first | exact Env.le_refl _ | refine Env.le_put rfl ?_)
  refine Wg.li rfl rfl rfl rfl (fun _ => rfl) ?_
  refine Wg.nil ?_
  refine ⟨fun _ => ?_, fun h => absurd (by decide) h⟩
  refine Wp.seq ?_
  refine Wp.seq ?_
  refine Wp.reg rfl ?_
  iterate 4 refine Wg.li rfl rfl rfl rfl (fun _ => rfl) ?_
  refine Wg.nil ?_
  refine ⟨fun _ => ?_, fun h => absurd (by decide) h⟩
  refine Wp.block ?_
  obtain ⟨o9, hx10, h⟩ := ob h
  refine Sub.use (Sub.canon [] [] [(1, .ro (eTable a0)), (3, .bool v7), (30, lst (eLs eSpan) a0.offices .unk), (31, .int .i64 (a0.offices.length : Int)), (32, .int .i64 0)] rfl (by decide) trivial (.pure rfl (.ro (pTab _)) (.pure rfl (.bool _) (.pure rfl (Pure.lst (pLs pSpan) _ pUnk) (.pure rfl (.int _ _) (.pure rfl (.int _ _) .nil)))))) ?_
  refine Wp.after (Wp.iterS (s14_l28 N a0) (fun s8 => Env.ofList [(1, .ro (eTable a0)), (3, .bool s8.1), (30, lst (eLs eSpan) a0.offices .unk), (31, .int .i64 (a0.offices.length : Int)), (32, .int .i64 s8.2)]) (fun s8 => hp []) (fun o9 x e' H' => x = .exit 0 ∧ Sub ctx F14 (Env.ofList [(1, .ro (eTable a0)), (3, .bool o9)]) (hp []) e' H') ?_ N (v7, 0) _ hx10) ?_
  · intro s8 o ho
    unfold s14_l28 at ho
    refine Wp.seq ?_
    refine Wp.reg rfl ?_
    refine Wg.li rfl rfl rfl rfl (fun _ => rfl) ?_
    refine Wg.nil ?_
    refine ⟨fun _ => ?_, fun h => absurd (by decide) h⟩
    refine Wp.seq ?_
    refine Wp.cond (decide (s8.2 < (a0.offices.length : Int))) rfl (fun hb11 => ?_) (fun hb11 => ?_)
    · have ho := iT ho hb11
      refine Wp.skip ?_
      refine ⟨fun _ => ?_, fun h => absurd (by decide) h⟩
      refine Wp.seq ?_
      refine Wp.block ?_
      refine Wp.seq ?_
      refine Wp.reg rfl ?_
      obtain ⟨v12, hv12, ho⟩ := ob ho
      refine Wg.idx (f := (eLs eSpan)) (xs := a0.offices) (c := .unk) rfl rfl rfl rfl rfl rfl rfl lLs (by decide) hv12 ?_
      iterate 2 refine Wg.li rfl rfl rfl rfl (fun _ => rfl) ?_
      refine Wg.nil ?_
      refine ⟨fun _ => ?_, fun h => absurd (by decide) h⟩
      refine Wp.seq ?_
      refine Wp.reg rfl ?_
      iterate 2 refine Wg.li rfl rfl rfl rfl (fun _ => rfl) ?_
      have hv13 := ifAnd s8.1 (decide ((v12.length : Int) ≤ 3))
      refine Wg.grp 4 41 37 (s8.1 && (decide ((v12.length : Int) ≤ 3))) s8.1 rfl rfl (Nat.le_of_ble_eq_true rfl) (fun hb14 => ?_) (fun hb14 => ?_) ?_
      · have hv13 := iT hv13 hb14
        iterate 4 refine Wg.li rfl rfl rfl rfl (fun _ => rfl) ?_
        refine Wg.nil ⟨some_b hv13, ?_, rfl⟩
        repeat (first | exact Env.le_refl _ | refine Env.le_put rfl ?_)
      · have hv13 := iF hv13 hb14
        iterate 3 refine Wg.skip rfl rfl ?_
        refine Wg.li rfl rfl rfl rfl (fun _ => rfl) ?_
        refine Wg.nil ⟨some_b hv13, ?_, rfl⟩
        repeat (first | exact Env.le_refl _ | refine Env.le_put rfl ?_)
      refine Wg.li rfl rfl rfl rfl (fun _ => rfl) ?_
      refine Wg.nil ?_
      refine ⟨fun _ => ?_, fun h => absurd (by decide) h⟩
      refine Wp.seq ?_
      refine Wp.reg rfl ?_
      refine Wg.li rfl rfl rfl rfl (fun _ => rfl) ?_
      refine Wg.nil ?_
      refine ⟨fun _ => ?_, fun h => absurd (by decide) h⟩
      refine Wp.seq ?_
      refine Wp.reg rfl ?_
      iterate 3 refine Wg.li rfl rfl rfl rfl (fun _ => rfl) ?_
      refine Wg.nil ?_
      refine ⟨fun _ => ?_, fun h => absurd (by decide) h⟩
      refine Wp.block ?_
      obtain ⟨o16, hx17, ho⟩ := ob ho
      refine Sub.use (Sub.canon [] [] [(1, .ro (eTable a0)), (3, .bool (s8.1 && (decide ((v12.length : Int) ≤ 3)))), (6, .int .i64 (-1)), (30, lst (eLs eSpan) a0.offices .unk), (31, .int .i64 (a0.offices.length : Int)), (32, .int .i64 s8.2), (42, lst eSpan v12 .unk), (43, .int .i64 (v12.length : Int)), (44, .int .i64 0)] rfl (by decide) trivial (.pure rfl (.ro (pTab _)) (.pure rfl (.bool _) (.pure rfl (.int _ _) (.pure rfl (Pure.lst (pLs pSpan) _ pUnk) (.pure rfl (.int _ _) (.pure rfl (.int _ _) (.pure rfl (Pure.lst pSpan _ pUnk) (.pure rfl (.int _ _) (.pure rfl (.int _ _) .nil)))))))))) ?_
      refine Wp.after (Wp.iterS (s14_l26 N v12) (fun s15 => Env.ofList [(1, .ro (eTable a0)), (3, .bool s15.1), (6, .int .i64 s15.2.1), (30, lst (eLs eSpan) a0.offices .unk), (31, .int .i64 (a0.offices.length : Int)), (32, .int .i64 s8.2), (42, lst eSpan v12 .unk), (43, .int .i64 (v12.length : Int)), (44, .int .i64 s15.2.2)]) (fun s15 => hp []) (fun o16 x e' H' => x = .exit 2 ∧ Sub ctx F14 (Env.ofList [(1, .ro (eTable a0)), (3, .bool o16), (30, lst (eLs eSpan) a0.offices .unk), (31, .int .i64 (a0.offices.length : Int)), (32, .int .i64 s8.2)]) (hp []) e' H') ?_ N ((s8.1 && (decide ((v12.length : Int) ≤ 3))), (-1), 0) _ hx17) ?_
      · intro s15 o ho
        unfold s14_l26 at ho
        refine Wp.seq ?_
        refine Wp.reg rfl ?_
        refine Wg.li rfl rfl rfl rfl (fun _ => rfl) ?_
        refine Wg.nil ?_
        refine ⟨fun _ => ?_, fun h => absurd (by decide) h⟩
        refine Wp.seq ?_
        refine Wp.cond (decide (s15.2.2 < (v12.length : Int))) rfl (fun hb18 => ?_) (fun hb18 => ?_)
        · have ho := iT ho hb18
          refine Wp.skip ?_
          refine ⟨fun _ => ?_, fun h => absurd (by decide) h⟩
          refine Wp.seq ?_
          refine Wp.block ?_
          refine Wp.seq ?_
          refine Wp.reg rfl ?_
          obtain ⟨v19, hv19, ho⟩ := ob ho
          refine Wg.idx (f := eSpan) (xs := v12) (c := .unk) rfl rfl rfl rfl rfl rfl rfl lSpan (by decide) hv19 ?_
          refine Wg.li rfl rfl rfl rfl (fun _ => rfl) ?_
          refine Wg.alloc rfl rfl rfl rfl ?_
          refine Wg.heavy true (Nat.le_of_ble_eq_true rfl) rfl rfl rfl rfl ?_
          refine Wg.nil ?_
          refine ⟨fun _ => ?_, fun h => absurd (by decide) h⟩
          refine Wp.seq ?_
          refine Wp.reg rfl ?_
          iterate 2 refine Wg.li rfl rfl rfl rfl (fun _ => rfl) ?_
          obtain ⟨v24, hv20, ho⟩ := ob ho
          refine Wg.grp 5 54 49 v24 s15.1 rfl rfl (Nat.le_of_ble_eq_true rfl) (fun hb21 => ?_) (fun hb21 => ?_) ?_
          · have hv20 := iT hv20 hb21
            refine Wg.ld rfl rfl rfl rfl rfl rfl ?_
            refine Wg.li rfl rfl rfl rfl (fun _ => rfl) ?_
            obtain ⟨v22, hv22, hv20⟩ := ob hv20
            refine Wg.bin (k := .i64) (k2 := .i64) (a := s15.2.1) (b := 1) rfl rfl rfl rfl rfl (bAdd hv22) ?_
            obtain ⟨v23, hv23, hv20⟩ := ob hv20
            refine Wg.call rfl rfl rfl rfl (s61_ev hv23 _) ?_
            refine Wg.li rfl rfl rfl rfl (fun _ => rfl) ?_
            refine Wg.nil ⟨some_b hv20, ?_, rfl⟩
            repeat (first | exact Env.le_refl _ | refine Env.le_put rfl ?_)
          · have hv20 := iF hv20 hb21
            iterate 4 refine Wg.skip rfl rfl ?_
            refine Wg.li rfl rfl rfl rfl (fun _ => rfl) ?_
            refine Wg.nil ⟨some_b hv20, ?_, rfl⟩
            repeat (first | exact Env.le_refl _ | refine Env.le_put rfl ?_)
          refine Wg.li rfl rfl rfl rfl (fun _ => rfl) ?_
          refine Wg.nil ?_
          refine ⟨fun _ => ?_, fun h => absurd (by decide) h⟩
          refine Wp.reg rfl ?_
          refine Wg.li rfl rfl rfl rfl (fun _ => rfl) ?_
          refine Wg.ld rfl rfl rfl rfl rfl rfl ?_
          refine Wg.li rfl rfl rfl rfl (fun _ => rfl) ?_
          refine Wg.nil ?_
          refine ⟨fun _ => ?_, fun h => absurd (by decide) h⟩
          refine Wp.reg rfl ?_
          obtain ⟨v25, hv25, ho⟩ := ob ho
          refine Wg.bin (k := .i64) (k2 := .i64) (a := s15.2.2) (b := 1) rfl rfl rfl rfl rfl (bAdd hv25) ?_
          refine Wg.li rfl rfl rfl rfl (fun _ => rfl) ?_
          refine Wg.nil ?_
          have ho := Option.some.inj ho
          subst ho
          exact ⟨by decide, (Sub.canon [] [] [(1, .ro (eTable a0)), (3, .bool v24), (6, .int .i64 v19.high), (30, lst (eLs eSpan) a0.offices .unk), (31, .int .i64 (a0.offices.length : Int)), (32, .int .i64 s8.2), (42, lst eSpan v12 .unk), (43, .int .i64 (v12.length : Int)), (44, .int .i64 v25)] rfl (by decide) trivial (.pure rfl (.ro (pTab _)) (.pure rfl (.bool _) (.pure rfl (.int _ _) (.pure rfl (Pure.lst (pLs pSpan) _ pUnk) (.pure rfl (.int _ _) (.pure rfl (.int _ _) (.pure rfl (Pure.lst pSpan _ pUnk) (.pure rfl (.int _ _) (.pure rfl (.int _ _) .nil))))))))))⟩
        · have ho := iF ho hb18
          refine Wp.exit ?_
          refine ⟨fun h => absurd h (by decide), fun _ => ?_⟩
          have ho := Option.some.inj ho
          subst ho
          exact ⟨by decide, by decide, (Sub.canon [] [] [(1, .ro (eTable a0)), (3, .bool s15.1), (30, lst (eLs eSpan) a0.offices .unk), (31, .int .i64 (a0.offices.length : Int)), (32, .int .i64 s8.2)] rfl (by decide) trivial (.pure rfl (.ro (pTab _)) (.pure rfl (.bool _) (.pure rfl (Pure.lst (pLs pSpan) _ pUnk) (.pure rfl (.int _ _) (.pure rfl (.int _ _) .nil))))))⟩
      · intro x e' H' hP
        obtain ⟨hPx, hP2⟩ := hP
        subst hPx
        have hP := And.intro (True.intro) hP2
        refine ⟨fun _ => ?_, fun h => absurd (by decide) h⟩
        refine Sub.use hP.2 ?_
        refine Wp.reg rfl ?_
        obtain ⟨v27, hv27, ho⟩ := ob ho
        refine Wg.bin (k := .i64) (k2 := .i64) (a := s8.2) (b := 1) rfl rfl rfl rfl rfl (bAdd hv27) ?_
        refine Wg.li rfl rfl rfl rfl (fun _ => rfl) ?_
        refine Wg.nil ?_
        have ho := Option.some.inj ho
        subst ho
        exact ⟨by decide, (Sub.canon [] [] [(1, .ro (eTable a0)), (3, .bool o16), (30, lst (eLs eSpan) a0.offices .unk), (31, .int .i64 (a0.offices.length : Int)), (32, .int .i64 v27)] rfl (by decide) trivial (.pure rfl (.ro (pTab _)) (.pure rfl (.bool _) (.pure rfl (Pure.lst (pLs pSpan) _ pUnk) (.pure rfl (.int _ _) (.pure rfl (.int _ _) .nil))))))⟩
    · have ho := iF ho hb11
      refine Wp.exit ?_
      refine ⟨fun h => absurd h (by decide), fun _ => ?_⟩
      have ho := Option.some.inj ho
      subst ho
      exact ⟨by decide, by decide, (Sub.canon [] [] [(1, .ro (eTable a0)), (3, .bool s8.1)] rfl (by decide) trivial (.pure rfl (.ro (pTab _)) (.pure rfl (.bool _) .nil)))⟩
  · intro x e' H' hP
    obtain ⟨hPx, hP2⟩ := hP
    subst hPx
    have hP := And.intro (True.intro) hP2
    refine ⟨fun _ => ?_, fun h => absurd (by decide) h⟩
    refine Sub.use hP.2 ?_
    refine Wp.seq ?_
    refine Wp.seq ?_
    refine Wp.reg rfl ?_
    iterate 4 refine Wg.li rfl rfl rfl rfl (fun _ => rfl) ?_
    refine Wg.nil ?_
    refine ⟨fun _ => ?_, fun h => absurd (by decide) h⟩
    refine Wp.block ?_
    obtain ⟨o30, hx31, h⟩ := ob h
    refine Sub.use (Sub.canon [] [] [(1, .ro (eTable a0)), (3, .bool o9), (60, lst eTrain a0.trains .unk), (61, .int .i64 (a0.trains.length : Int)), (62, .int .i64 0)] rfl (by decide) trivial (.pure rfl (.ro (pTab _)) (.pure rfl (.bool _) (.pure rfl (Pure.lst pTrain _ pUnk) (.pure rfl (.int _ _) (.pure rfl (.int _ _) .nil)))))) ?_
    refine Wp.after (Wp.iterS (s14_l64 N a0) (fun s29 => Env.ofList [(1, .ro (eTable a0)), (3, .bool s29.1), (60, lst eTrain a0.trains .unk), (61, .int .i64 (a0.trains.length : Int)), (62, .int .i64 s29.2)]) (fun s29 => hp []) (fun o30 x e' H' => x = .exit 4 ∧ Sub ctx F14 (Env.ofList [(3, .bool o30)]) (hp []) e' H') ?_ N (o9, 0) _ hx31) ?_
    · intro s29 o ho
      unfold s14_l64 at ho
      refine Wp.seq ?_
      refine Wp.reg rfl ?_
      refine Wg.li rfl rfl rfl rfl (fun _ => rfl) ?_
      refine Wg.nil ?_
      refine ⟨fun _ => ?_, fun h => absurd (by decide) h⟩
      refine Wp.seq ?_
      refine Wp.cond (decide (s29.2 < (a0.trains.length : Int))) rfl (fun hb32 => ?_) (fun hb32 => ?_)
      · have ho := iT ho hb32
        refine Wp.skip ?_
        refine ⟨fun _ => ?_, fun h => absurd (by decide) h⟩
        refine Wp.seq ?_
        refine Wp.block ?_
        refine Wp.seq ?_
        refine Wp.reg rfl ?_
        obtain ⟨v33, hv33, ho⟩ := ob ho
        refine Wg.idx (f := eTrain) (xs := a0.trains) (c := .unk) rfl rfl rfl rfl rfl rfl rfl lTrain (by decide) hv33 ?_
        refine Wg.li rfl rfl rfl rfl (fun _ => rfl) ?_
        refine Wg.alloc rfl rfl rfl rfl ?_
        refine Wg.heavy true (Nat.le_of_ble_eq_true rfl) rfl rfl rfl rfl ?_
        refine Wg.nil ?_
        refine ⟨fun _ => ?_, fun h => absurd (by decide) h⟩
        refine Wp.seq ?_
        refine Wp.reg rfl ?_
        iterate 2 refine Wg.li rfl rfl rfl rfl (fun _ => rfl) ?_
        obtain ⟨v37, hv34, ho⟩ := ob ho
        refine Wg.grp 5 72 67 v37 s29.1 rfl rfl (Nat.le_of_ble_eq_true rfl) (fun hb35 => ?_) (fun hb35 => ?_) ?_
        · have hv34 := iT hv34 hb35
          refine Wg.li rfl rfl rfl rfl (fun _ => rfl) ?_
          refine Wg.ld rfl rfl rfl rfl rfl rfl ?_
          refine Wg.li rfl rfl rfl rfl (fun _ => rfl) ?_
          obtain ⟨v36, hv36, hv34⟩ := ob hv34
          refine Wg.call rfl rfl rfl rfl (s60_ev hv36 _) ?_
          refine Wg.li rfl rfl rfl rfl (fun _ => rfl) ?_
          refine Wg.nil ⟨some_b hv34, ?_, rfl⟩
          repeat (first | exact Env.le_refl _ | refine Env.le_put rfl ?_)
        · have hv34 := iF hv34 hb35
          iterate 4 refine Wg.skip rfl rfl ?_
          refine Wg.li rfl rfl rfl rfl (fun _ => rfl) ?_
          refine Wg.nil ⟨some_b hv34, ?_, rfl⟩
          repeat (first | exact Env.le_refl _ | refine Env.le_put rfl ?_)
        refine Wg.li rfl rfl rfl rfl (fun _ => rfl) ?_
        obtain ⟨v41, hv38, ho⟩ := ob ho
        refine Wg.grp 4 77 73 v41 v37 rfl rfl (Nat.le_of_ble_eq_true rfl) (fun hb39 => ?_) (fun hb39 => ?_) ?_
        · have hv38 := iT hv38 hb39
          refine Wg.li rfl rfl rfl rfl (fun _ => rfl) ?_
          refine Wg.ld rfl rfl rfl rfl rfl rfl ?_
          obtain ⟨v40, hv40, hv38⟩ := ob hv38
          refine Wg.call rfl rfl rfl rfl (s61_ev hv40 _) ?_
          refine Wg.li rfl rfl rfl rfl (fun _ => rfl) ?_
          refine Wg.nil ⟨some_b hv38, ?_, rfl⟩
          repeat (first | exact Env.le_refl _ | refine Env.le_put rfl ?_)
        · have hv38 := iF hv38 hb39
          iterate 3 refine Wg.skip rfl rfl ?_
          refine Wg.li rfl rfl rfl rfl (fun _ => rfl) ?_
          refine Wg.nil ⟨some_b hv38, ?_, rfl⟩
          repeat (first | exact Env.le_refl _ | refine Env.le_put rfl ?_)
        refine Wg.li rfl rfl rfl rfl (fun _ => rfl) ?_
        refine Wg.nil ?_
        refine ⟨fun _ => ?_, fun h => absurd (by decide) h⟩
        refine Wp.seq ?_
        refine Wp.reg rfl ?_
        refine Wg.li rfl rfl rfl rfl (fun _ => rfl) ?_
        refine Wg.nil ?_
        refine ⟨fun _ => ?_, fun h => absurd (by decide) h⟩
        refine Wp.seq ?_
        refine Wp.reg rfl ?_
        refine Wg.li rfl rfl rfl rfl (fun _ => rfl) ?_
        refine Wg.ld rfl rfl rfl rfl rfl rfl ?_
        iterate 2 refine Wg.li rfl rfl rfl rfl (fun _ => rfl) ?_
        refine Wg.nil ?_
        refine ⟨fun _ => ?_, fun h => absurd (by decide) h⟩
        refine Wp.block ?_
        obtain ⟨o43, hx44, ho⟩ := ob ho
        refine Sub.use (Sub.canon [] [] [(1, .ro (eTable a0)), (3, .bool v41), (11, .int .i64 (-1)), (60, lst eTrain a0.trains .unk), (61, .int .i64 (a0.trains.length : Int)), (62, .int .i64 s29.2), (79, lst eStop v33.stops .unk), (80, .int .i64 (v33.stops.length : Int)), (81, .int .i64 0)] rfl (by decide) trivial (.pure rfl (.ro (pTab _)) (.pure rfl (.bool _) (.pure rfl (.int _ _) (.pure rfl (Pure.lst pTrain _ pUnk) (.pure rfl (.int _ _) (.pure rfl (.int _ _) (.pure rfl (Pure.lst pStop _ pUnk) (.pure rfl (.int _ _) (.pure rfl (.int _ _) .nil)))))))))) ?_
        refine Wp.after (Wp.iterS (s14_l62 N a0 v33) (fun s42 => Env.ofList [(1, .ro (eTable a0)), (3, .bool s42.1), (11, .int .i64 s42.2.1), (60, lst eTrain a0.trains .unk), (61, .int .i64 (a0.trains.length : Int)), (62, .int .i64 s29.2), (79, lst eStop v33.stops .unk), (80, .int .i64 (v33.stops.length : Int)), (81, .int .i64 s42.2.2)]) (fun s42 => hp []) (fun o43 x e' H' => x = .exit 6 ∧ Sub ctx F14 (Env.ofList [(1, .ro (eTable a0)), (3, .bool o43), (60, lst eTrain a0.trains .unk), (61, .int .i64 (a0.trains.length : Int)), (62, .int .i64 s29.2)]) (hp []) e' H') ?_ N (v41, (-1), 0) _ hx44) ?_
        · intro s42 o ho
          unfold s14_l62 at ho
          refine Wp.seq ?_
          refine Wp.reg rfl ?_
          refine Wg.li rfl rfl rfl rfl (fun _ => rfl) ?_
          refine Wg.nil ?_
          refine ⟨fun _ => ?_, fun h => absurd (by decide) h⟩
          refine Wp.seq ?_
          refine Wp.cond (decide (s42.2.2 < (v33.stops.length : Int))) rfl (fun hb45 => ?_) (fun hb45 => ?_)
          · have ho := iT ho hb45
            refine Wp.skip ?_
            refine ⟨fun _ => ?_, fun h => absurd (by decide) h⟩
            refine Wp.seq ?_
            refine Wp.block ?_
            refine Wp.seq ?_
            refine Wp.reg rfl ?_
            obtain ⟨v46, hv46, ho⟩ := ob ho
            refine Wg.idx (f := eStop) (xs := v33.stops) (c := .unk) rfl rfl rfl rfl rfl rfl rfl lStop (by decide) hv46 ?_
            refine Wg.li rfl rfl rfl rfl (fun _ => rfl) ?_
            refine Wg.alloc rfl rfl rfl rfl ?_
            refine Wg.heavy true (Nat.le_of_ble_eq_true rfl) rfl rfl rfl rfl ?_
            refine Wg.nil ?_
            refine ⟨fun _ => ?_, fun h => absurd (by decide) h⟩
            refine Wp.seq ?_
            refine Wp.reg rfl ?_
            iterate 2 refine Wg.li rfl rfl rfl rfl (fun _ => rfl) ?_
            obtain ⟨v51, hv47, ho⟩ := ob ho
            refine Wg.grp 8 94 86 v51 s42.1 rfl rfl (Nat.le_of_ble_eq_true rfl) (fun hb48 => ?_) (fun hb48 => ?_) ?_
            · have hv47 := iT hv47 hb48
              refine Wg.li rfl rfl rfl rfl (fun _ => rfl) ?_
              refine Wg.ld rfl rfl rfl rfl rfl rfl ?_
              iterate 3 refine Wg.li rfl rfl rfl rfl (fun _ => rfl) ?_
              obtain ⟨v49, hv49, hv47⟩ := ob hv47
              refine Wg.bin (k := .i64) (k2 := .i64) (a := (a0.offices.length : Int)) (b := 1) rfl rfl rfl rfl rfl (bSub hv49) ?_
              obtain ⟨v50, hv50, hv47⟩ := ob hv47
              refine Wg.call rfl rfl rfl rfl (s60_ev hv50 _) ?_
              refine Wg.li rfl rfl rfl rfl (fun _ => rfl) ?_
              refine Wg.nil ⟨some_b hv47, ?_, rfl⟩
              repeat (first | exact Env.le_refl _ | refine Env.le_put rfl ?_)
            · have hv47 := iF hv47 hb48
              iterate 7 refine Wg.skip rfl rfl ?_
              refine Wg.li rfl rfl rfl rfl (fun _ => rfl) ?_
              refine Wg.nil ⟨some_b hv47, ?_, rfl⟩
              repeat (first | exact Env.le_refl _ | refine Env.le_put rfl ?_)
            refine Wg.li rfl rfl rfl rfl (fun _ => rfl) ?_
            obtain ⟨v56, hv52, ho⟩ := ob ho
            refine Wg.grp 6 101 95 v56 v51 rfl rfl (Nat.le_of_ble_eq_true rfl) (fun hb53 => ?_) (fun hb53 => ?_) ?_
            · have hv52 := iT hv52 hb53
              refine Wg.li rfl rfl rfl rfl (fun _ => rfl) ?_
              refine Wg.ld rfl rfl rfl rfl rfl rfl ?_
              refine Wg.li rfl rfl rfl rfl (fun _ => rfl) ?_
              obtain ⟨v54, hv54, hv52⟩ := ob hv52
              refine Wg.bin (k := .i64) (k2 := .i64) (a := s42.2.1) (b := 1) rfl rfl rfl rfl rfl (bAdd hv54) ?_
              obtain ⟨v55, hv55, hv52⟩ := ob hv52
              refine Wg.call rfl rfl rfl rfl (s60_ev hv55 _) ?_
              refine Wg.li rfl rfl rfl rfl (fun _ => rfl) ?_
              refine Wg.nil ⟨some_b hv52, ?_, rfl⟩
              repeat (first | exact Env.le_refl _ | refine Env.le_put rfl ?_)
            · have hv52 := iF hv52 hb53
              iterate 5 refine Wg.skip rfl rfl ?_
              refine Wg.li rfl rfl rfl rfl (fun _ => rfl) ?_
              refine Wg.nil ⟨some_b hv52, ?_, rfl⟩
              repeat (first | exact Env.le_refl _ | refine Env.le_put rfl ?_)
            refine Wg.li rfl rfl rfl rfl (fun _ => rfl) ?_
            obtain ⟨v60, hv57, ho⟩ := ob ho
            refine Wg.grp 6 108 102 v60 v56 rfl rfl (Nat.le_of_ble_eq_true rfl) (fun hb58 => ?_) (fun hb58 => ?_) ?_
            · have hv57 := iT hv57 hb58
              refine Wg.li rfl rfl rfl rfl (fun _ => rfl) ?_
              refine Wg.ld rfl rfl rfl rfl rfl rfl ?_
              refine Wg.li rfl rfl rfl rfl (fun _ => rfl) ?_
              refine Wg.ld rfl rfl rfl rfl rfl rfl ?_
              obtain ⟨v59, hv59, hv57⟩ := ob hv57
              refine Wg.call rfl rfl rfl rfl (s60_ev hv59 _) ?_
              refine Wg.li rfl rfl rfl rfl (fun _ => rfl) ?_
              refine Wg.nil ⟨some_b hv57, ?_, rfl⟩
              repeat (first | exact Env.le_refl _ | refine Env.le_put rfl ?_)
            · have hv57 := iF hv57 hb58
              iterate 5 refine Wg.skip rfl rfl ?_
              refine Wg.li rfl rfl rfl rfl (fun _ => rfl) ?_
              refine Wg.nil ⟨some_b hv57, ?_, rfl⟩
              repeat (first | exact Env.le_refl _ | refine Env.le_put rfl ?_)
            refine Wg.li rfl rfl rfl rfl (fun _ => rfl) ?_
            refine Wg.nil ?_
            refine ⟨fun _ => ?_, fun h => absurd (by decide) h⟩
            refine Wp.reg rfl ?_
            refine Wg.li rfl rfl rfl rfl (fun _ => rfl) ?_
            refine Wg.ld rfl rfl rfl rfl rfl rfl ?_
            refine Wg.li rfl rfl rfl rfl (fun _ => rfl) ?_
            refine Wg.nil ?_
            refine ⟨fun _ => ?_, fun h => absurd (by decide) h⟩
            refine Wp.reg rfl ?_
            obtain ⟨v61, hv61, ho⟩ := ob ho
            refine Wg.bin (k := .i64) (k2 := .i64) (a := s42.2.2) (b := 1) rfl rfl rfl rfl rfl (bAdd hv61) ?_
            refine Wg.li rfl rfl rfl rfl (fun _ => rfl) ?_
            refine Wg.nil ?_
            have ho := Option.some.inj ho
            subst ho
            exact ⟨by decide, (Sub.canon [] [] [(1, .ro (eTable a0)), (3, .bool v60), (11, .int .i64 v46.leave), (60, lst eTrain a0.trains .unk), (61, .int .i64 (a0.trains.length : Int)), (62, .int .i64 s29.2), (79, lst eStop v33.stops .unk), (80, .int .i64 (v33.stops.length : Int)), (81, .int .i64 v61)] rfl (by decide) trivial (.pure rfl (.ro (pTab _)) (.pure rfl (.bool _) (.pure rfl (.int _ _) (.pure rfl (Pure.lst pTrain _ pUnk) (.pure rfl (.int _ _) (.pure rfl (.int _ _) (.pure rfl (Pure.lst pStop _ pUnk) (.pure rfl (.int _ _) (.pure rfl (.int _ _) .nil))))))))))⟩
          · have ho := iF ho hb45
            refine Wp.exit ?_
            refine ⟨fun h => absurd h (by decide), fun _ => ?_⟩
            have ho := Option.some.inj ho
            subst ho
            exact ⟨by decide, by decide, (Sub.canon [] [] [(1, .ro (eTable a0)), (3, .bool s42.1), (60, lst eTrain a0.trains .unk), (61, .int .i64 (a0.trains.length : Int)), (62, .int .i64 s29.2)] rfl (by decide) trivial (.pure rfl (.ro (pTab _)) (.pure rfl (.bool _) (.pure rfl (Pure.lst pTrain _ pUnk) (.pure rfl (.int _ _) (.pure rfl (.int _ _) .nil))))))⟩
        · intro x e' H' hP
          obtain ⟨hPx, hP2⟩ := hP
          subst hPx
          have hP := And.intro (True.intro) hP2
          refine ⟨fun _ => ?_, fun h => absurd (by decide) h⟩
          refine Sub.use hP.2 ?_
          refine Wp.reg rfl ?_
          obtain ⟨v63, hv63, ho⟩ := ob ho
          refine Wg.bin (k := .i64) (k2 := .i64) (a := s29.2) (b := 1) rfl rfl rfl rfl rfl (bAdd hv63) ?_
          refine Wg.li rfl rfl rfl rfl (fun _ => rfl) ?_
          refine Wg.nil ?_
          have ho := Option.some.inj ho
          subst ho
          exact ⟨by decide, (Sub.canon [] [] [(1, .ro (eTable a0)), (3, .bool o43), (60, lst eTrain a0.trains .unk), (61, .int .i64 (a0.trains.length : Int)), (62, .int .i64 v63)] rfl (by decide) trivial (.pure rfl (.ro (pTab _)) (.pure rfl (.bool _) (.pure rfl (Pure.lst pTrain _ pUnk) (.pure rfl (.int _ _) (.pure rfl (.int _ _) .nil))))))⟩
      · have ho := iF ho hb32
        refine Wp.exit ?_
        refine ⟨fun h => absurd h (by decide), fun _ => ?_⟩
        have ho := Option.some.inj ho
        subst ho
        exact ⟨by decide, by decide, (Sub.canon [] [] [(3, .bool s29.1)] rfl (by decide) trivial (.pure rfl (.bool _) .nil))⟩
    · intro x e' H' hP
      obtain ⟨hPx, hP2⟩ := hP
      subst hPx
      have hP := And.intro (True.intro) hP2
      refine ⟨fun _ => ?_, fun h => absurd (by decide) h⟩
      refine Sub.use hP.2 ?_
      refine Wp.seq ?_
      refine Wp.seq ?_
      refine Wp.reg rfl ?_
      iterate 2 refine Wg.li rfl rfl rfl rfl (fun _ => rfl) ?_
      refine Wg.nil ?_
      refine ⟨fun _ => ?_, fun h => absurd (by decide) h⟩
      refine Wp.cond (!o30) rfl (fun hb65 => ?_) (fun hb65 => ?_)
      · have h := iT h hb65
        refine Wp.seq ?_
        refine Wp.reg rfl ?_
        refine Wg.li rfl rfl rfl rfl (fun _ => rfl) ?_
        refine Wg.nil ?_
        refine ⟨fun _ => ?_, fun h => absurd (by decide) h⟩
        refine Wp.ret ?_
        refine ⟨fun h => absurd h (by decide), fun _ => ?_⟩
        have h := Option.some.inj h
        subst h
        exact ⟨.inr (by decide), _, rfl, rfl⟩
      · have h := iF h hb65
        refine Wp.skip ?_
        refine ⟨fun _ => ?_, fun h => absurd (by decide) h⟩
        refine Wp.seq ?_
        refine Wp.reg rfl ?_
        refine Wg.li rfl rfl rfl rfl (fun _ => rfl) ?_
        refine Wg.nil ?_
        refine ⟨fun _ => ?_, fun h => absurd (by decide) h⟩
        refine Wp.ret ?_
        have h := Option.some.inj h
        subst h
        exact ⟨.inr (by decide), _, rfl, rfl⟩
def s97 (N : Nat) (a0 : Span) (c0 : Int) : Option (Bool) :=
  (s60 N c0 a0.low a0.high).bind fun v1 =>
  some v1
theorem at97 : ctx.P.funcs[97]? = some Tryd.f97 := by kernel_rfl
theorem s97_ev {N : Nat} {a0 : Span} {c0 : Int} {r : Bool} (h : s97 N a0 c0 = some r) : ∀ H, Ev ctx (.call 97 [.agg (eSpan a0), .ro [.int .i64 c0]] H (.bool r) H) := by
  refine Ev.of_pure at97 rfl rfl (Nat.le_of_ble_eq_true rfl) (pCons (pv (pSpan _)) (pCons (.ro (pCons (.int _ _) pNil)) pNil)) (.bool _) ?_
  unfold s97 at h
  refine Wp.seq ?_
  refine Wp.reg rfl ?_
  refine Wg.box rfl rfl rfl rfl ?_
  refine Wg.li rfl rfl rfl rfl (fun _ => rfl) ?_
  refine Wg.nil ?_
  refine ⟨fun _ => ?_, fun h => absurd (by decide) h⟩
  refine Wp.seq ?_
  refine Wp.reg rfl ?_
  iterate 5 refine Wg.li rfl rfl rfl rfl (fun _ => rfl) ?_
  obtain ⟨v1, hv1, h⟩ := ob h
  refine Wg.call rfl rfl rfl rfl (s60_ev hv1 _) ?_
  refine Wg.li rfl rfl rfl rfl (fun _ => rfl) ?_
  refine Wg.nil ?_
  refine ⟨fun _ => ?_, fun h => absurd (by decide) h⟩
  refine Wp.ret ?_
  have h := Option.some.inj h
  subst h
  exact ⟨.inr (by decide), _, rfl, rfl⟩
def s105_l9 (N : Nat) (a0 : (List Span)) (p1 : Span → Option (Bool)) (s1 : Int) : Option ((Int) ⊕ (Unit ⊕ Int)) :=
  if (decide (s1 < (a0.length : Int))) then
    (ix a0 s1).bind fun v5 =>
    (p1 v5).bind fun v6 =>
    if v6 then
      some (.inr (.inr s1))
    else
      (ck (s1 + 1)).bind fun v8 =>
      some (.inl v8)
  else
    some (.inr (.inl ()))
def s105 (N : Nat) (a0 : (List Span)) (p1 : Span → Option (Bool)) : Option (Int) :=
  (iter (s105_l9 N a0 p1) N 0).bind fun o2 => match o2 with
  | .inl s10 =>
    some (-1)
  | .inr s11 =>
    some s11
abbrev F105 : Fr := { r := false, N := 19, m := 0 }
theorem at105 : ctx.P.funcs[105]? = some Tryd.f105 := by kernel_rfl
theorem s105_ev {N : Nat} {a0 : (List Span)} {p1 : Span → Option (Bool)} {fv1 : AV} (hfv1 : Pure fv1) (happfv1 : ∀ (x0 : Span) r, p1 x0 = some r → ∀ H, Ev ctx (.app fv1 [.agg (eSpan x0)] H (.bool r) H)) {r : Int} (h : s105 N a0 p1 = some r) : ∀ H, Ev ctx (.call 105 [lst eSpan a0 .unk, fv1] H (.int .i64 r) H) := by
  refine Ev.of_pure at105 rfl rfl (Nat.le_of_ble_eq_true rfl) (pCons (Pure.lst pSpan _ pUnk) (pCons hfv1 pNil)) (.int _ _) ?_
  unfold s105 at h
  refine Wp.seq ?_
  refine Wp.reg rfl ?_
  refine Wg.li rfl rfl rfl rfl (fun _ => rfl) ?_
  refine Wg.nil ?_
  refine ⟨fun _ => ?_, fun h => absurd (by decide) h⟩
  refine Wp.seq ?_
  refine Wp.seq ?_
  refine Wp.reg rfl ?_
  iterate 3 refine Wg.li rfl rfl rfl rfl (fun _ => rfl) ?_
  refine Wg.nil ?_
  refine ⟨fun _ => ?_, fun h => absurd (by decide) h⟩
  refine Wp.block ?_
  obtain ⟨o2, hx3, h⟩ := ob h
  refine Sub.use (Sub.canon [] [] [(0, lst eSpan a0 .unk), (1, fv1), (7, .int .i64 (a0.length : Int)), (8, .int .i64 0)] rfl (by decide) trivial (.pure rfl (Pure.lst pSpan _ pUnk) (.pure rfl hfv1 (.pure rfl (.int _ _) (.pure rfl (.int _ _) .nil))))) ?_
  refine Wp.after (Wp.iterS (s105_l9 N a0 p1) (fun s1 => Env.ofList [(0, lst eSpan a0 .unk), (1, fv1), (7, .int .i64 (a0.length : Int)), (8, .int .i64 s1)]) (fun s1 => hp []) (fun o2 x e' H' => match o2 with | .inl s => x = .exit 0 ∧ Sub ctx F105 (Env.ofList []) (hp []) e' H' | .inr s => x = .ret ∧ ∃ vs, resA ctx e' H' [.tmp 4] = some vs ∧ retA vs = .int .i64 s) ?_ N 0 _ hx3) ?_
  · intro s1 o ho
    unfold s105_l9 at ho
    refine Wp.seq ?_
    refine Wp.reg rfl ?_
    refine Wg.li rfl rfl rfl rfl (fun _ => rfl) ?_
    refine Wg.nil ?_
    refine ⟨fun _ => ?_, fun h => absurd (by decide) h⟩
    refine Wp.seq ?_
    refine Wp.cond (decide (s1 < (a0.length : Int))) rfl (fun hb4 => ?_) (fun hb4 => ?_)
    · have ho := iT ho hb4
      refine Wp.skip ?_
      refine ⟨fun _ => ?_, fun h => absurd (by decide) h⟩
      refine Wp.seq ?_
      refine Wp.block ?_
      refine Wp.seq ?_
      refine Wp.reg rfl ?_
      iterate 2 refine Wg.li rfl rfl rfl rfl (fun _ => rfl) ?_
      refine Wg.nil ?_
      refine ⟨fun _ => ?_, fun h => absurd (by decide) h⟩
      refine Wp.seq ?_
      refine Wp.reg rfl ?_
      iterate 3 refine Wg.li rfl rfl rfl rfl (fun _ => rfl) ?_
      obtain ⟨v5, hv5, ho⟩ := ob ho
      refine Wg.idx (f := eSpan) (xs := a0) (c := .unk) rfl rfl rfl rfl rfl rfl rfl lSpan (by decide) hv5 ?_
      refine Wg.li rfl rfl rfl rfl (fun _ => rfl) ?_
      obtain ⟨v6, hv6, ho⟩ := ob ho
      refine Wg.callv rfl rfl rfl rfl rfl (happfv1 _ _ hv6 _) ?_
      refine Wg.nil ?_
      refine ⟨fun _ => ?_, fun h => absurd (by decide) h⟩
      refine Wp.cond v6 rfl (fun hb7 => ?_) (fun hb7 => ?_)
      · have ho := iT ho hb7
        refine Wp.seq ?_
        refine Wp.reg rfl ?_
        iterate 2 refine Wg.li rfl rfl rfl rfl (fun _ => rfl) ?_
        refine Wg.nil ?_
        refine ⟨fun _ => ?_, fun h => absurd (by decide) h⟩
        refine Wp.ret ?_
        refine ⟨fun h => absurd h (by decide), fun _ => ?_⟩
        have ho := Option.some.inj ho
        subst ho
        exact ⟨by decide, by decide, _, rfl, rfl⟩
      · have ho := iF ho hb7
        refine Wp.skip ?_
        refine ⟨fun _ => ?_, fun h => absurd (by decide) h⟩
        refine Wp.reg rfl ?_
        obtain ⟨v8, hv8, ho⟩ := ob ho
        refine Wg.bin (k := .i64) (k2 := .i64) (a := s1) (b := 1) rfl rfl rfl rfl rfl (bAdd hv8) ?_
        refine Wg.li rfl rfl rfl rfl (fun _ => rfl) ?_
        refine Wg.nil ?_
        have ho := Option.some.inj ho
        subst ho
        exact ⟨by decide, (Sub.canon [] [] [(0, lst eSpan a0 .unk), (1, fv1), (7, .int .i64 (a0.length : Int)), (8, .int .i64 v8)] rfl (by decide) trivial (.pure rfl (Pure.lst pSpan _ pUnk) (.pure rfl hfv1 (.pure rfl (.int _ _) (.pure rfl (.int _ _) .nil)))))⟩
    · have ho := iF ho hb4
      refine Wp.exit ?_
      refine ⟨fun h => absurd h (by decide), fun _ => ?_⟩
      have ho := Option.some.inj ho
      subst ho
      exact ⟨by decide, by decide, (Sub.canon [] [] [] rfl (by decide) trivial .nil)⟩
  · intro x e' H' hP
    rcases o2 with s10 | s11
    · obtain ⟨hPx, hP2⟩ := hP
      subst hPx
      have hP := And.intro (True.intro) hP2
      refine ⟨fun _ => ?_, fun h => absurd (by decide) h⟩
      refine Sub.use hP.2 ?_
      refine Wp.seq ?_
      refine Wp.reg rfl ?_
      refine Wg.li rfl rfl rfl rfl (fun _ => rfl) ?_
      refine Wg.nil ?_
      refine ⟨fun _ => ?_, fun h => absurd (by decide) h⟩
      refine Wp.ret ?_
      have h := Option.some.inj h
      subst h
      exact ⟨.inr (by decide), _, rfl, rfl⟩
    · have hPx := hP.1
      subst hPx
      refine ⟨fun h => absurd h (by decide), fun _ => ?_⟩
      exact ⟨.inr rfl, by obtain ⟨vs, h1, h2⟩ := hP.2; exact ⟨vs, h1, by rw [h2]; have h := Option.some.inj h; subst h; rfl⟩⟩
def s96 (N : Nat) (a0 : (List Span)) (p1 : Span → Option (Bool)) : Option (Bool) :=
  (s105 N a0 p1).bind fun v1 =>
  some (decide (v1 ≥ 0))
theorem at96 : ctx.P.funcs[96]? = some Tryd.f96 := by kernel_rfl
theorem s96_ev {N : Nat} {a0 : (List Span)} {p1 : Span → Option (Bool)} {fv1 : AV} (hfv1 : Pure fv1) (happfv1 : ∀ (x0 : Span) r, p1 x0 = some r → ∀ H, Ev ctx (.app fv1 [.agg (eSpan x0)] H (.bool r) H)) {r : Bool} (h : s96 N a0 p1 = some r) : ∀ H, Ev ctx (.call 96 [lst eSpan a0 .unk, fv1] H (.bool r) H) := by
  refine Ev.of_pure at96 rfl rfl (Nat.le_of_ble_eq_true rfl) (pCons (Pure.lst pSpan _ pUnk) (pCons hfv1 pNil)) (.bool _) ?_
  unfold s96 at h
  refine Wp.seq ?_
  refine Wp.reg rfl ?_
  refine Wg.li rfl rfl rfl rfl (fun _ => rfl) ?_
  refine Wg.nil ?_
  refine ⟨fun _ => ?_, fun h => absurd (by decide) h⟩
  refine Wp.seq ?_
  refine Wp.reg rfl ?_
  iterate 2 refine Wg.li rfl rfl rfl rfl (fun _ => rfl) ?_
  obtain ⟨v1, hv1, h⟩ := ob h
  refine Wg.call rfl rfl rfl rfl (s105_ev hfv1 happfv1 hv1 _) ?_
  iterate 2 refine Wg.li rfl rfl rfl rfl (fun _ => rfl) ?_
  refine Wg.nil ?_
  refine ⟨fun _ => ?_, fun h => absurd (by decide) h⟩
  refine Wp.ret ?_
  have h := Option.some.inj h
  subst h
  exact ⟨.inr (by decide), _, rfl, rfl⟩
def s69 (N : Nat) (a0 : Calc) (a1 : Int) (a2 : Int) : Option (Bool) :=
  (ix a0.t.offices a1).bind fun v1 =>
  (s96 N v1 (fun x0 => s97 N x0 a2)).bind fun v2 =>
  some v2
theorem at69 : ctx.P.funcs[69]? = some Tryd.f69 := by kernel_rfl
theorem s69_ev {N : Nat} {a0 : Calc} {a1 : Int} {a2 : Int} {r : Bool} (h : s69 N a0 a1 a2 = some r) : ∀ H, Ev ctx (.call 69 [.agg (eCalc a0), .int .i64 a1, .int .i64 a2] H (.bool r) H) := by
  refine Ev.of_pure at69 rfl rfl (Nat.le_of_ble_eq_true rfl) (pCons (pv (pCalcs _)) (pCons (.int _ _) (pCons (.int _ _) pNil))) (.bool _) ?_
  unfold s69 at h
  refine Wp.seq ?_
  refine Wp.reg rfl ?_
  refine Wg.box rfl rfl rfl rfl ?_
  refine Wg.box rfl rfl rfl rfl ?_
  refine Wg.li rfl rfl rfl rfl (fun _ => rfl) ?_
  refine Wg.nil ?_
  refine ⟨fun _ => ?_, fun h => absurd (by decide) h⟩
  refine Wp.seq ?_
  refine Wp.reg rfl ?_
  iterate 4 refine Wg.li rfl rfl rfl rfl (fun _ => rfl) ?_
  obtain ⟨v1, hv1, h⟩ := ob h
  refine Wg.idx (f := (eLs eSpan)) (xs := a0.t.offices) (c := .unk) rfl rfl rfl rfl rfl rfl rfl lLs (by decide) hv1 ?_
  iterate 2 refine Wg.li rfl rfl rfl rfl (fun _ => rfl) ?_
  obtain ⟨v2, hv2, h⟩ := ob h
  refine Wg.call rfl rfl rfl rfl (s96_ev (.func pNil (pCons (.ro (pCons (.int _ _) pNil)) pNil)) (fun x0 r h H => .func (s97_ev h H)) hv2 _) ?_
  refine Wg.li rfl rfl rfl rfl (fun _ => rfl) ?_
  refine Wg.nil ?_
  refine ⟨fun _ => ?_, fun h => absurd (by decide) h⟩
  refine Wp.ret ?_
  have h := Option.some.inj h
  subst h
  exact ⟨.inr (by decide), _, rfl, rfl⟩
def s98_l8 (N : Nat) (a0 : Calc) (a1 : Int) (s1 : Int) : Option ((Int) ⊕ (Unit ⊕ Int)) :=
  if (decide (s1 ≤ 2879)) then
    (s69 N a0 a1 s1).bind fun v5 =>
    if v5 then
      some (.inr (.inr s1))
    else
      (ck (s1 + 1)).bind fun v7 =>
      some (.inl v7)
  else
    some (.inr (.inl ()))
def s98 (N : Nat) (a0 : Calc) (a1 : Int) (a2 : Int) : Option (Int) :=
  (iter (s98_l8 N a0 a1) N a2).bind fun o2 => match o2 with
  | .inl s9 =>
    some 2880
  | .inr s10 =>
    some s10
abbrev F98 : Fr := { r := false, N := 21, m := 0 }
theorem at98 : ctx.P.funcs[98]? = some Tryd.f98 := by kernel_rfl
theorem s98_ev {N : Nat} {a0 : Calc} {a1 : Int} {a2 : Int} {r : Int} (h : s98 N a0 a1 a2 = some r) : ∀ H, Ev ctx (.call 98 [.agg (eCalc a0), .int .i64 a1, .int .i64 a2] H (.int .i64 r) H) := by
  refine Ev.of_pure at98 rfl rfl (Nat.le_of_ble_eq_true rfl) (pCons (pv (pCalcs _)) (pCons (.int _ _) (pCons (.int _ _) pNil))) (.int _ _) ?_
  unfold s98 at h
  refine Wp.seq ?_
  refine Wp.reg rfl ?_
  refine Wg.box rfl rfl rfl rfl ?_
  refine Wg.li rfl rfl rfl rfl (fun _ => rfl) ?_
  refine Wg.nil ?_
  refine ⟨fun _ => ?_, fun h => absurd (by decide) h⟩
  refine Wp.seq ?_
  refine Wp.reg rfl ?_
  iterate 3 refine Wg.li rfl rfl rfl rfl (fun _ => rfl) ?_
  refine Wg.nil ?_
  refine ⟨fun _ => ?_, fun h => absurd (by decide) h⟩
  refine Wp.seq ?_
  refine Wp.seq ?_
  refine Wp.reg rfl ?_
  iterate 2 refine Wg.li rfl rfl rfl rfl (fun _ => rfl) ?_
  refine Wg.nil ?_
  refine ⟨fun _ => ?_, fun h => absurd (by decide) h⟩
  refine Wp.block ?_
  obtain ⟨o2, hx3, h⟩ := ob h
  refine Sub.use (Sub.canon [] [] [(1, .int .i64 a1), (7, .func 69 [.agg (eCalc a0)] []), (8, .int .i64 a2)] rfl (by decide) trivial (.pure rfl (.int _ _) (.pure rfl (.func (pCons (pv (pCalcs _)) pNil) pNil) (.pure rfl (.int _ _) .nil)))) ?_
  refine Wp.after (Wp.iterS (s98_l8 N a0 a1) (fun s1 => Env.ofList [(1, .int .i64 a1), (7, .func 69 [.agg (eCalc a0)] []), (8, .int .i64 s1)]) (fun s1 => hp []) (fun o2 x e' H' => match o2 with | .inl s => x = .exit 0 ∧ Sub ctx F98 (Env.ofList []) (hp []) e' H' | .inr s => x = .ret ∧ ∃ vs, resA ctx e' H' [.tmp 6] = some vs ∧ retA vs = .int .i64 s) ?_ N a2 _ hx3) ?_
  · intro s1 o ho
    unfold s98_l8 at ho
    refine Wp.seq ?_
    refine Wp.seq ?_
    refine Wp.reg rfl ?_
    iterate 2 refine Wg.li rfl rfl rfl rfl (fun _ => rfl) ?_
    refine Wg.nil ?_
    refine ⟨fun _ => ?_, fun h => absurd (by decide) h⟩
    refine Wp.cond (decide (s1 ≤ 2879)) rfl (fun hb4 => ?_) (fun hb4 => ?_)
    · have ho := iT ho hb4
      refine Wp.skip ?_
      refine ⟨fun _ => ?_, fun h => absurd (by decide) h⟩
      refine Wp.seq ?_
      refine Wp.block ?_
      refine Wp.seq ?_
      refine Wp.reg rfl ?_
      iterate 3 refine Wg.li rfl rfl rfl rfl (fun _ => rfl) ?_
      obtain ⟨v5, hv5, ho⟩ := ob ho
      refine Wg.callv rfl rfl rfl rfl rfl (.func (s69_ev hv5 _)) ?_
      refine Wg.nil ?_
      refine ⟨fun _ => ?_, fun h => absurd (by decide) h⟩
      refine Wp.cond v5 rfl (fun hb6 => ?_) (fun hb6 => ?_)
      · have ho := iT ho hb6
        refine Wp.seq ?_
        refine Wp.reg rfl ?_
        iterate 2 refine Wg.li rfl rfl rfl rfl (fun _ => rfl) ?_
        refine Wg.nil ?_
        refine ⟨fun _ => ?_, fun h => absurd (by decide) h⟩
        refine Wp.ret ?_
        refine ⟨fun h => absurd h (by decide), fun _ => ?_⟩
        have ho := Option.some.inj ho
        subst ho
        exact ⟨by decide, by decide, _, rfl, rfl⟩
      · have ho := iF ho hb6
        refine Wp.skip ?_
        refine ⟨fun _ => ?_, fun h => absurd (by decide) h⟩
        refine Wp.reg rfl ?_
        refine Wg.li rfl rfl rfl rfl (fun _ => rfl) ?_
        obtain ⟨v7, hv7, ho⟩ := ob ho
        refine Wg.bin (k := .i64) (k2 := .i64) (a := s1) (b := 1) rfl rfl rfl rfl rfl (bAdd hv7) ?_
        refine Wg.li rfl rfl rfl rfl (fun _ => rfl) ?_
        refine Wg.nil ?_
        have ho := Option.some.inj ho
        subst ho
        exact ⟨by decide, (Sub.canon [] [] [(1, .int .i64 a1), (7, .func 69 [.agg (eCalc a0)] []), (8, .int .i64 v7)] rfl (by decide) trivial (.pure rfl (.int _ _) (.pure rfl (.func (pCons (pv (pCalcs _)) pNil) pNil) (.pure rfl (.int _ _) .nil))))⟩
    · have ho := iF ho hb4
      refine Wp.exit ?_
      refine ⟨fun h => absurd h (by decide), fun _ => ?_⟩
      have ho := Option.some.inj ho
      subst ho
      exact ⟨by decide, by decide, (Sub.canon [] [] [] rfl (by decide) trivial .nil)⟩
  · intro x e' H' hP
    rcases o2 with s9 | s10
    · obtain ⟨hPx, hP2⟩ := hP
      subst hPx
      have hP := And.intro (True.intro) hP2
      refine ⟨fun _ => ?_, fun h => absurd (by decide) h⟩
      refine Sub.use hP.2 ?_
      refine Wp.seq ?_
      refine Wp.reg rfl ?_
      refine Wg.li rfl rfl rfl rfl (fun _ => rfl) ?_
      refine Wg.nil ?_
      refine ⟨fun _ => ?_, fun h => absurd (by decide) h⟩
      refine Wp.ret ?_
      have h := Option.some.inj h
      subst h
      exact ⟨.inr (by decide), _, rfl, rfl⟩
    · have hPx := hP.1
      subst hPx
      refine ⟨fun h => absurd h (by decide), fun _ => ?_⟩
      exact ⟨.inr rfl, by obtain ⟨vs, h1, h2⟩ := hP.2; exact ⟨vs, h1, by rw [h2]; have h := Option.some.inj h; subst h; rfl⟩⟩
def s127 (N : Nat) (a0 : Calc) (a1 : Int) : Option (Int) :=
  (ix a0.t.trains a1).bind fun v1 =>
  some v1.late.low
theorem at127 : ctx.P.funcs[127]? = some Tryd.f127 := by kernel_rfl
theorem s127_ev {N : Nat} {a0 : Calc} {a1 : Int} {r : Int} (h : s127 N a0 a1 = some r) : ∀ H, Ev ctx (.call 127 [.agg (eCalc a0), .int .i64 a1] H (.int .i64 r) H) := by
  refine Ev.of_pure at127 rfl rfl (Nat.le_of_ble_eq_true rfl) (pCons (pv (pCalcs _)) (pCons (.int _ _) pNil)) (.int _ _) ?_
  unfold s127 at h
  refine Wp.seq ?_
  refine Wp.reg rfl ?_
  refine Wg.box rfl rfl rfl rfl ?_
  refine Wg.li rfl rfl rfl rfl (fun _ => rfl) ?_
  refine Wg.nil ?_
  refine ⟨fun _ => ?_, fun h => absurd (by decide) h⟩
  refine Wp.seq ?_
  refine Wp.reg rfl ?_
  iterate 4 refine Wg.li rfl rfl rfl rfl (fun _ => rfl) ?_
  obtain ⟨v1, hv1, h⟩ := ob h
  refine Wg.idx (f := eTrain) (xs := a0.t.trains) (c := .unk) rfl rfl rfl rfl rfl rfl rfl lTrain (by decide) hv1 ?_
  iterate 4 refine Wg.li rfl rfl rfl rfl (fun _ => rfl) ?_
  refine Wg.nil ?_
  refine ⟨fun _ => ?_, fun h => absurd (by decide) h⟩
  refine Wp.ret ?_
  have h := Option.some.inj h
  subst h
  exact ⟨.inr (by decide), _, rfl, rfl⟩
def s125 (N : Nat) (a0 : Calc) (a1 : Int) : Option (Int) :=
  (ix a0.t.trains a1).bind fun v1 =>
  some v1.late.high
theorem at125 : ctx.P.funcs[125]? = some Tryd.f125 := by kernel_rfl
theorem s125_ev {N : Nat} {a0 : Calc} {a1 : Int} {r : Int} (h : s125 N a0 a1 = some r) : ∀ H, Ev ctx (.call 125 [.agg (eCalc a0), .int .i64 a1] H (.int .i64 r) H) := by
  refine Ev.of_pure at125 rfl rfl (Nat.le_of_ble_eq_true rfl) (pCons (pv (pCalcs _)) (pCons (.int _ _) pNil)) (.int _ _) ?_
  unfold s125 at h
  refine Wp.seq ?_
  refine Wp.reg rfl ?_
  refine Wg.box rfl rfl rfl rfl ?_
  refine Wg.li rfl rfl rfl rfl (fun _ => rfl) ?_
  refine Wg.nil ?_
  refine ⟨fun _ => ?_, fun h => absurd (by decide) h⟩
  refine Wp.seq ?_
  refine Wp.reg rfl ?_
  iterate 4 refine Wg.li rfl rfl rfl rfl (fun _ => rfl) ?_
  obtain ⟨v1, hv1, h⟩ := ob h
  refine Wg.idx (f := eTrain) (xs := a0.t.trains) (c := .unk) rfl rfl rfl rfl rfl rfl rfl lTrain (by decide) hv1 ?_
  iterate 4 refine Wg.li rfl rfl rfl rfl (fun _ => rfl) ?_
  refine Wg.nil ?_
  refine ⟨fun _ => ?_, fun h => absurd (by decide) h⟩
  refine Wp.ret ?_
  have h := Option.some.inj h
  subst h
  exact ⟨.inr (by decide), _, rfl, rfl⟩
def s83 (N : Nat) (a0 : Calc) (a1 : Leg) : Option (Stop) :=
  (ix a0.t.trains a1.train).bind fun v1 =>
  (ix v1.stops a1.frm).bind fun v2 =>
  some v2
theorem at83 : ctx.P.funcs[83]? = some Tryd.f83 := by kernel_rfl
theorem s83_ev {N : Nat} {a0 : Calc} {a1 : Leg} {r : Stop} (h : s83 N a0 a1 = some r) : ∀ H, Ev ctx (.call 83 [.agg (eCalc a0), .agg (eLeg a1)] H (.agg (eStop r)) H) := by
  refine Ev.of_pure at83 rfl rfl (Nat.le_of_ble_eq_true rfl) (pCons (pv (pCalcs _)) (pCons (pv (pLeg _)) pNil)) (pv (pStop _)) ?_
  unfold s83 at h
  refine Wp.seq ?_
  refine Wp.reg rfl ?_
  refine Wg.box rfl rfl rfl rfl ?_
  refine Wg.box rfl rfl rfl rfl ?_
  refine Wg.alloc rfl rfl rfl rfl ?_
  refine Wg.nil ?_
  refine ⟨fun _ => ?_, fun h => absurd (by decide) h⟩
  refine Wp.seq ?_
  refine Wp.drw _ [2, 4, 7, 9, 11] rfl (by kernel_rfl) (Nat.le_refl _) ?_
  iterate 5 refine Wg.li rfl rfl rfl rfl (fun _ => rfl) ?_
  obtain ⟨v1, hv1, h⟩ := ob h
  refine Wg.idx (f := eTrain) (xs := a0.t.trains) (c := .unk) rfl rfl rfl rfl rfl rfl rfl lTrain (by decide) hv1 ?_
  iterate 4 refine Wg.li rfl rfl rfl rfl (fun _ => rfl) ?_
  obtain ⟨v2, hv2, h⟩ := ob h
  refine Wg.idx (f := eStop) (xs := v1.stops) (c := .unk) rfl rfl rfl rfl rfl rfl rfl lStop (by decide) hv2 ?_
  refine Wg.li rfl rfl rfl rfl (fun _ => rfl) ?_
  refine Wg.heavy true (Nat.le_of_ble_eq_true rfl) rfl rfl rfl rfl ?_
  refine Wg.nil ?_
  refine ⟨fun _ => ?_, fun h => absurd (by decide) h⟩
  refine Wp.ret ?_
  have h := Option.some.inj h
  subst h
  exact ⟨.inr (by decide), _, rfl, rfl⟩
def s92 (N : Nat) (a0 : Calc) (a1 : Leg) : Option (Stop) :=
  (ix a0.t.trains a1.train).bind fun v1 =>
  (ix v1.stops a1.to).bind fun v2 =>
  some v2
theorem at92 : ctx.P.funcs[92]? = some Tryd.f92 := by kernel_rfl
theorem s92_ev {N : Nat} {a0 : Calc} {a1 : Leg} {r : Stop} (h : s92 N a0 a1 = some r) : ∀ H, Ev ctx (.call 92 [.agg (eCalc a0), .agg (eLeg a1)] H (.agg (eStop r)) H) := by
  refine Ev.of_pure at92 rfl rfl (Nat.le_of_ble_eq_true rfl) (pCons (pv (pCalcs _)) (pCons (pv (pLeg _)) pNil)) (pv (pStop _)) ?_
  unfold s92 at h
  refine Wp.seq ?_
  refine Wp.reg rfl ?_
  refine Wg.box rfl rfl rfl rfl ?_
  refine Wg.box rfl rfl rfl rfl ?_
  refine Wg.alloc rfl rfl rfl rfl ?_
  refine Wg.nil ?_
  refine ⟨fun _ => ?_, fun h => absurd (by decide) h⟩
  refine Wp.seq ?_
  refine Wp.drw _ [2, 4, 7, 9, 11] rfl (by kernel_rfl) (Nat.le_refl _) ?_
  iterate 5 refine Wg.li rfl rfl rfl rfl (fun _ => rfl) ?_
  obtain ⟨v1, hv1, h⟩ := ob h
  refine Wg.idx (f := eTrain) (xs := a0.t.trains) (c := .unk) rfl rfl rfl rfl rfl rfl rfl lTrain (by decide) hv1 ?_
  iterate 4 refine Wg.li rfl rfl rfl rfl (fun _ => rfl) ?_
  obtain ⟨v2, hv2, h⟩ := ob h
  refine Wg.idx (f := eStop) (xs := v1.stops) (c := .unk) rfl rfl rfl rfl rfl rfl rfl lStop (by decide) hv2 ?_
  refine Wg.li rfl rfl rfl rfl (fun _ => rfl) ?_
  refine Wg.heavy true (Nat.le_of_ble_eq_true rfl) rfl rfl rfl rfl ?_
  refine Wg.nil ?_
  refine ⟨fun _ => ?_, fun h => absurd (by decide) h⟩
  refine Wp.ret ?_
  have h := Option.some.inj h
  subst h
  exact ⟨.inr (by decide), _, rfl, rfl⟩
def s55 (N : Nat) (a0 : Calc) (a1 : (List Leg)) : Option (Int) :=
  (ix a1 0).bind fun v1 =>
  (s83 N a0 v1).bind fun v2 =>
  some v2.station
theorem at55 : ctx.P.funcs[55]? = some Tryd.f55 := by kernel_rfl
theorem s55_ev {N : Nat} {a0 : Calc} {a1 : (List Leg)} {r : Int} (h : s55 N a0 a1 = some r) : ∀ H, Ev ctx (.call 55 [.agg (eCalc a0), lst eLeg a1 .unk] H (.int .i64 r) H) := by
  refine Ev.of_pure at55 rfl rfl (Nat.le_of_ble_eq_true rfl) (pCons (pv (pCalcs _)) (pCons (Pure.lst pLeg _ pUnk) pNil)) (.int _ _) ?_
  unfold s55 at h
  refine Wp.seq ?_
  refine Wp.reg rfl ?_
  refine Wg.box rfl rfl rfl rfl ?_
  refine Wg.li rfl rfl rfl rfl (fun _ => rfl) ?_
  refine Wg.nil ?_
  refine ⟨fun _ => ?_, fun h => absurd (by decide) h⟩
  refine Wp.seq ?_
  refine Wp.drw _ [0, 3] rfl (by kernel_rfl) (Nat.le_refl _) ?_
  iterate 2 refine Wg.li rfl rfl rfl rfl (fun _ => rfl) ?_
  obtain ⟨v1, hv1, h⟩ := ob h
  refine Wg.idx (f := eLeg) (xs := a1) (c := .unk) rfl rfl rfl rfl rfl rfl rfl lLeg (by decide) hv1 ?_
  refine Wg.li rfl rfl rfl rfl (fun _ => rfl) ?_
  obtain ⟨v2, hv2, h⟩ := ob h
  refine Wg.call rfl rfl rfl rfl (s83_ev hv2 _) ?_
  iterate 2 refine Wg.li rfl rfl rfl rfl (fun _ => rfl) ?_
  refine Wg.nil ?_
  refine ⟨fun _ => ?_, fun h => absurd (by decide) h⟩
  refine Wp.ret ?_
  have h := Option.some.inj h
  subst h
  exact ⟨.inr (by decide), _, rfl, rfl⟩
def s56 (N : Nat) (a0 : Calc) (a1 : (List Leg)) : Option (Int) :=
  (ck ((a1.length : Int) - 1)).bind fun v1 =>
  (ix a1 v1).bind fun v2 =>
  (s92 N a0 v2).bind fun v3 =>
  some v3.station
theorem at56 : ctx.P.funcs[56]? = some Tryd.f56 := by kernel_rfl
theorem s56_ev {N : Nat} {a0 : Calc} {a1 : (List Leg)} {r : Int} (h : s56 N a0 a1 = some r) : ∀ H, Ev ctx (.call 56 [.agg (eCalc a0), lst eLeg a1 .unk] H (.int .i64 r) H) := by
  refine Ev.of_pure at56 rfl rfl (Nat.le_of_ble_eq_true rfl) (pCons (pv (pCalcs _)) (pCons (Pure.lst pLeg _ pUnk) pNil)) (.int _ _) ?_
  unfold s56 at h
  refine Wp.seq ?_
  refine Wp.reg rfl ?_
  refine Wg.box rfl rfl rfl rfl ?_
  refine Wg.li rfl rfl rfl rfl (fun _ => rfl) ?_
  refine Wg.nil ?_
  refine ⟨fun _ => ?_, fun h => absurd (by decide) h⟩
  refine Wp.seq ?_
  refine Wp.drw _ [0, 6] rfl (by kernel_rfl) (Nat.le_refl _) ?_
  iterate 4 refine Wg.li rfl rfl rfl rfl (fun _ => rfl) ?_
  obtain ⟨v1, hv1, h⟩ := ob h
  refine Wg.bin (k := .i64) (k2 := .i64) (a := (a1.length : Int)) (b := 1) rfl rfl rfl rfl rfl (bSub hv1) ?_
  obtain ⟨v2, hv2, h⟩ := ob h
  refine Wg.idx (f := eLeg) (xs := a1) (c := .unk) rfl rfl rfl rfl rfl rfl rfl lLeg (by decide) hv2 ?_
  refine Wg.li rfl rfl rfl rfl (fun _ => rfl) ?_
  obtain ⟨v3, hv3, h⟩ := ob h
  refine Wg.call rfl rfl rfl rfl (s92_ev hv3 _) ?_
  iterate 2 refine Wg.li rfl rfl rfl rfl (fun _ => rfl) ?_
  refine Wg.nil ?_
  refine ⟨fun _ => ?_, fun h => absurd (by decide) h⟩
  refine Wp.ret ?_
  have h := Option.some.inj h
  subst h
  exact ⟨.inr (by decide), _, rfl, rfl⟩
def s82_l7 (N : Nat) (a1 : (List Int)) (s1 : Int × Int) : Option ((Int × Int) ⊕ (Int)) :=
  if (decide (s1.2 < (a1.length : Int))) then
    (ix a1 s1.2).bind fun v5 =>
    (ck (s1.2 + 1)).bind fun v6 =>
    some (.inl ((mx s1.1 v5), v6))
  else
    some (.inr s1.1)
def s82 (N : Nat) (a0 : Int) (a1 : (List Int)) : Option (Int) :=
  (iter (s82_l7 N a1) N (a0, 0)).bind fun o2 =>
  some o2
abbrev F82 : Fr := { r := false, N := 18, m := 0 }
theorem at82 : ctx.P.funcs[82]? = some Tryd.f82 := by kernel_rfl
theorem s82_ev {N : Nat} {a0 : Int} {a1 : (List Int)} {r : Int} (h : s82 N a0 a1 = some r) : ∀ H, Ev ctx (.call 82 [.int .i64 a0, lst eInt a1 .unk] H (.int .i64 r) H) := by
  refine Ev.of_pure at82 rfl rfl (Nat.le_of_ble_eq_true rfl) (pCons (.int _ _) (pCons (Pure.lst pInt _ pUnk) pNil)) (.int _ _) ?_
  unfold s82 at h
  refine Wp.seq ?_
  refine Wp.reg rfl ?_
  refine Wg.li rfl rfl rfl rfl (fun _ => rfl) ?_
  refine Wg.nil ?_
  refine ⟨fun _ => ?_, fun h => absurd (by decide) h⟩
  refine Wp.seq ?_
  refine Wp.seq ?_
  refine Wp.reg rfl ?_
  iterate 3 refine Wg.li rfl rfl rfl rfl (fun _ => rfl) ?_
  refine Wg.nil ?_
  refine ⟨fun _ => ?_, fun h => absurd (by decide) h⟩
  refine Wp.block ?_
  obtain ⟨o2, hx3, h⟩ := ob h
  refine Sub.use (Sub.canon [] [] [(0, .int .i64 a0), (7, lst eInt a1 .unk), (8, .int .i64 (a1.length : Int)), (9, .int .i64 0)] rfl (by decide) trivial (.pure rfl (.int _ _) (.pure rfl (Pure.lst pInt _ pUnk) (.pure rfl (.int _ _) (.pure rfl (.int _ _) .nil))))) ?_
  refine Wp.after (Wp.iterS (s82_l7 N a1) (fun s1 => Env.ofList [(0, .int .i64 s1.1), (7, lst eInt a1 .unk), (8, .int .i64 (a1.length : Int)), (9, .int .i64 s1.2)]) (fun s1 => hp []) (fun o2 x e' H' => x = .exit 0 ∧ Sub ctx F82 (Env.ofList [(0, .int .i64 o2)]) (hp []) e' H') ?_ N (a0, 0) _ hx3) ?_
  · intro s1 o ho
    unfold s82_l7 at ho
    refine Wp.seq ?_
    refine Wp.reg rfl ?_
    refine Wg.li rfl rfl rfl rfl (fun _ => rfl) ?_
    refine Wg.nil ?_
    refine ⟨fun _ => ?_, fun h => absurd (by decide) h⟩
    refine Wp.seq ?_
    refine Wp.cond (decide (s1.2 < (a1.length : Int))) rfl (fun hb4 => ?_) (fun hb4 => ?_)
    · have ho := iT ho hb4
      refine Wp.skip ?_
      refine ⟨fun _ => ?_, fun h => absurd (by decide) h⟩
      refine Wp.seq ?_
      refine Wp.block ?_
      refine Wp.seq ?_
      refine Wp.reg rfl ?_
      obtain ⟨v5, hv5, ho⟩ := ob ho
      refine Wg.idx (f := eInt) (xs := a1) (c := .unk) rfl rfl rfl rfl rfl rfl rfl lInt (by decide) hv5 ?_
      iterate 2 refine Wg.li rfl rfl rfl rfl (fun _ => rfl) ?_
      refine Wg.nil ?_
      refine ⟨fun _ => ?_, fun h => absurd (by decide) h⟩
      refine Wp.reg rfl ?_
      iterate 4 refine Wg.li rfl rfl rfl rfl (fun _ => rfl) ?_
      refine Wg.nil ?_
      refine ⟨fun _ => ?_, fun h => absurd (by decide) h⟩
      refine Wp.reg rfl ?_
      obtain ⟨v6, hv6, ho⟩ := ob ho
      refine Wg.bin (k := .i64) (k2 := .i64) (a := s1.2) (b := 1) rfl rfl rfl rfl rfl (bAdd hv6) ?_
      refine Wg.li rfl rfl rfl rfl (fun _ => rfl) ?_
      refine Wg.nil ?_
      have ho := Option.some.inj ho
      subst ho
      exact ⟨by decide, (Sub.canon [] [] [(0, .int .i64 (mx s1.1 v5)), (7, lst eInt a1 .unk), (8, .int .i64 (a1.length : Int)), (9, .int .i64 v6)] rfl (by decide) trivial (.pure rfl (.int _ _) (.pure rfl (Pure.lst pInt _ pUnk) (.pure rfl (.int _ _) (.pure rfl (.int _ _) .nil)))))⟩
    · have ho := iF ho hb4
      refine Wp.exit ?_
      refine ⟨fun h => absurd h (by decide), fun _ => ?_⟩
      have ho := Option.some.inj ho
      subst ho
      exact ⟨by decide, by decide, (Sub.canon [] [] [(0, .int .i64 s1.1)] rfl (by decide) trivial (.pure rfl (.int _ _) .nil))⟩
  · intro x e' H' hP
    obtain ⟨hPx, hP2⟩ := hP
    subst hPx
    have hP := And.intro (True.intro) hP2
    refine ⟨fun _ => ?_, fun h => absurd (by decide) h⟩
    refine Sub.use hP.2 ?_
    refine Wp.seq ?_
    refine Wp.reg rfl ?_
    iterate 2 refine Wg.li rfl rfl rfl rfl (fun _ => rfl) ?_
    refine Wg.nil ?_
    refine ⟨fun _ => ?_, fun h => absurd (by decide) h⟩
    refine Wp.ret ?_
    have h := Option.some.inj h
    subst h
    exact ⟨.inr (by decide), _, rfl, rfl⟩
def s95_l17 (N : Nat) (a0 : Calc) (a1 : (List Leg)) (s1 : Int × Spn × Spn) : Option ((Int × Spn × Spn) ⊕ ((Spn × Spn) ⊕ Spn)) :=
  if (decide (s1.1 < (a1.length : Int))) then
    (ix a1 s1.1).bind fun v5 =>
    (s127 N a0 v5.train).bind fun v6 =>
    (s125 N a0 v5.train).bind fun v7 =>
    (s83 N a0 v5).bind fun v8 =>
    (s92 N a0 v5).bind fun v9 =>
    (ck (s1.2.2.span.low + a0.t.load)).bind fun v10 =>
    (ck (v10 - v8.leave)).bind fun v11 =>
    (s82 N v6 ([v11])).bind fun v12 =>
    if (decide (v12 > v7)) then
      some (.inr (.inr (Spn.mk (Span.mk 0 0) false)))
    else
      (ck (v9.arrive + v12)).bind fun v14 =>
      (ck (v9.arrive + v7)).bind fun v15 =>
      (ck (s1.1 + 1)).bind fun v16 =>
      some (.inl (v16, s1.2.1, (Spn.mk (Span.mk v14 v15) true)))
  else
    some (.inr (.inl (s1.2.1, s1.2.2)))
def s95 (N : Nat) (a0 : Calc) (a1 : (List Leg)) (a2 : Int) : Option (Spn) :=
  (iter (s95_l17 N a0 a1) N (0, (Spn.mk (Span.mk 0 0) false), (Spn.mk (Span.mk a2 a2) true))).bind fun o2 => match o2 with
  | .inl s18 =>
    some s18.2
  | .inr s19 =>
    some s19
abbrev F95 : Fr := { r := false, N := 74, m := 0 }
theorem at95 : ctx.P.funcs[95]? = some Tryd.f95 := by kernel_rfl
theorem s95_ev {N : Nat} {a0 : Calc} {a1 : (List Leg)} {a2 : Int} {r : Spn} (h : s95 N a0 a1 a2 = some r) : ∀ H, Ev ctx (.call 95 [.agg (eCalc a0), lst eLeg a1 .unk, .int .i64 a2] H (.agg (eSpn r)) H) := by
  refine Ev.of_pure at95 rfl rfl (Nat.le_of_ble_eq_true rfl) (pCons (pv (pCalcs _)) (pCons (Pure.lst pLeg _ pUnk) (pCons (.int _ _) pNil))) (pv (pSpn _)) ?_
  unfold s95 at h
  refine Wp.seq ?_
  refine Wp.reg rfl ?_
  refine Wg.box rfl rfl rfl rfl ?_
  refine Wg.alloc rfl rfl rfl rfl ?_
  refine Wg.nil ?_
  refine ⟨fun _ => ?_, fun h => absurd (by decide) h⟩
  refine Wp.seq ?_
  refine Wp.reg rfl ?_
  iterate 4 refine Wg.li rfl rfl rfl rfl (fun _ => rfl) ?_
  refine Wg.alloc rfl rfl rfl rfl ?_
  refine Wg.heavy true (Nat.le_of_ble_eq_true rfl) rfl rfl rfl rfl ?_
  refine Wg.nil ?_
  refine ⟨fun _ => ?_, fun h => absurd (by decide) h⟩
  refine Wp.seq ?_
  refine Wp.seq ?_
  refine Wp.reg rfl ?_
  iterate 3 refine Wg.li rfl rfl rfl rfl (fun _ => rfl) ?_
  refine Wg.nil ?_
  refine ⟨fun _ => ?_, fun h => absurd (by decide) h⟩
  refine Wp.block ?_
  obtain ⟨o2, hx3, h⟩ := ob h
  refine Sub.use (Sub.canon [some 0, some 1] [.cells (eSpn (Spn.mk (Span.mk 0 0) false)), .cells (eSpn (Spn.mk (Span.mk a2 a2) true))] [(3, .ro (eCalc a0)), (6, .ptr 0 0), (7, .ptr 1 0), (18, lst eLeg a1 .unk), (19, .int .i64 (a1.length : Int)), (20, .int .i64 0)] rfl (by decide) ⟨.pure rfl (pSpn _), .pure rfl (pSpn _), trivial⟩ (.pure rfl (.ro (pCalcs _)) (.ptr rfl rfl (.ptr rfl rfl (.pure rfl (Pure.lst pLeg _ pUnk) (.pure rfl (.int _ _) (.pure rfl (.int _ _) .nil))))))) ?_
  refine Wp.after (Wp.iterS (s95_l17 N a0 a1) (fun s1 => Env.ofList [(3, .ro (eCalc a0)), (6, .ptr 0 0), (7, .ptr 1 0), (18, lst eLeg a1 .unk), (19, .int .i64 (a1.length : Int)), (20, .int .i64 s1.1)]) (fun s1 => hp [.cells (eSpn s1.2.1), .cells (eSpn s1.2.2)]) (fun o2 x e' H' => match o2 with | .inl s => x = .exit 0 ∧ Sub ctx F95 (Env.ofList [(6, .ptr 0 0), (7, .ptr 1 0)]) (hp [.cells (eSpn s.1), .cells (eSpn s.2)]) e' H' | .inr s => x = .ret ∧ ∃ vs, resA ctx e' H' [.cell 6 132] = some vs ∧ retA vs = .agg (eSpn s)) ?_ N (0, (Spn.mk (Span.mk 0 0) false), (Spn.mk (Span.mk a2 a2) true)) _ hx3) ?_
  · intro s1 o ho
    unfold s95_l17 at ho
    refine Wp.seq ?_
    refine Wp.reg rfl ?_
    refine Wg.li rfl rfl rfl rfl (fun _ => rfl) ?_
    refine Wg.nil ?_
    refine ⟨fun _ => ?_, fun h => absurd (by decide) h⟩
    refine Wp.seq ?_
    refine Wp.cond (decide (s1.1 < (a1.length : Int))) rfl (fun hb4 => ?_) (fun hb4 => ?_)
    · have ho := iT ho hb4
      refine Wp.skip ?_
      refine ⟨fun _ => ?_, fun h => absurd (by decide) h⟩
      refine Wp.seq ?_
      refine Wp.block ?_
      refine Wp.seq ?_
      refine Wp.reg rfl ?_
      obtain ⟨v5, hv5, ho⟩ := ob ho
      refine Wg.idx (f := eLeg) (xs := a1) (c := .unk) rfl rfl rfl rfl rfl rfl rfl lLeg (by decide) hv5 ?_
      refine Wg.li rfl rfl rfl rfl (fun _ => rfl) ?_
      refine Wg.alloc rfl rfl rfl rfl ?_
      refine Wg.heavy true (Nat.le_of_ble_eq_true rfl) rfl rfl rfl rfl ?_
      refine Wg.nil ?_
      refine ⟨fun _ => ?_, fun h => absurd (by decide) h⟩
      refine Wp.seq ?_
      refine Wp.drw _ [1, 2, 7, 8] rfl (by kernel_rfl) (Nat.le_refl _) ?_
      iterate 4 refine Wg.li rfl rfl rfl rfl (fun _ => rfl) ?_
      refine Wg.ld rfl rfl rfl rfl rfl rfl ?_
      obtain ⟨v6, hv6, ho⟩ := ob ho
      refine Wg.callv rfl rfl rfl rfl rfl (.func (s127_ev hv6 _)) ?_
      iterate 4 refine Wg.li rfl rfl rfl rfl (fun _ => rfl) ?_
      refine Wg.ld rfl rfl rfl rfl rfl rfl ?_
      obtain ⟨v7, hv7, ho⟩ := ob ho
      refine Wg.callv rfl rfl rfl rfl rfl (.func (s125_ev hv7 _)) ?_
      refine Wg.li rfl rfl rfl rfl (fun _ => rfl) ?_
      refine Wg.alloc rfl rfl rfl rfl ?_
      refine Wg.heavy true (Nat.le_of_ble_eq_true rfl) rfl rfl rfl rfl ?_
      refine Wg.nil ?_
      refine ⟨fun _ => ?_, fun h => absurd (by decide) h⟩
      refine Wp.seq ?_
      refine Wp.drw _ [0, 4] rfl (by kernel_rfl) (Nat.le_refl _) ?_
      refine Wg.li rfl rfl rfl rfl (fun _ => rfl) ?_
      refine Wg.ld rfl rfl rfl rfl rfl rfl ?_
      obtain ⟨v8, hv8, ho⟩ := ob ho
      refine Wg.call rfl rfl rfl rfl (s83_ev hv8 _) ?_
      iterate 2 refine Wg.li rfl rfl rfl rfl (fun _ => rfl) ?_
      refine Wg.ld rfl rfl rfl rfl rfl rfl ?_
      obtain ⟨v9, hv9, ho⟩ := ob ho
      refine Wg.call rfl rfl rfl rfl (s92_ev hv9 _) ?_
      iterate 3 refine Wg.li rfl rfl rfl rfl (fun _ => rfl) ?_
      refine Wg.nil ?_
      refine ⟨fun _ => ?_, fun h => absurd (by decide) h⟩
      refine Wp.seq ?_
      refine Wp.reg rfl ?_
      refine Wg.li rfl rfl rfl rfl (fun _ => rfl) ?_
      refine Wg.ld rfl rfl rfl rfl rfl rfl ?_
      iterate 2 refine Wg.li rfl rfl rfl rfl (fun _ => rfl) ?_
      refine Wg.ld rfl rfl rfl rfl rfl rfl ?_
      iterate 3 refine Wg.li rfl rfl rfl rfl (fun _ => rfl) ?_
      obtain ⟨v10, hv10, ho⟩ := ob ho
      refine Wg.bin (k := .i64) (k2 := .i64) (a := s1.2.2.span.low) (b := a0.t.load) rfl rfl rfl rfl rfl (bAdd hv10) ?_
      refine Wg.li rfl rfl rfl rfl (fun _ => rfl) ?_
      obtain ⟨v11, hv11, ho⟩ := ob ho
      refine Wg.bin (k := .i64) (k2 := .i64) (a := v10) (b := v8.leave) rfl rfl rfl rfl rfl (bSub hv11) ?_
      refine Wg.li rfl rfl rfl rfl (fun _ => rfl) ?_
      obtain ⟨v12, hv12, ho⟩ := ob ho
      refine Wg.callW rfl rfl rfl rfl (.cons (.refl _) (.cons (.unk (.refl _)) .nil)) (s82_ev hv12 _) ?_
      refine Wg.li rfl rfl rfl rfl (fun _ => rfl) ?_
      refine Wg.nil ?_
      refine ⟨fun _ => ?_, fun h => absurd (by decide) h⟩
      refine Wp.seq ?_
      refine Wp.seq ?_
      refine Wp.reg rfl ?_
      iterate 2 refine Wg.li rfl rfl rfl rfl (fun _ => rfl) ?_
      refine Wg.ld rfl rfl rfl rfl rfl rfl ?_
      refine Wg.li rfl rfl rfl rfl (fun _ => rfl) ?_
      refine Wg.nil ?_
      refine ⟨fun _ => ?_, fun h => absurd (by decide) h⟩
      refine Wp.cond (decide (v12 > v7)) rfl (fun hb13 => ?_) (fun hb13 => ?_)
      · have ho := iT ho hb13
        refine Wp.seq ?_
        refine Wp.reg rfl ?_
        refine Wg.li rfl rfl rfl rfl (fun _ => rfl) ?_
        refine Wg.heavy true (Nat.le_of_ble_eq_true rfl) rfl rfl rfl rfl ?_
        refine Wg.nil ?_
        refine ⟨fun _ => ?_, fun h => absurd (by decide) h⟩
        refine Wp.ret ?_
        refine ⟨fun h => absurd h (by decide), fun _ => ?_⟩
        refine ⟨fun h => absurd h (by decide), fun _ => ?_⟩
        have ho := Option.some.inj ho
        subst ho
        exact ⟨by decide, by decide, _, rfl, rfl⟩
      · have ho := iF ho hb13
        refine Wp.skip ?_
        refine ⟨fun _ => ?_, fun h => absurd (by decide) h⟩
        refine Wp.reg rfl ?_
        iterate 2 refine Wg.li rfl rfl rfl rfl (fun _ => rfl) ?_
        obtain ⟨v14, hv14, ho⟩ := ob ho
        refine Wg.bin (k := .i64) (k2 := .i64) (a := v9.arrive) (b := v12) rfl rfl rfl rfl rfl (bAdd hv14) ?_
        iterate 2 refine Wg.li rfl rfl rfl rfl (fun _ => rfl) ?_
        refine Wg.ld rfl rfl rfl rfl rfl rfl ?_
        obtain ⟨v15, hv15, ho⟩ := ob ho
        refine Wg.bin (k := .i64) (k2 := .i64) (a := v9.arrive) (b := v7) rfl rfl rfl rfl rfl (bAdd hv15) ?_
        iterate 2 refine Wg.li rfl rfl rfl rfl (fun _ => rfl) ?_
        refine Wg.heavy true (Nat.le_of_ble_eq_true rfl) rfl rfl rfl rfl ?_
        refine Wg.nil ?_
        refine ⟨fun _ => ?_, fun h => absurd (by decide) h⟩
        refine Wp.reg rfl ?_
        obtain ⟨v16, hv16, ho⟩ := ob ho
        refine Wg.bin (k := .i64) (k2 := .i64) (a := s1.1) (b := 1) rfl rfl rfl rfl rfl (bAdd hv16) ?_
        refine Wg.li rfl rfl rfl rfl (fun _ => rfl) ?_
        refine Wg.nil ?_
        have ho := Option.some.inj ho
        subst ho
        exact ⟨by decide, (Sub.canon [some 0, some 1] [.cells (eSpn s1.2.1), .cells (eSpn (Spn.mk (Span.mk v14 v15) true))] [(3, .ro (eCalc a0)), (6, .ptr 0 0), (7, .ptr 1 0), (18, lst eLeg a1 .unk), (19, .int .i64 (a1.length : Int)), (20, .int .i64 v16)] rfl (by decide) ⟨.pure rfl (pSpn _), .pure rfl (pSpn _), trivial⟩ (.pure rfl (.ro (pCalcs _)) (.ptr rfl rfl (.ptr rfl rfl (.pure rfl (Pure.lst pLeg _ pUnk) (.pure rfl (.int _ _) (.pure rfl (.int _ _) .nil)))))))⟩
    · have ho := iF ho hb4
      refine Wp.exit ?_
      refine ⟨fun h => absurd h (by decide), fun _ => ?_⟩
      have ho := Option.some.inj ho
      subst ho
      exact ⟨by decide, by decide, (Sub.canon [some 0, some 1] [.cells (eSpn s1.2.1), .cells (eSpn s1.2.2)] [(6, .ptr 0 0), (7, .ptr 1 0)] rfl (by decide) ⟨.pure rfl (pSpn _), .pure rfl (pSpn _), trivial⟩ (.ptr rfl rfl (.ptr rfl rfl .nil)))⟩
  · intro x e' H' hP
    rcases o2 with s18 | s19
    · obtain ⟨hPx, hP2⟩ := hP
      subst hPx
      have hP := And.intro (True.intro) hP2
      refine ⟨fun _ => ?_, fun h => absurd (by decide) h⟩
      refine Sub.use hP.2 ?_
      refine Wp.seq ?_
      refine Wp.reg rfl ?_
      refine Wg.ld rfl rfl rfl rfl rfl rfl ?_
      refine Wg.heavy true (Nat.le_of_ble_eq_true rfl) rfl rfl rfl rfl ?_
      refine Wg.nil ?_
      refine ⟨fun _ => ?_, fun h => absurd (by decide) h⟩
      refine Wp.ret ?_
      have h := Option.some.inj h
      subst h
      exact ⟨.inr (by decide), _, rfl, rfl⟩
    · have hPx := hP.1
      subst hPx
      refine ⟨fun h => absurd h (by decide), fun _ => ?_⟩
      exact ⟨.inr rfl, by obtain ⟨vs, h1, h2⟩ := hP.2; exact ⟨vs, h1, by rw [h2]; have h := Option.some.inj h; subst h; rfl⟩⟩
def s70 (N : Nat) (a0 : Calc) (a1 : (List Leg)) (a2 : Int) (a3 : Int) : Option (Bool) :=
  (if (decide (a3 > 0)) then
    (ck (a3 - 1)).bind fun v4 =>
    (ix a1 v4).bind fun v5 =>
    (s92 N a0 v5).bind fun v6 =>
    (s125 N a0 v5.train).bind fun v7 =>
    (ck (v6.arrive + v7)).bind fun v8 =>
    some v8
  else
    some a2).bind fun o1 =>
  (ck (o1 + a0.t.load)).bind fun v9 =>
  (ix a1 a3).bind fun v10 =>
  (s83 N a0 v10).bind fun v11 =>
  (ix a1 a3).bind fun v12 =>
  (s127 N a0 v12.train).bind fun v13 =>
  (ck (v11.leave + v13)).bind fun v14 =>
  some (decide (v9 > v14))
abbrev F70 : Fr := { r := false, N := 53, m := 0 }
theorem at70 : ctx.P.funcs[70]? = some Tryd.f70 := by kernel_rfl
theorem s70_ev {N : Nat} {a0 : Calc} {a1 : (List Leg)} {a2 : Int} {a3 : Int} {r : Bool} (h : s70 N a0 a1 a2 a3 = some r) : ∀ H, Ev ctx (.call 70 [.agg (eCalc a0), lst eLeg a1 .unk, .int .i64 a2, .int .i64 a3] H (.bool r) H) := by
  refine Ev.of_pure at70 rfl rfl (Nat.le_of_ble_eq_true rfl) (pCons (pv (pCalcs _)) (pCons (Pure.lst pLeg _ pUnk) (pCons (.int _ _) (pCons (.int _ _) pNil)))) (.bool _) ?_
  unfold s70 at h
  refine Wp.seq ?_
  refine Wp.reg rfl ?_
  refine Wg.box rfl rfl rfl rfl ?_
  refine Wg.li rfl rfl rfl rfl (fun _ => rfl) ?_
  refine Wg.nil ?_
  refine ⟨fun _ => ?_, fun h => absurd (by decide) h⟩
  refine Wp.seq ?_
  refine Wp.reg rfl ?_
  iterate 2 refine Wg.li rfl rfl rfl rfl (fun _ => rfl) ?_
  refine Wg.nil ?_
  refine ⟨fun _ => ?_, fun h => absurd (by decide) h⟩
  refine Wp.seq ?_
  refine Wp.seq ?_
  refine Wp.reg rfl ?_
  iterate 2 refine Wg.li rfl rfl rfl rfl (fun _ => rfl) ?_
  refine Wg.nil ?_
  refine ⟨fun _ => ?_, fun h => absurd (by decide) h⟩
  obtain ⟨o1, hx2, h⟩ := ob h
  refine Wp.after (Q' := fun x e' H' => x = .normal ∧ Sub ctx F70 (Env.ofList [(1, lst eLeg a1 .unk), (3, .int .i64 a3), (4, .ro (eCalc a0)), (9, .int .i64 o1)]) (hp []) e' H') ?_ ?_
  · refine Wp.cond (decide (a3 > 0)) rfl (fun hb3 => ?_) (fun hb3 => ?_)
    · have hx2 := iT hx2 hb3
      refine Wp.seq ?_
      refine Wp.reg rfl ?_
      iterate 2 refine Wg.li rfl rfl rfl rfl (fun _ => rfl) ?_
      obtain ⟨v4, hv4, hx2⟩ := ob hx2
      refine Wg.bin (k := .i64) (k2 := .i64) (a := a3) (b := 1) rfl rfl rfl rfl rfl (bSub hv4) ?_
      obtain ⟨v5, hv5, hx2⟩ := ob hx2
      refine Wg.idx (f := eLeg) (xs := a1) (c := .unk) rfl rfl rfl rfl rfl rfl rfl lLeg (by decide) hv5 ?_
      refine Wg.li rfl rfl rfl rfl (fun _ => rfl) ?_
      refine Wg.alloc rfl rfl rfl rfl ?_
      refine Wg.heavy true (Nat.le_of_ble_eq_true rfl) rfl rfl rfl rfl ?_
      refine Wg.nil ?_
      refine ⟨fun _ => ?_, fun h => absurd (by decide) h⟩
      refine Wp.drw _ [0, 5, 6] rfl (by kernel_rfl) (Nat.le_refl _) ?_
      refine Wg.li rfl rfl rfl rfl (fun _ => rfl) ?_
      refine Wg.ld rfl rfl rfl rfl rfl rfl ?_
      obtain ⟨v6, hv6, hx2⟩ := ob hx2
      refine Wg.call rfl rfl rfl rfl (s92_ev hv6 _) ?_
      iterate 5 refine Wg.li rfl rfl rfl rfl (fun _ => rfl) ?_
      refine Wg.ld rfl rfl rfl rfl rfl rfl ?_
      obtain ⟨v7, hv7, hx2⟩ := ob hx2
      refine Wg.callv rfl rfl rfl rfl rfl (.func (s125_ev hv7 _)) ?_
      obtain ⟨v8, hv8, hx2⟩ := ob hx2
      refine Wg.bin (k := .i64) (k2 := .i64) (a := v6.arrive) (b := v7) rfl rfl rfl rfl rfl (bAdd hv8) ?_
      refine Wg.li rfl rfl rfl rfl (fun _ => rfl) ?_
      refine Wg.nil ?_
      have hx2 := Option.some.inj hx2
      subst hx2
      exact ⟨by decide, (Sub.canon [] [] [(1, lst eLeg a1 .unk), (3, .int .i64 a3), (4, .ro (eCalc a0)), (9, .int .i64 v8)] rfl (by decide) trivial (.pure rfl (Pure.lst pLeg _ pUnk) (.pure rfl (.int _ _) (.pure rfl (.ro (pCalcs _)) (.pure rfl (.int _ _) .nil)))))⟩
    · have hx2 := iF hx2 hb3
      refine Wp.skip ?_
      have hx2 := Option.some.inj hx2
      subst hx2
      exact ⟨by decide, (Sub.canon [] [] [(1, lst eLeg a1 .unk), (3, .int .i64 a3), (4, .ro (eCalc a0)), (9, .int .i64 a2)] rfl (by decide) trivial (.pure rfl (Pure.lst pLeg _ pUnk) (.pure rfl (.int _ _) (.pure rfl (.ro (pCalcs _)) (.pure rfl (.int _ _) .nil)))))⟩
  · intro x e' H' hP
    obtain ⟨hPx, hP2⟩ := hP
    subst hPx
    have hP := And.intro (True.intro) hP2
    refine ⟨fun _ => ?_, fun h => absurd (by decide) h⟩
    refine Sub.use hP.2 ?_
    refine Wp.seq ?_
    refine Wp.drw _ [3, 5, 9, 13, 14, 19] rfl (by kernel_rfl) (Nat.le_refl _) ?_
    iterate 4 refine Wg.li rfl rfl rfl rfl (fun _ => rfl) ?_
    obtain ⟨v9, hv9, h⟩ := ob h
    refine Wg.bin (k := .i64) (k2 := .i64) (a := o1) (b := a0.t.load) rfl rfl rfl rfl rfl (bAdd hv9) ?_
    iterate 3 refine Wg.li rfl rfl rfl rfl (fun _ => rfl) ?_
    obtain ⟨v10, hv10, h⟩ := ob h
    refine Wg.idx (f := eLeg) (xs := a1) (c := .unk) rfl rfl rfl rfl rfl rfl rfl lLeg (by decide) hv10 ?_
    refine Wg.li rfl rfl rfl rfl (fun _ => rfl) ?_
    obtain ⟨v11, hv11, h⟩ := ob h
    refine Wg.call rfl rfl rfl rfl (s83_ev hv11 _) ?_
    iterate 6 refine Wg.li rfl rfl rfl rfl (fun _ => rfl) ?_
    obtain ⟨v12, hv12, h⟩ := ob h
    refine Wg.idx (f := eLeg) (xs := a1) (c := .unk) rfl rfl rfl rfl rfl rfl rfl lLeg (by decide) hv12 ?_
    iterate 2 refine Wg.li rfl rfl rfl rfl (fun _ => rfl) ?_
    obtain ⟨v13, hv13, h⟩ := ob h
    refine Wg.callv rfl rfl rfl rfl rfl (.func (s127_ev hv13 _)) ?_
    obtain ⟨v14, hv14, h⟩ := ob h
    refine Wg.bin (k := .i64) (k2 := .i64) (a := v11.leave) (b := v13) rfl rfl rfl rfl rfl (bAdd hv14) ?_
    iterate 2 refine Wg.li rfl rfl rfl rfl (fun _ => rfl) ?_
    refine Wg.nil ?_
    refine ⟨fun _ => ?_, fun h => absurd (by decide) h⟩
    refine Wp.ret ?_
    have h := Option.some.inj h
    subst h
    exact ⟨.inr (by decide), _, rfl, rfl⟩
def s65_l15 (N : Nat) (a0 : Calc) (a1 : (List Leg)) (a2 : Int) (s8 : Int) : Option ((Int) ⊕ (Unit ⊕ Int)) :=
  if (decide (s8 < (a1.length : Int))) then
    (s70 N a0 a1 a2 s8).bind fun v12 =>
    if v12 then
      some (.inr (.inr 1))
    else
      (ck (s8 + 1)).bind fun v14 =>
      some (.inl v14)
  else
    some (.inr (.inl ()))
def s65 (N : Nat) (a0 : Calc) (a1 : (List Leg)) (a2 : Int) : Option (Int) :=
  (s55 N a0 a1).bind fun v1 =>
  (s69 N a0 v1 a2).bind fun v2 =>
  (if (!v2) then some true else 
    (s95 N a0 a1 a2).bind fun v5 =>
    some ((v5.span.low == 0) && ((v5.span.high == 0) && ((v5.some == false) && true)))).bind fun v6 =>
  if v6 then
    some 0
  else
    (iter (s65_l15 N a0 a1 a2) N 0).bind fun o9 => match o9 with
    | .inl s16 =>
      some 2
    | .inr s17 =>
      some s17
abbrev F65 : Fr := { r := false, N := 34, m := 0 }
theorem at65 : ctx.P.funcs[65]? = some Tryd.f65 := by kernel_rfl
theorem s65_ev {N : Nat} {a0 : Calc} {a1 : (List Leg)} {a2 : Int} {r : Int} (h : s65 N a0 a1 a2 = some r) : ∀ H, Ev ctx (.call 65 [.agg (eCalc a0), lst eLeg a1 .unk, .int .i64 a2] H (.int .i64 r) H) := by
  refine Ev.of_pure at65 rfl rfl (Nat.le_of_ble_eq_true rfl) (pCons (pv (pCalcs _)) (pCons (Pure.lst pLeg _ pUnk) (pCons (.int _ _) pNil))) (.int _ _) ?_
  unfold s65 at h
  refine Wp.seq ?_
  refine Wp.reg rfl ?_
  refine Wg.box rfl rfl rfl rfl ?_
  refine Wg.li rfl rfl rfl rfl (fun _ => rfl) ?_
  refine Wg.nil ?_
  refine ⟨fun _ => ?_, fun h => absurd (by decide) h⟩
  refine Wp.seq ?_
  refine Wp.seq ?_
  refine Wp.drw _ [0, 1, 8] rfl (by kernel_rfl) (Nat.le_refl _) ?_
  iterate 3 refine Wg.li rfl rfl rfl rfl (fun _ => rfl) ?_
  obtain ⟨v1, hv1, h⟩ := ob h
  refine Wg.call rfl rfl rfl rfl (s55_ev hv1 _) ?_
  refine Wg.li rfl rfl rfl rfl (fun _ => rfl) ?_
  obtain ⟨v2, hv2, h⟩ := ob h
  refine Wg.call rfl rfl rfl rfl (s69_ev hv2 _) ?_
  iterate 2 refine Wg.li rfl rfl rfl rfl (fun _ => rfl) ?_
  obtain ⟨v6, hv3, h⟩ := ob h
  refine Wg.grp 7 22 15 v6 (!v2) rfl rfl (Nat.le_of_ble_eq_true rfl) (fun hb4 => ?_) (fun hb4 => ?_) ?_
  · have hv3 := iT hv3 hb4
    iterate 6 refine Wg.skip rfl rfl ?_
    refine Wg.li rfl rfl rfl rfl (fun _ => rfl) ?_
    refine Wg.nil ⟨some_b hv3, ?_, rfl⟩
    repeat (first | exact Env.le_refl _ | refine Env.le_put rfl ?_)
  · have hv3 := iF hv3 hb4
    iterate 3 refine Wg.li rfl rfl rfl rfl (fun _ => rfl) ?_
    obtain ⟨v5, hv5, hv3⟩ := ob hv3
    refine Wg.call rfl rfl rfl rfl (s95_ev hv5 _) ?_
    iterate 3 refine Wg.li rfl rfl rfl rfl (fun _ => rfl) ?_
    refine Wg.nil ⟨some_b hv3, ?_, rfl⟩
    repeat (first | exact Env.le_refl _ | refine Env.le_put rfl ?_)
  refine Wg.nil ?_
  refine ⟨fun _ => ?_, fun h => absurd (by decide) h⟩
  refine Wp.cond v6 rfl (fun hb7 => ?_) (fun hb7 => ?_)
  · have h := iT h hb7
    refine Wp.seq ?_
    refine Wp.reg rfl ?_
    refine Wg.li rfl rfl rfl rfl (fun _ => rfl) ?_
    refine Wg.nil ?_
    refine ⟨fun _ => ?_, fun h => absurd (by decide) h⟩
    refine Wp.ret ?_
    refine ⟨fun h => absurd h (by decide), fun _ => ?_⟩
    have h := Option.some.inj h
    subst h
    exact ⟨.inr (by decide), _, rfl, rfl⟩
  · have h := iF h hb7
    refine Wp.skip ?_
    refine ⟨fun _ => ?_, fun h => absurd (by decide) h⟩
    refine Wp.seq ?_
    refine Wp.seq ?_
    refine Wp.reg rfl ?_
    iterate 3 refine Wg.li rfl rfl rfl rfl (fun _ => rfl) ?_
    refine Wg.nil ?_
    refine ⟨fun _ => ?_, fun h => absurd (by decide) h⟩
    refine Wp.block ?_
    obtain ⟨o9, hx10, h⟩ := ob h
    refine Sub.use (Sub.canon [] [] [(1, lst eLeg a1 .unk), (2, .int .i64 a2), (3, .ro (eCalc a0)), (24, .int .i64 (a1.length : Int)), (25, .int .i64 0)] rfl (by decide) trivial (.pure rfl (Pure.lst pLeg _ pUnk) (.pure rfl (.int _ _) (.pure rfl (.ro (pCalcs _)) (.pure rfl (.int _ _) (.pure rfl (.int _ _) .nil)))))) ?_
    refine Wp.after (Wp.iterS (s65_l15 N a0 a1 a2) (fun s8 => Env.ofList [(1, lst eLeg a1 .unk), (2, .int .i64 a2), (3, .ro (eCalc a0)), (24, .int .i64 (a1.length : Int)), (25, .int .i64 s8)]) (fun s8 => hp []) (fun o9 x e' H' => match o9 with | .inl s => x = .exit 0 ∧ Sub ctx F65 (Env.ofList []) (hp []) e' H' | .inr s => x = .ret ∧ ∃ vs, resA ctx e' H' [.tmp 6] = some vs ∧ retA vs = .int .i64 s) ?_ N 0 _ hx10) ?_
    · intro s8 o ho
      unfold s65_l15 at ho
      refine Wp.seq ?_
      refine Wp.reg rfl ?_
      refine Wg.li rfl rfl rfl rfl (fun _ => rfl) ?_
      refine Wg.nil ?_
      refine ⟨fun _ => ?_, fun h => absurd (by decide) h⟩
      refine Wp.seq ?_
      refine Wp.cond (decide (s8 < (a1.length : Int))) rfl (fun hb11 => ?_) (fun hb11 => ?_)
      · have ho := iT ho hb11
        refine Wp.skip ?_
        refine ⟨fun _ => ?_, fun h => absurd (by decide) h⟩
        refine Wp.seq ?_
        refine Wp.block ?_
        refine Wp.seq ?_
        refine Wp.reg rfl ?_
        iterate 2 refine Wg.li rfl rfl rfl rfl (fun _ => rfl) ?_
        refine Wg.nil ?_
        refine ⟨fun _ => ?_, fun h => absurd (by decide) h⟩
        refine Wp.seq ?_
        refine Wp.reg rfl ?_
        iterate 4 refine Wg.li rfl rfl rfl rfl (fun _ => rfl) ?_
        obtain ⟨v12, hv12, ho⟩ := ob ho
        refine Wg.call rfl rfl rfl rfl (s70_ev hv12 _) ?_
        refine Wg.nil ?_
        refine ⟨fun _ => ?_, fun h => absurd (by decide) h⟩
        refine Wp.cond v12 rfl (fun hb13 => ?_) (fun hb13 => ?_)
        · have ho := iT ho hb13
          refine Wp.seq ?_
          refine Wp.reg rfl ?_
          refine Wg.li rfl rfl rfl rfl (fun _ => rfl) ?_
          refine Wg.nil ?_
          refine ⟨fun _ => ?_, fun h => absurd (by decide) h⟩
          refine Wp.ret ?_
          refine ⟨fun h => absurd h (by decide), fun _ => ?_⟩
          have ho := Option.some.inj ho
          subst ho
          exact ⟨by decide, by decide, _, rfl, rfl⟩
        · have ho := iF ho hb13
          refine Wp.skip ?_
          refine ⟨fun _ => ?_, fun h => absurd (by decide) h⟩
          refine Wp.reg rfl ?_
          obtain ⟨v14, hv14, ho⟩ := ob ho
          refine Wg.bin (k := .i64) (k2 := .i64) (a := s8) (b := 1) rfl rfl rfl rfl rfl (bAdd hv14) ?_
          refine Wg.li rfl rfl rfl rfl (fun _ => rfl) ?_
          refine Wg.nil ?_
          have ho := Option.some.inj ho
          subst ho
          exact ⟨by decide, (Sub.canon [] [] [(1, lst eLeg a1 .unk), (2, .int .i64 a2), (3, .ro (eCalc a0)), (24, .int .i64 (a1.length : Int)), (25, .int .i64 v14)] rfl (by decide) trivial (.pure rfl (Pure.lst pLeg _ pUnk) (.pure rfl (.int _ _) (.pure rfl (.ro (pCalcs _)) (.pure rfl (.int _ _) (.pure rfl (.int _ _) .nil))))))⟩
      · have ho := iF ho hb11
        refine Wp.exit ?_
        refine ⟨fun h => absurd h (by decide), fun _ => ?_⟩
        have ho := Option.some.inj ho
        subst ho
        exact ⟨by decide, by decide, (Sub.canon [] [] [] rfl (by decide) trivial .nil)⟩
    · intro x e' H' hP
      rcases o9 with s16 | s17
      · obtain ⟨hPx, hP2⟩ := hP
        subst hPx
        have hP := And.intro (True.intro) hP2
        refine ⟨fun _ => ?_, fun h => absurd (by decide) h⟩
        refine Sub.use hP.2 ?_
        refine Wp.seq ?_
        refine Wp.reg rfl ?_
        refine Wg.li rfl rfl rfl rfl (fun _ => rfl) ?_
        refine Wg.nil ?_
        refine ⟨fun _ => ?_, fun h => absurd (by decide) h⟩
        refine Wp.ret ?_
        have h := Option.some.inj h
        subst h
        exact ⟨.inr (by decide), _, rfl, rfl⟩
      · have hPx := hP.1
        subst hPx
        refine ⟨fun h => absurd h (by decide), fun _ => ?_⟩
        exact ⟨.inr rfl, by obtain ⟨vs, h1, h2⟩ := hP.2; exact ⟨vs, h1, by rw [h2]; have h := Option.some.inj h; subst h; rfl⟩⟩
def s75 (N : Nat) (a0 : Calc) (a1 : (List Leg)) (a2 : Int) : Option (Span) :=
  (s95 N a0 a1 a2).bind fun v1 =>
  (s56 N a0 a1).bind fun v2 =>
  (ck (v1.span.low + a0.t.load)).bind fun v3 =>
  (s98 N a0 v2 v3).bind fun v4 =>
  (s56 N a0 a1).bind fun v5 =>
  (ck (v1.span.high + a0.t.load)).bind fun v6 =>
  (s98 N a0 v5 v6).bind fun v7 =>
  some (Span.mk v4 v7)
theorem at75 : ctx.P.funcs[75]? = some Tryd.f75 := by kernel_rfl
theorem s75_ev {N : Nat} {a0 : Calc} {a1 : (List Leg)} {a2 : Int} {r : Span} (h : s75 N a0 a1 a2 = some r) : ∀ H, Ev ctx (.call 75 [.agg (eCalc a0), lst eLeg a1 .unk, .int .i64 a2] H (.agg (eSpan r)) H) := by
  refine Ev.of_pure at75 rfl rfl (Nat.le_of_ble_eq_true rfl) (pCons (pv (pCalcs _)) (pCons (Pure.lst pLeg _ pUnk) (pCons (.int _ _) pNil))) (pv (pSpan _)) ?_
  unfold s75 at h
  refine Wp.seq ?_
  refine Wp.reg rfl ?_
  refine Wg.box rfl rfl rfl rfl ?_
  refine Wg.alloc rfl rfl rfl rfl ?_
  refine Wg.nil ?_
  refine ⟨fun _ => ?_, fun h => absurd (by decide) h⟩
  refine Wp.seq ?_
  refine Wp.reg rfl ?_
  iterate 3 refine Wg.li rfl rfl rfl rfl (fun _ => rfl) ?_
  obtain ⟨v1, hv1, h⟩ := ob h
  refine Wg.call rfl rfl rfl rfl (s95_ev hv1 _) ?_
  refine Wg.alloc rfl rfl rfl rfl ?_
  refine Wg.heavy true (Nat.le_of_ble_eq_true rfl) rfl rfl rfl rfl ?_
  refine Wg.nil ?_
  refine ⟨fun _ => ?_, fun h => absurd (by decide) h⟩
  refine Wp.seq ?_
  refine Wp.drw _ [0, 1, 9, 12, 13, 21] rfl (by kernel_rfl) (Nat.le_refl _) ?_
  iterate 3 refine Wg.li rfl rfl rfl rfl (fun _ => rfl) ?_
  obtain ⟨v2, hv2, h⟩ := ob h
  refine Wg.call rfl rfl rfl rfl (s56_ev hv2 _) ?_
  iterate 2 refine Wg.li rfl rfl rfl rfl (fun _ => rfl) ?_
  refine Wg.ld rfl rfl rfl rfl rfl rfl ?_
  iterate 3 refine Wg.li rfl rfl rfl rfl (fun _ => rfl) ?_
  obtain ⟨v3, hv3, h⟩ := ob h
  refine Wg.bin (k := .i64) (k2 := .i64) (a := v1.span.low) (b := a0.t.load) rfl rfl rfl rfl rfl (bAdd hv3) ?_
  obtain ⟨v4, hv4, h⟩ := ob h
  refine Wg.call rfl rfl rfl rfl (s98_ev hv4 _) ?_
  iterate 3 refine Wg.li rfl rfl rfl rfl (fun _ => rfl) ?_
  obtain ⟨v5, hv5, h⟩ := ob h
  refine Wg.call rfl rfl rfl rfl (s56_ev hv5 _) ?_
  iterate 2 refine Wg.li rfl rfl rfl rfl (fun _ => rfl) ?_
  refine Wg.ld rfl rfl rfl rfl rfl rfl ?_
  iterate 3 refine Wg.li rfl rfl rfl rfl (fun _ => rfl) ?_
  obtain ⟨v6, hv6, h⟩ := ob h
  refine Wg.bin (k := .i64) (k2 := .i64) (a := v1.span.high) (b := a0.t.load) rfl rfl rfl rfl rfl (bAdd hv6) ?_
  obtain ⟨v7, hv7, h⟩ := ob h
  refine Wg.call rfl rfl rfl rfl (s98_ev hv7 _) ?_
  refine Wg.li rfl rfl rfl rfl (fun _ => rfl) ?_
  refine Wg.heavy true (Nat.le_of_ble_eq_true rfl) rfl rfl rfl rfl ?_
  refine Wg.nil ?_
  refine ⟨fun _ => ?_, fun h => absurd (by decide) h⟩
  refine Wp.ret ?_
  have h := Option.some.inj h
  subst h
  exact ⟨.inr (by decide), _, rfl, rfl⟩
def s93 (N : Nat) : Option ((List Bool)) :=
  (lenC 6 (List.replicate 6 false)).bind fun v1 =>
  (lenC 6 (List.replicate 6 false)).bind fun v2 =>
  (lenC 6 (List.replicate 6 false)).bind fun v3 =>
  some (List.replicate 6 false)
theorem at93 : ctx.P.funcs[93]? = some Tryd.f93 := by kernel_rfl
theorem s93_ev {N : Nat} {r : (List Bool)} (h : s93 N = some r) : ∀ H, Ev ctx (.call 93 [] H (.agg ((eAr eBool) r)) H) := by
  refine Ev.of_pure at93 rfl rfl (Nat.le_of_ble_eq_true rfl) pNil (pv ((pAr pBool) _)) ?_
  unfold s93 at h
  refine Wp.seq ?_
  refine Wp.reg rfl ?_
  refine Wg.alloc rfl rfl rfl rfl ?_
  refine Wg.nil ?_
  refine ⟨fun _ => ?_, fun h => absurd (by decide) h⟩
  refine Wp.seq ?_
  refine Wp.reg rfl ?_
  refine Wg.alloc rfl rfl rfl rfl ?_
  refine Wg.nil ?_
  refine ⟨fun _ => ?_, fun h => absurd (by decide) h⟩
  refine Wp.seq ?_
  refine Wp.reg rfl ?_
  obtain ⟨v1, hv1, h⟩ := ob h
  refine Wg.ldA (f := eBool) (xs := (List.replicate 6 false)) rfl rfl rfl rfl rfl rfl rfl rfl lBool hv1 rfl ?_
  obtain ⟨v2, hv2, h⟩ := ob h
  obtain ⟨v3, hv3, h⟩ := ob h
  refine Wg.stA (f := eBool) (xs := (List.replicate 6 false)) (ys := (List.replicate 6 false)) (Nat.le_of_ble_eq_true rfl) rfl rfl rfl rfl rfl rfl rfl (fun _ => rfl) rfl lBool hv2 (lenC_some hv3) ?_
  refine Wg.nil ?_
  refine ⟨fun _ => ?_, fun h => absurd (by decide) h⟩
  refine Wp.ret ?_
  have h := Option.some.inj h
  subst h
  exact ⟨.inr (by decide), _, rfl, rfl⟩
def s54_l40 (N : Nat) (a0 : Calc) (a1 : (List Leg)) (s3 : Int × (List Bool)) : Option ((Int × (List Bool)) ⊕ ((List Bool) ⊕ Bool)) :=
  if (decide (s3.1 < (a1.length : Int))) then
    (ix a1 s3.1).bind fun v7 =>
    (ck ((a0.t.trains.length : Int) - 1)).bind fun v8 =>
    (s60 N v7.train 0 v8).bind fun v9 =>
    (if (!v9) then some true else 
      (inA 6 v7.train).bind fun v12 =>
      (ix s3.2 v7.train).bind fun v13 =>
      some v13).bind fun v14 =>
    (if v14 then some true else 
      (ix a0.t.trains v7.train).bind fun v17 =>
      (ck ((v17.stops.length : Int) - 1)).bind fun v18 =>
      (s60 N v7.frm 0 v18).bind fun v19 =>
      some (!v19)).bind fun v20 =>
    (if v20 then some true else 
      (ck (v7.frm + 1)).bind fun v23 =>
      (ix a0.t.trains v7.train).bind fun v24 =>
      (ck ((v24.stops.length : Int) - 1)).bind fun v25 =>
      (s60 N v7.to v23 v25).bind fun v26 =>
      some (!v26)).bind fun v27 =>
    if v27 then
      some (.inr (.inr false))
    else
      (if (decide (s3.1 > 0)) then 
        (ck (s3.1 - 1)).bind fun v31 =>
        (ix a1 v31).bind fun v32 =>
        (s92 N a0 v32).bind fun v33 =>
        (s83 N a0 v7).bind fun v34 =>
        some (!(v33.station == v34.station))
       else some false).bind fun v35 =>
      if v35 then
        some (.inr (.inr false))
      else
        (inA 6 v7.train).bind fun v37 =>
        (setA s3.2 v7.train true).bind fun v38 =>
        (ck (s3.1 + 1)).bind fun v39 =>
        some (.inl (v39, v38))
  else
    some (.inr (.inl s3.2))
def s54 (N : Nat) (a0 : Calc) (a1 : (List Leg)) : Option (Bool) :=
  (s60 N (a1.length : Int) 1 4).bind fun v1 =>
  if (!v1) then
    some false
  else
    (iter (s54_l40 N a0 a1) N (0, (List.replicate 6 false))).bind fun o4 => match o4 with
    | .inl s41 =>
      (lenC 6 s41).bind fun v42 =>
      (s93 N).bind fun v43 =>
      (lenC 6 s41).bind fun v44 =>
      (lenC 6 v43).bind fun v45 =>
      (if (!(decide (s41 = v43))) then 
        (s55 N a0 a1).bind fun v48 =>
        (s56 N a0 a1).bind fun v49 =>
        some (!(v48 == v49))
       else some false).bind fun v50 =>
      some v50
    | .inr s51 =>
      some s51
abbrev F54 : Fr := { r := false, N := 102, m := 0 }
theorem at54 : ctx.P.funcs[54]? = some Tryd.f54 := by kernel_rfl
theorem s54_ev {N : Nat} {a0 : Calc} {a1 : (List Leg)} {r : Bool} (h : s54 N a0 a1 = some r) : ∀ H, Ev ctx (.call 54 [.agg (eCalc a0), lst eLeg a1 .unk] H (.bool r) H) := by
  refine Ev.of_pure at54 rfl rfl (Nat.le_of_ble_eq_true rfl) (pCons (pv (pCalcs _)) (pCons (Pure.lst pLeg _ pUnk) pNil)) (.bool _) ?_
  unfold s54 at h
  refine Wp.seq ?_
  refine Wp.reg rfl ?_
  refine Wg.box rfl rfl rfl rfl ?_
  refine Wg.li rfl rfl rfl rfl (fun _ => rfl) ?_
  refine Wg.nil ?_
  refine ⟨fun _ => ?_, fun h => absurd (by decide) h⟩
  refine Wp.seq ?_
  refine Wp.seq ?_
  refine Wp.reg rfl ?_
  iterate 2 refine Wg.li rfl rfl rfl rfl (fun _ => rfl) ?_
  obtain ⟨v1, hv1, h⟩ := ob h
  refine Wg.call rfl rfl rfl rfl (s60_ev hv1 _) ?_
  refine Wg.li rfl rfl rfl rfl (fun _ => rfl) ?_
  refine Wg.nil ?_
  refine ⟨fun _ => ?_, fun h => absurd (by decide) h⟩
  refine Wp.cond (!v1) rfl (fun hb2 => ?_) (fun hb2 => ?_)
  · have h := iT h hb2
    refine Wp.seq ?_
    refine Wp.reg rfl ?_
    refine Wg.li rfl rfl rfl rfl (fun _ => rfl) ?_
    refine Wg.nil ?_
    refine ⟨fun _ => ?_, fun h => absurd (by decide) h⟩
    refine Wp.ret ?_
    refine ⟨fun h => absurd h (by decide), fun _ => ?_⟩
    have h := Option.some.inj h
    subst h
    exact ⟨.inr (by decide), _, rfl, rfl⟩
  · have h := iF h hb2
    refine Wp.skip ?_
    refine ⟨fun _ => ?_, fun h => absurd (by decide) h⟩
    refine Wp.seq ?_
    refine Wp.reg rfl ?_
    refine Wg.alloc rfl rfl rfl rfl ?_
    refine Wg.nil ?_
    refine ⟨fun _ => ?_, fun h => absurd (by decide) h⟩
    refine Wp.seq ?_
    refine Wp.seq ?_
    refine Wp.reg rfl ?_
    iterate 3 refine Wg.li rfl rfl rfl rfl (fun _ => rfl) ?_
    refine Wg.nil ?_
    refine ⟨fun _ => ?_, fun h => absurd (by decide) h⟩
    refine Wp.block ?_
    obtain ⟨o4, hx5, h⟩ := ob h
    refine Sub.use (Sub.canon [some 0] [.cells ((eAr eBool) (List.replicate 6 false))] [(1, lst eLeg a1 .unk), (2, .ro (eCalc a0)), (5, .ptr 0 0), (12, lst eLeg a1 .unk), (13, .int .i64 (a1.length : Int)), (14, .int .i64 0)] rfl (by decide) ⟨.pure rfl ((pAr pBool) _), trivial⟩ (.pure rfl (Pure.lst pLeg _ pUnk) (.pure rfl (.ro (pCalcs _)) (.ptr rfl rfl (.pure rfl (Pure.lst pLeg _ pUnk) (.pure rfl (.int _ _) (.pure rfl (.int _ _) .nil))))))) ?_
    refine Wp.after (Wp.iterS (s54_l40 N a0 a1) (fun s3 => Env.ofList [(1, lst eLeg a1 .unk), (2, .ro (eCalc a0)), (5, .ptr 0 0), (12, lst eLeg a1 .unk), (13, .int .i64 (a1.length : Int)), (14, .int .i64 s3.1)]) (fun s3 => hp [.cells ((eAr eBool) s3.2)]) (fun o4 x e' H' => match o4 with | .inl s => x = .exit 0 ∧ Sub ctx F54 (Env.ofList [(1, lst eLeg a1 .unk), (2, .ro (eCalc a0)), (5, .ptr 0 0)]) (hp [.cells ((eAr eBool) s)]) e' H' | .inr s => x = .ret ∧ ∃ vs, resA ctx e' H' [.tmp 4] = some vs ∧ retA vs = .bool s) ?_ N (0, (List.replicate 6 false)) _ hx5) ?_
    · intro s3 o ho
      unfold s54_l40 at ho
      refine Wp.seq ?_
      refine Wp.reg rfl ?_
      refine Wg.li rfl rfl rfl rfl (fun _ => rfl) ?_
      refine Wg.nil ?_
      refine ⟨fun _ => ?_, fun h => absurd (by decide) h⟩
      refine Wp.seq ?_
      refine Wp.cond (decide (s3.1 < (a1.length : Int))) rfl (fun hb6 => ?_) (fun hb6 => ?_)
      · have ho := iT ho hb6
        refine Wp.skip ?_
        refine ⟨fun _ => ?_, fun h => absurd (by decide) h⟩
        refine Wp.seq ?_
        refine Wp.block ?_
        refine Wp.seq ?_
        refine Wp.reg rfl ?_
        refine Wg.li rfl rfl rfl rfl (fun _ => rfl) ?_
        obtain ⟨v7, hv7, ho⟩ := ob ho
        refine Wg.idx (f := eLeg) (xs := a1) (c := .unk) rfl rfl rfl rfl rfl rfl rfl lLeg (by decide) hv7 ?_
        refine Wg.li rfl rfl rfl rfl (fun _ => rfl) ?_
        refine Wg.alloc rfl rfl rfl rfl ?_
        refine Wg.li rfl rfl rfl rfl (fun _ => rfl) ?_
        refine Wg.heavy true (Nat.le_of_ble_eq_true rfl) rfl rfl rfl rfl ?_
        refine Wg.nil ?_
        refine ⟨fun _ => ?_, fun h => absurd (by decide) h⟩
        refine Wp.seq ?_
        refine Wp.seq ?_
        refine Wp.drw _ [4, 20, 25, 39, 44] rfl (by kernel_rfl) (Nat.le_refl _) ?_
        refine Wg.li rfl rfl rfl rfl (fun _ => rfl) ?_
        refine Wg.ld rfl rfl rfl rfl rfl rfl ?_
        iterate 4 refine Wg.li rfl rfl rfl rfl (fun _ => rfl) ?_
        obtain ⟨v8, hv8, ho⟩ := ob ho
        refine Wg.bin (k := .i64) (k2 := .i64) (a := (a0.t.trains.length : Int)) (b := 1) rfl rfl rfl rfl rfl (bSub hv8) ?_
        obtain ⟨v9, hv9, ho⟩ := ob ho
        refine Wg.call rfl rfl rfl rfl (s60_ev hv9 _) ?_
        iterate 2 refine Wg.li rfl rfl rfl rfl (fun _ => rfl) ?_
        obtain ⟨v14, hv10, ho⟩ := ob ho
        refine Wg.grp 5 33 28 v14 (!v9) rfl rfl (Nat.le_of_ble_eq_true rfl) (fun hb11 => ?_) (fun hb11 => ?_) ?_
        · have hv10 := iT hv10 hb11
          iterate 4 refine Wg.skip rfl rfl ?_
          refine Wg.li rfl rfl rfl rfl (fun _ => rfl) ?_
          refine Wg.nil ⟨some_b hv10, ?_, rfl⟩
          repeat (first | exact Env.le_refl _ | refine Env.le_put rfl ?_)
        · have hv10 := iF hv10 hb11
          refine Wg.li rfl rfl rfl rfl (fun _ => rfl) ?_
          refine Wg.ld rfl rfl rfl rfl rfl rfl ?_
          obtain ⟨v12, hv12, hv10⟩ := ob hv10
          refine Wg.idxP rfl rfl rfl rfl rfl rfl rfl hv12 ?_
          obtain ⟨v13, hv13, hv10⟩ := ob hv10
          refine Wg.ldP (f := eBool) (xs := s3.2) (j := v7.train) rfl rfl rfl rfl rfl rfl rfl (by simp) rfl lBool rfl hv13 rfl ?_
          refine Wg.li rfl rfl rfl rfl (fun _ => rfl) ?_
          refine Wg.nil ⟨some_b hv10, ?_, rfl⟩
          repeat (first | exact Env.le_refl _ | refine Env.le_put rfl ?_)
        refine Wg.li rfl rfl rfl rfl (fun _ => rfl) ?_
        obtain ⟨v20, hv15, ho⟩ := ob ho
        refine Wg.grp 15 49 34 v20 v14 rfl rfl (Nat.le_of_ble_eq_true rfl) (fun hb16 => ?_) (fun hb16 => ?_) ?_
        · have hv15 := iT hv15 hb16
          iterate 14 refine Wg.skip rfl rfl ?_
          refine Wg.li rfl rfl rfl rfl (fun _ => rfl) ?_
          refine Wg.nil ⟨some_b hv15, ?_, rfl⟩
          repeat (first | exact Env.le_refl _ | refine Env.le_put rfl ?_)
        · have hv15 := iF hv15 hb16
          refine Wg.li rfl rfl rfl rfl (fun _ => rfl) ?_
          refine Wg.ld rfl rfl rfl rfl rfl rfl ?_
          iterate 4 refine Wg.li rfl rfl rfl rfl (fun _ => rfl) ?_
          refine Wg.ld rfl rfl rfl rfl rfl rfl ?_
          obtain ⟨v17, hv17, hv15⟩ := ob hv15
          refine Wg.idx (f := eTrain) (xs := a0.t.trains) (c := .unk) rfl rfl rfl rfl rfl rfl rfl lTrain (by decide) hv17 ?_
          iterate 3 refine Wg.li rfl rfl rfl rfl (fun _ => rfl) ?_
          obtain ⟨v18, hv18, hv15⟩ := ob hv15
          refine Wg.bin (k := .i64) (k2 := .i64) (a := (v17.stops.length : Int)) (b := 1) rfl rfl rfl rfl rfl (bSub hv18) ?_
          obtain ⟨v19, hv19, hv15⟩ := ob hv15
          refine Wg.call rfl rfl rfl rfl (s60_ev hv19 _) ?_
          iterate 2 refine Wg.li rfl rfl rfl rfl (fun _ => rfl) ?_
          refine Wg.nil ⟨some_b hv15, ?_, rfl⟩
          repeat (first | exact Env.le_refl _ | refine Env.le_put rfl ?_)
        refine Wg.li rfl rfl rfl rfl (fun _ => rfl) ?_
        obtain ⟨v27, hv21, ho⟩ := ob ho
        refine Wg.grp 18 68 50 v27 v20 rfl rfl (Nat.le_of_ble_eq_true rfl) (fun hb22 => ?_) (fun hb22 => ?_) ?_
        · have hv21 := iT hv21 hb22
          iterate 17 refine Wg.skip rfl rfl ?_
          refine Wg.li rfl rfl rfl rfl (fun _ => rfl) ?_
          refine Wg.nil ⟨some_b hv21, ?_, rfl⟩
          repeat (first | exact Env.le_refl _ | refine Env.le_put rfl ?_)
        · have hv21 := iF hv21 hb22
          refine Wg.li rfl rfl rfl rfl (fun _ => rfl) ?_
          refine Wg.ld rfl rfl rfl rfl rfl rfl ?_
          refine Wg.li rfl rfl rfl rfl (fun _ => rfl) ?_
          refine Wg.ld rfl rfl rfl rfl rfl rfl ?_
          obtain ⟨v23, hv23, hv21⟩ := ob hv21
          refine Wg.bin (k := .i64) (k2 := .i64) (a := v7.frm) (b := 1) rfl rfl rfl rfl rfl (bAdd hv23) ?_
          iterate 4 refine Wg.li rfl rfl rfl rfl (fun _ => rfl) ?_
          refine Wg.ld rfl rfl rfl rfl rfl rfl ?_
          obtain ⟨v24, hv24, hv21⟩ := ob hv21
          refine Wg.idx (f := eTrain) (xs := a0.t.trains) (c := .unk) rfl rfl rfl rfl rfl rfl rfl lTrain (by decide) hv24 ?_
          iterate 3 refine Wg.li rfl rfl rfl rfl (fun _ => rfl) ?_
          obtain ⟨v25, hv25, hv21⟩ := ob hv21
          refine Wg.bin (k := .i64) (k2 := .i64) (a := (v24.stops.length : Int)) (b := 1) rfl rfl rfl rfl rfl (bSub hv25) ?_
          obtain ⟨v26, hv26, hv21⟩ := ob hv21
          refine Wg.call rfl rfl rfl rfl (s60_ev hv26 _) ?_
          iterate 2 refine Wg.li rfl rfl rfl rfl (fun _ => rfl) ?_
          refine Wg.nil ⟨some_b hv21, ?_, rfl⟩
          repeat (first | exact Env.le_refl _ | refine Env.le_put rfl ?_)
        refine Wg.nil ?_
        refine ⟨fun _ => ?_, fun h => absurd (by decide) h⟩
        refine Wp.cond v27 rfl (fun hb28 => ?_) (fun hb28 => ?_)
        · have ho := iT ho hb28
          refine Wp.seq ?_
          refine Wp.reg rfl ?_
          refine Wg.li rfl rfl rfl rfl (fun _ => rfl) ?_
          refine Wg.nil ?_
          refine ⟨fun _ => ?_, fun h => absurd (by decide) h⟩
          refine Wp.ret ?_
          refine ⟨fun h => absurd h (by decide), fun _ => ?_⟩
          refine ⟨fun h => absurd h (by decide), fun _ => ?_⟩
          have ho := Option.some.inj ho
          subst ho
          exact ⟨by decide, by decide, _, rfl, rfl⟩
        · have ho := iF ho hb28
          refine Wp.skip ?_
          refine ⟨fun _ => ?_, fun h => absurd (by decide) h⟩
          refine Wp.seq ?_
          refine Wp.seq ?_
          refine Wp.drw _ [3, 8, 11] rfl (by kernel_rfl) (Nat.le_refl _) ?_
          iterate 3 refine Wg.li rfl rfl rfl rfl (fun _ => rfl) ?_
          obtain ⟨v35, hv29, ho⟩ := ob ho
          refine Wg.grp 14 85 71 v35 (decide (s3.1 > 0)) rfl rfl (Nat.le_of_ble_eq_true rfl) (fun hb30 => ?_) (fun hb30 => ?_) ?_
          · have hv29 := iT hv29 hb30
            iterate 3 refine Wg.li rfl rfl rfl rfl (fun _ => rfl) ?_
            obtain ⟨v31, hv31, hv29⟩ := ob hv29
            refine Wg.bin (k := .i64) (k2 := .i64) (a := s3.1) (b := 1) rfl rfl rfl rfl rfl (bSub hv31) ?_
            obtain ⟨v32, hv32, hv29⟩ := ob hv29
            refine Wg.idx (f := eLeg) (xs := a1) (c := .unk) rfl rfl rfl rfl rfl rfl rfl lLeg (by decide) hv32 ?_
            refine Wg.li rfl rfl rfl rfl (fun _ => rfl) ?_
            obtain ⟨v33, hv33, hv29⟩ := ob hv29
            refine Wg.call rfl rfl rfl rfl (s92_ev hv33 _) ?_
            iterate 2 refine Wg.li rfl rfl rfl rfl (fun _ => rfl) ?_
            refine Wg.ld rfl rfl rfl rfl rfl rfl ?_
            obtain ⟨v34, hv34, hv29⟩ := ob hv29
            refine Wg.call rfl rfl rfl rfl (s83_ev hv34 _) ?_
            iterate 3 refine Wg.li rfl rfl rfl rfl (fun _ => rfl) ?_
            refine Wg.nil ⟨some_b hv29, ?_, rfl⟩
            repeat (first | exact Env.le_refl _ | refine Env.le_put rfl ?_)
          · have hv29 := iF hv29 hb30
            iterate 13 refine Wg.skip rfl rfl ?_
            refine Wg.li rfl rfl rfl rfl (fun _ => rfl) ?_
            refine Wg.nil ⟨some_b hv29, ?_, rfl⟩
            repeat (first | exact Env.le_refl _ | refine Env.le_put rfl ?_)
          refine Wg.nil ?_
          refine ⟨fun _ => ?_, fun h => absurd (by decide) h⟩
          refine Wp.cond v35 rfl (fun hb36 => ?_) (fun hb36 => ?_)
          · have ho := iT ho hb36
            refine Wp.seq ?_
            refine Wp.reg rfl ?_
            refine Wg.li rfl rfl rfl rfl (fun _ => rfl) ?_
            refine Wg.nil ?_
            refine ⟨fun _ => ?_, fun h => absurd (by decide) h⟩
            refine Wp.ret ?_
            refine ⟨fun h => absurd h (by decide), fun _ => ?_⟩
            refine ⟨fun h => absurd h (by decide), fun _ => ?_⟩
            have ho := Option.some.inj ho
            subst ho
            exact ⟨by decide, by decide, _, rfl, rfl⟩
          · have ho := iF ho hb36
            refine Wp.skip ?_
            refine ⟨fun _ => ?_, fun h => absurd (by decide) h⟩
            refine Wp.reg rfl ?_
            refine Wg.li rfl rfl rfl rfl (fun _ => rfl) ?_
            refine Wg.ld rfl rfl rfl rfl rfl rfl ?_
            obtain ⟨v37, hv37, ho⟩ := ob ho
            refine Wg.idxP rfl rfl rfl rfl rfl rfl rfl hv37 ?_
            obtain ⟨v38, hv38, ho⟩ := ob ho
            refine Wg.stP (f := eBool) (xs := s3.2) (a := true) (Nat.le_of_ble_eq_true rfl) rfl rfl rfl rfl rfl rfl rfl rfl rfl (by simp) rfl lBool hv38 ?_
            refine Wg.nil ?_
            refine ⟨fun _ => ?_, fun h => absurd (by decide) h⟩
            refine Wp.reg rfl ?_
            obtain ⟨v39, hv39, ho⟩ := ob ho
            refine Wg.bin (k := .i64) (k2 := .i64) (a := s3.1) (b := 1) rfl rfl rfl rfl rfl (bAdd hv39) ?_
            refine Wg.li rfl rfl rfl rfl (fun _ => rfl) ?_
            refine Wg.nil ?_
            have ho := Option.some.inj ho
            subst ho
            exact ⟨by decide, (Sub.canon [some 0] [.cells ((eAr eBool) v38)] [(1, lst eLeg a1 .unk), (2, .ro (eCalc a0)), (5, .ptr 0 0), (12, lst eLeg a1 .unk), (13, .int .i64 (a1.length : Int)), (14, .int .i64 v39)] rfl (by decide) ⟨.pure rfl ((pAr pBool) _), trivial⟩ (.pure rfl (Pure.lst pLeg _ pUnk) (.pure rfl (.ro (pCalcs _)) (.ptr rfl rfl (.pure rfl (Pure.lst pLeg _ pUnk) (.pure rfl (.int _ _) (.pure rfl (.int _ _) .nil)))))))⟩
      · have ho := iF ho hb6
        refine Wp.exit ?_
        refine ⟨fun h => absurd h (by decide), fun _ => ?_⟩
        have ho := Option.some.inj ho
        subst ho
        exact ⟨by decide, by decide, (Sub.canon [some 0] [.cells ((eAr eBool) s3.2)] [(1, lst eLeg a1 .unk), (2, .ro (eCalc a0)), (5, .ptr 0 0)] rfl (by decide) ⟨.pure rfl ((pAr pBool) _), trivial⟩ (.pure rfl (Pure.lst pLeg _ pUnk) (.pure rfl (.ro (pCalcs _)) (.ptr rfl rfl .nil))))⟩
    · intro x e' H' hP
      rcases o4 with s41 | s51
      · obtain ⟨hPx, hP2⟩ := hP
        subst hPx
        have hP := And.intro (True.intro) hP2
        refine ⟨fun _ => ?_, fun h => absurd (by decide) h⟩
        refine Sub.use hP.2 ?_
        refine Wp.seq ?_
        refine Wp.drw _ [4, 7] rfl (by kernel_rfl) (Nat.le_refl _) ?_
        obtain ⟨v42, hv42, h⟩ := ob h
        refine Wg.ldA (f := eBool) (xs := s41) rfl rfl rfl rfl rfl rfl rfl rfl lBool hv42 rfl ?_
        obtain ⟨v43, hv43, h⟩ := ob h
        refine Wg.call rfl rfl rfl rfl (s93_ev hv43 _) ?_
        obtain ⟨v44, hv44, h⟩ := ob h
        obtain ⟨v45, hv45, h⟩ := ob h
        refine Wg.eqAr (op := .neq) (n := 6) (p := s41) (q := v43) rfl rfl rfl (by decide) rfl rfl rfl rfl hv44 hv45 ?_
        refine Wg.li rfl rfl rfl rfl (fun _ => rfl) ?_
        obtain ⟨v50, hv46, h⟩ := ob h
        refine Wg.grp 8 101 93 v50 (!(decide (s41 = v43))) rfl rfl (Nat.le_of_ble_eq_true rfl) (fun hb47 => ?_) (fun hb47 => ?_) ?_
        · have hv46 := iT hv46 hb47
          iterate 2 refine Wg.li rfl rfl rfl rfl (fun _ => rfl) ?_
          obtain ⟨v48, hv48, hv46⟩ := ob hv46
          refine Wg.call rfl rfl rfl rfl (s55_ev hv48 _) ?_
          iterate 2 refine Wg.li rfl rfl rfl rfl (fun _ => rfl) ?_
          obtain ⟨v49, hv49, hv46⟩ := ob hv46
          refine Wg.call rfl rfl rfl rfl (s56_ev hv49 _) ?_
          iterate 2 refine Wg.li rfl rfl rfl rfl (fun _ => rfl) ?_
          refine Wg.nil ⟨some_b hv46, ?_, rfl⟩
          repeat (first | exact Env.le_refl _ | refine Env.le_put rfl ?_)
        · have hv46 := iF hv46 hb47
          iterate 7 refine Wg.skip rfl rfl ?_
          refine Wg.li rfl rfl rfl rfl (fun _ => rfl) ?_
          refine Wg.nil ⟨some_b hv46, ?_, rfl⟩
          repeat (first | exact Env.le_refl _ | refine Env.le_put rfl ?_)
        refine Wg.li rfl rfl rfl rfl (fun _ => rfl) ?_
        refine Wg.nil ?_
        refine ⟨fun _ => ?_, fun h => absurd (by decide) h⟩
        refine Wp.ret ?_
        have h := Option.some.inj h
        subst h
        exact ⟨.inr (by decide), _, rfl, rfl⟩
      · have hPx := hP.1
        subst hPx
        refine ⟨fun h => absurd h (by decide), fun _ => ?_⟩
        exact ⟨.inr rfl, by obtain ⟨vs, h1, h2⟩ := hP.2; exact ⟨vs, h1, by rw [h2]; have h := Option.some.inj h; subst h; rfl⟩⟩
def s53 (N : Nat) (a0 : Calc) (a1 : Int) (a2 : Int) : Option (Bool) :=
  (ck ((a0.t.offices.length : Int) - 1)).bind fun v1 =>
  (s60 N a1 0 v1).bind fun v2 =>
  (if v2 then 
    (ck ((a0.t.offices.length : Int) - 1)).bind fun v5 =>
    (s60 N a2 0 v5).bind fun v6 =>
    some v6
   else some false).bind fun v7 =>
  some (v7 && (!(a1 == a2)))
theorem at53 : ctx.P.funcs[53]? = some Tryd.f53 := by kernel_rfl
theorem s53_ev {N : Nat} {a0 : Calc} {a1 : Int} {a2 : Int} {r : Bool} (h : s53 N a0 a1 a2 = some r) : ∀ H, Ev ctx (.call 53 [.agg (eCalc a0), .int .i64 a1, .int .i64 a2] H (.bool r) H) := by
  refine Ev.of_pure at53 rfl rfl (Nat.le_of_ble_eq_true rfl) (pCons (pv (pCalcs _)) (pCons (.int _ _) (pCons (.int _ _) pNil))) (.bool _) ?_
  unfold s53 at h
  refine Wp.seq ?_
  refine Wp.reg rfl ?_
  refine Wg.box rfl rfl rfl rfl ?_
  refine Wg.li rfl rfl rfl rfl (fun _ => rfl) ?_
  refine Wg.nil ?_
  refine ⟨fun _ => ?_, fun h => absurd (by decide) h⟩
  refine Wp.seq ?_
  refine Wp.reg rfl ?_
  iterate 5 refine Wg.li rfl rfl rfl rfl (fun _ => rfl) ?_
  obtain ⟨v1, hv1, h⟩ := ob h
  refine Wg.bin (k := .i64) (k2 := .i64) (a := (a0.t.offices.length : Int)) (b := 1) rfl rfl rfl rfl rfl (bSub hv1) ?_
  obtain ⟨v2, hv2, h⟩ := ob h
  refine Wg.call rfl rfl rfl rfl (s60_ev hv2 _) ?_
  refine Wg.li rfl rfl rfl rfl (fun _ => rfl) ?_
  obtain ⟨v7, hv3, h⟩ := ob h
  refine Wg.grp 8 22 14 v7 v2 rfl rfl (Nat.le_of_ble_eq_true rfl) (fun hb4 => ?_) (fun hb4 => ?_) ?_
  · have hv3 := iT hv3 hb4
    iterate 5 refine Wg.li rfl rfl rfl rfl (fun _ => rfl) ?_
    obtain ⟨v5, hv5, hv3⟩ := ob hv3
    refine Wg.bin (k := .i64) (k2 := .i64) (a := (a0.t.offices.length : Int)) (b := 1) rfl rfl rfl rfl rfl (bSub hv5) ?_
    obtain ⟨v6, hv6, hv3⟩ := ob hv3
    refine Wg.call rfl rfl rfl rfl (s60_ev hv6 _) ?_
    refine Wg.li rfl rfl rfl rfl (fun _ => rfl) ?_
    refine Wg.nil ⟨some_b hv3, ?_, rfl⟩
    repeat (first | exact Env.le_refl _ | refine Env.le_put rfl ?_)
  · have hv3 := iF hv3 hb4
    iterate 7 refine Wg.skip rfl rfl ?_
    refine Wg.li rfl rfl rfl rfl (fun _ => rfl) ?_
    refine Wg.nil ⟨some_b hv3, ?_, rfl⟩
    repeat (first | exact Env.le_refl _ | refine Env.le_put rfl ?_)
  refine Wg.li rfl rfl rfl rfl (fun _ => rfl) ?_
  have hv8 := ifAnd v7 (!(a1 == a2))
  refine Wg.grp 4 27 23 (v7 && (!(a1 == a2))) v7 rfl rfl (Nat.le_of_ble_eq_true rfl) (fun hb9 => ?_) (fun hb9 => ?_) ?_
  · have hv8 := iT hv8 hb9
    iterate 4 refine Wg.li rfl rfl rfl rfl (fun _ => rfl) ?_
    refine Wg.nil ⟨some_b hv8, ?_, rfl⟩
    repeat (first | exact Env.le_refl _ | refine Env.le_put rfl ?_)
  · have hv8 := iF hv8 hb9
    iterate 3 refine Wg.skip rfl rfl ?_
    refine Wg.li rfl rfl rfl rfl (fun _ => rfl) ?_
    refine Wg.nil ⟨some_b hv8, ?_, rfl⟩
    repeat (first | exact Env.le_refl _ | refine Env.le_put rfl ?_)
  refine Wg.li rfl rfl rfl rfl (fun _ => rfl) ?_
  refine Wg.nil ?_
  refine ⟨fun _ => ?_, fun h => absurd (by decide) h⟩
  refine Wp.ret ?_
  have h := Option.some.inj h
  subst h
  exact ⟨.inr (by decide), _, rfl, rfl⟩
def s85 (N : Nat) (a0 : Int) : Option (Bool) :=
  (s60 N a0 0 2879).bind fun v1 =>
  some v1
theorem at85 : ctx.P.funcs[85]? = some Tryd.f85 := by kernel_rfl
theorem s85_ev {N : Nat} {a0 : Int} {r : Bool} (h : s85 N a0 = some r) : ∀ H, Ev ctx (.call 85 [.int .i64 a0] H (.bool r) H) := by
  refine Ev.of_pure at85 rfl rfl (Nat.le_of_ble_eq_true rfl) (pCons (.int _ _) pNil) (.bool _) ?_
  unfold s85 at h
  refine Wp.seq ?_
  refine Wp.reg rfl ?_
  refine Wg.li rfl rfl rfl rfl (fun _ => rfl) ?_
  refine Wg.nil ?_
  refine ⟨fun _ => ?_, fun h => absurd (by decide) h⟩
  refine Wp.seq ?_
  refine Wp.reg rfl ?_
  refine Wg.li rfl rfl rfl rfl (fun _ => rfl) ?_
  obtain ⟨v1, hv1, h⟩ := ob h
  refine Wg.call rfl rfl rfl rfl (s60_ev hv1 _) ?_
  refine Wg.li rfl rfl rfl rfl (fun _ => rfl) ?_
  refine Wg.nil ?_
  refine ⟨fun _ => ?_, fun h => absurd (by decide) h⟩
  refine Wp.ret ?_
  have h := Option.some.inj h
  subst h
  exact ⟨.inr (by decide), _, rfl, rfl⟩
def s52 (N : Nat) (a0 : Calc) (c0 : Int) (c1 : Int) : Option (Bool) :=
  (s53 N a0 c0 c1).bind fun v1 =>
  some v1
theorem at52 : ctx.P.funcs[52]? = some Tryd.f52 := by kernel_rfl
theorem s52_ev {N : Nat} {a0 : Calc} {c0 : Int} {c1 : Int} {r : Bool} (h : s52 N a0 c0 c1 = some r) : ∀ H, Ev ctx (.call 52 [.agg (eCalc a0), .ro [.int .i64 c0], .ro [.int .i64 c1]] H (.bool r) H) := by
  refine Ev.of_pure at52 rfl rfl (Nat.le_of_ble_eq_true rfl) (pCons (pv (pCalcs _)) (pCons (.ro (pCons (.int _ _) pNil)) (pCons (.ro (pCons (.int _ _) pNil)) pNil))) (.bool _) ?_
  unfold s52 at h
  refine Wp.seq ?_
  refine Wp.reg rfl ?_
  refine Wg.box rfl rfl rfl rfl ?_
  refine Wg.li rfl rfl rfl rfl (fun _ => rfl) ?_
  refine Wg.nil ?_
  refine ⟨fun _ => ?_, fun h => absurd (by decide) h⟩
  refine Wp.seq ?_
  refine Wp.reg rfl ?_
  iterate 3 refine Wg.li rfl rfl rfl rfl (fun _ => rfl) ?_
  obtain ⟨v1, hv1, h⟩ := ob h
  refine Wg.call rfl rfl rfl rfl (s53_ev hv1 _) ?_
  refine Wg.li rfl rfl rfl rfl (fun _ => rfl) ?_
  refine Wg.nil ?_
  refine ⟨fun _ => ?_, fun h => absurd (by decide) h⟩
  refine Wp.ret ?_
  have h := Option.some.inj h
  subst h
  exact ⟨.inr (by decide), _, rfl, rfl⟩
def s84 (N : Nat) (a0 : Calc) (c0 : Int) (c1 : Int) : Option (Bool) :=
  (ck ((a0.t.offices.length : Int) - 1)).bind fun v1 =>
  (s60 N c0 0 v1).bind fun v2 =>
  (if v2 then 
    (s85 N c1).bind fun v5 =>
    some v5
   else some false).bind fun v6 =>
  some v6
theorem at84 : ctx.P.funcs[84]? = some Tryd.f84 := by kernel_rfl
theorem s84_ev {N : Nat} {a0 : Calc} {c0 : Int} {c1 : Int} {r : Bool} (h : s84 N a0 c0 c1 = some r) : ∀ H, Ev ctx (.call 84 [.agg (eCalc a0), .ro [.int .i64 c0], .ro [.int .i64 c1]] H (.bool r) H) := by
  refine Ev.of_pure at84 rfl rfl (Nat.le_of_ble_eq_true rfl) (pCons (pv (pCalcs _)) (pCons (.ro (pCons (.int _ _) pNil)) (pCons (.ro (pCons (.int _ _) pNil)) pNil))) (.bool _) ?_
  unfold s84 at h
  refine Wp.seq ?_
  refine Wp.reg rfl ?_
  refine Wg.box rfl rfl rfl rfl ?_
  refine Wg.li rfl rfl rfl rfl (fun _ => rfl) ?_
  refine Wg.nil ?_
  refine ⟨fun _ => ?_, fun h => absurd (by decide) h⟩
  refine Wp.seq ?_
  refine Wp.reg rfl ?_
  iterate 5 refine Wg.li rfl rfl rfl rfl (fun _ => rfl) ?_
  obtain ⟨v1, hv1, h⟩ := ob h
  refine Wg.bin (k := .i64) (k2 := .i64) (a := (a0.t.offices.length : Int)) (b := 1) rfl rfl rfl rfl rfl (bSub hv1) ?_
  obtain ⟨v2, hv2, h⟩ := ob h
  refine Wg.call rfl rfl rfl rfl (s60_ev hv2 _) ?_
  refine Wg.li rfl rfl rfl rfl (fun _ => rfl) ?_
  obtain ⟨v6, hv3, h⟩ := ob h
  refine Wg.grp 3 15 12 v6 v2 rfl rfl (Nat.le_of_ble_eq_true rfl) (fun hb4 => ?_) (fun hb4 => ?_) ?_
  · have hv3 := iT hv3 hb4
    refine Wg.li rfl rfl rfl rfl (fun _ => rfl) ?_
    obtain ⟨v5, hv5, hv3⟩ := ob hv3
    refine Wg.call rfl rfl rfl rfl (s85_ev hv5 _) ?_
    refine Wg.li rfl rfl rfl rfl (fun _ => rfl) ?_
    refine Wg.nil ⟨some_b hv3, ?_, rfl⟩
    repeat (first | exact Env.le_refl _ | refine Env.le_put rfl ?_)
  · have hv3 := iF hv3 hb4
    iterate 2 refine Wg.skip rfl rfl ?_
    refine Wg.li rfl rfl rfl rfl (fun _ => rfl) ?_
    refine Wg.nil ⟨some_b hv3, ?_, rfl⟩
    repeat (first | exact Env.le_refl _ | refine Env.le_put rfl ?_)
  refine Wg.li rfl rfl rfl rfl (fun _ => rfl) ?_
  refine Wg.nil ?_
  refine ⟨fun _ => ?_, fun h => absurd (by decide) h⟩
  refine Wp.ret ?_
  have h := Option.some.inj h
  subst h
  exact ⟨.inr (by decide), _, rfl, rfl⟩
def s99 (N : Nat) (a0 : Calc) (c0 : Int) (c1 : Int) (c2 : Int) : Option (Bool) :=
  (s53 N a0 c0 c1).bind fun v1 =>
  (if v1 then 
    (s85 N c2).bind fun v4 =>
    some v4
   else some false).bind fun v5 =>
  some v5
theorem at99 : ctx.P.funcs[99]? = some Tryd.f99 := by kernel_rfl
theorem s99_ev {N : Nat} {a0 : Calc} {c0 : Int} {c1 : Int} {c2 : Int} {r : Bool} (h : s99 N a0 c0 c1 c2 = some r) : ∀ H, Ev ctx (.call 99 [.agg (eCalc a0), .ro [.int .i64 c0], .ro [.int .i64 c1], .ro [.int .i64 c2]] H (.bool r) H) := by
  refine Ev.of_pure at99 rfl rfl (Nat.le_of_ble_eq_true rfl) (pCons (pv (pCalcs _)) (pCons (.ro (pCons (.int _ _) pNil)) (pCons (.ro (pCons (.int _ _) pNil)) (pCons (.ro (pCons (.int _ _) pNil)) pNil)))) (.bool _) ?_
  unfold s99 at h
  refine Wp.seq ?_
  refine Wp.reg rfl ?_
  refine Wg.box rfl rfl rfl rfl ?_
  refine Wg.li rfl rfl rfl rfl (fun _ => rfl) ?_
  refine Wg.nil ?_
  refine ⟨fun _ => ?_, fun h => absurd (by decide) h⟩
  refine Wp.seq ?_
  refine Wp.reg rfl ?_
  iterate 3 refine Wg.li rfl rfl rfl rfl (fun _ => rfl) ?_
  obtain ⟨v1, hv1, h⟩ := ob h
  refine Wg.call rfl rfl rfl rfl (s53_ev hv1 _) ?_
  refine Wg.li rfl rfl rfl rfl (fun _ => rfl) ?_
  obtain ⟨v5, hv2, h⟩ := ob h
  refine Wg.grp 3 13 10 v5 v1 rfl rfl (Nat.le_of_ble_eq_true rfl) (fun hb3 => ?_) (fun hb3 => ?_) ?_
  · have hv2 := iT hv2 hb3
    refine Wg.li rfl rfl rfl rfl (fun _ => rfl) ?_
    obtain ⟨v4, hv4, hv2⟩ := ob hv2
    refine Wg.call rfl rfl rfl rfl (s85_ev hv4 _) ?_
    refine Wg.li rfl rfl rfl rfl (fun _ => rfl) ?_
    refine Wg.nil ⟨some_b hv2, ?_, rfl⟩
    repeat (first | exact Env.le_refl _ | refine Env.le_put rfl ?_)
  · have hv2 := iF hv2 hb3
    iterate 2 refine Wg.skip rfl rfl ?_
    refine Wg.li rfl rfl rfl rfl (fun _ => rfl) ?_
    refine Wg.nil ⟨some_b hv2, ?_, rfl⟩
    repeat (first | exact Env.le_refl _ | refine Env.le_put rfl ?_)
  refine Wg.li rfl rfl rfl rfl (fun _ => rfl) ?_
  refine Wg.nil ?_
  refine ⟨fun _ => ?_, fun h => absurd (by decide) h⟩
  refine Wp.ret ?_
  have h := Option.some.inj h
  subst h
  exact ⟨.inr (by decide), _, rfl, rfl⟩
def s94 (N : Nat) (a0 : Calc) (c0 : (List Leg)) (c1 : Int) : Option (Bool) :=
  (s54 N a0 c0).bind fun v1 =>
  (if v1 then 
    (s85 N c1).bind fun v4 =>
    some v4
   else some false).bind fun v5 =>
  some v5
theorem at94 : ctx.P.funcs[94]? = some Tryd.f94 := by kernel_rfl
theorem s94_ev {N : Nat} {a0 : Calc} {c0 : (List Leg)} {c1 : Int} {r : Bool} (h : s94 N a0 c0 c1 = some r) : ∀ H, Ev ctx (.call 94 [.agg (eCalc a0), .ro [lst eLeg c0 .unk], .ro [.int .i64 c1]] H (.bool r) H) := by
  refine Ev.of_pure at94 rfl rfl (Nat.le_of_ble_eq_true rfl) (pCons (pv (pCalcs _)) (pCons (.ro (pCons (Pure.lst pLeg _ pUnk) pNil)) (pCons (.ro (pCons (.int _ _) pNil)) pNil))) (.bool _) ?_
  unfold s94 at h
  refine Wp.seq ?_
  refine Wp.reg rfl ?_
  refine Wg.box rfl rfl rfl rfl ?_
  refine Wg.li rfl rfl rfl rfl (fun _ => rfl) ?_
  refine Wg.nil ?_
  refine ⟨fun _ => ?_, fun h => absurd (by decide) h⟩
  refine Wp.seq ?_
  refine Wp.reg rfl ?_
  iterate 2 refine Wg.li rfl rfl rfl rfl (fun _ => rfl) ?_
  obtain ⟨v1, hv1, h⟩ := ob h
  refine Wg.call rfl rfl rfl rfl (s54_ev hv1 _) ?_
  refine Wg.li rfl rfl rfl rfl (fun _ => rfl) ?_
  obtain ⟨v5, hv2, h⟩ := ob h
  refine Wg.grp 3 11 8 v5 v1 rfl rfl (Nat.le_of_ble_eq_true rfl) (fun hb3 => ?_) (fun hb3 => ?_) ?_
  · have hv2 := iT hv2 hb3
    refine Wg.li rfl rfl rfl rfl (fun _ => rfl) ?_
    obtain ⟨v4, hv4, hv2⟩ := ob hv2
    refine Wg.call rfl rfl rfl rfl (s85_ev hv4 _) ?_
    refine Wg.li rfl rfl rfl rfl (fun _ => rfl) ?_
    refine Wg.nil ⟨some_b hv2, ?_, rfl⟩
    repeat (first | exact Env.le_refl _ | refine Env.le_put rfl ?_)
  · have hv2 := iF hv2 hb3
    iterate 2 refine Wg.skip rfl rfl ?_
    refine Wg.li rfl rfl rfl rfl (fun _ => rfl) ?_
    refine Wg.nil ⟨some_b hv2, ?_, rfl⟩
    repeat (first | exact Env.le_refl _ | refine Env.le_put rfl ?_)
  refine Wg.li rfl rfl rfl rfl (fun _ => rfl) ?_
  refine Wg.nil ?_
  refine ⟨fun _ => ?_, fun h => absurd (by decide) h⟩
  refine Wp.ret ?_
  have h := Option.some.inj h
  subst h
  exact ⟨.inr (by decide), _, rfl, rfl⟩
def s109 (N : Nat) (a0 : Int) : Option (Bool) :=
  some (!(a0 == a0))
theorem at109 : ctx.P.funcs[109]? = some Tryd.f109 := by kernel_rfl
theorem s109_ev {N : Nat} {a0 : Int} {r : Bool} (h : s109 N a0 = some r) : ∀ H, Ev ctx (.call 109 [.int .i64 a0] H (.bool r) H) := by
  refine Ev.of_pure at109 rfl rfl (Nat.le_of_ble_eq_true rfl) (pCons (.int _ _) pNil) (.bool _) ?_
  unfold s109 at h
  refine Wp.seq ?_
  refine Wp.reg rfl ?_
  refine Wg.li rfl rfl rfl rfl (fun _ => rfl) ?_
  refine Wg.nil ?_
  refine ⟨fun _ => ?_, fun h => absurd (by decide) h⟩
  refine Wp.seq ?_
  refine Wp.reg rfl ?_
  iterate 4 refine Wg.li rfl rfl rfl rfl (fun _ => rfl) ?_
  refine Wg.nil ?_
  refine ⟨fun _ => ?_, fun h => absurd (by decide) h⟩
  refine Wp.ret ?_
  have h := Option.some.inj h
  subst h
  exact ⟨.inr (by decide), _, rfl, rfl⟩
def s107 (N : Nat) (a0 : Int) (a1 : Int) : Option (Bool) :=
  (s109 N a0).bind fun v1 =>
  (if v1 then 
    (s109 N a1).bind fun v4 =>
    some (!v4)
   else some false).bind fun v5 =>
  some (v5 || (decide (a0 < a1)))
theorem at107 : ctx.P.funcs[107]? = some Tryd.f107 := by kernel_rfl
theorem s107_ev {N : Nat} {a0 : Int} {a1 : Int} {r : Bool} (h : s107 N a0 a1 = some r) : ∀ H, Ev ctx (.call 107 [.int .i64 a0, .int .i64 a1] H (.bool r) H) := by
  refine Ev.of_pure at107 rfl rfl (Nat.le_of_ble_eq_true rfl) (pCons (.int _ _) (pCons (.int _ _) pNil)) (.bool _) ?_
  unfold s107 at h
  refine Wp.seq ?_
  refine Wp.reg rfl ?_
  refine Wg.li rfl rfl rfl rfl (fun _ => rfl) ?_
  refine Wg.nil ?_
  refine ⟨fun _ => ?_, fun h => absurd (by decide) h⟩
  refine Wp.seq ?_
  refine Wp.reg rfl ?_
  refine Wg.li rfl rfl rfl rfl (fun _ => rfl) ?_
  obtain ⟨v1, hv1, h⟩ := ob h
  refine Wg.call rfl rfl rfl rfl (s109_ev hv1 _) ?_
  refine Wg.li rfl rfl rfl rfl (fun _ => rfl) ?_
  obtain ⟨v5, hv2, h⟩ := ob h
  refine Wg.grp 4 11 7 v5 v1 rfl rfl (Nat.le_of_ble_eq_true rfl) (fun hb3 => ?_) (fun hb3 => ?_) ?_
  · have hv2 := iT hv2 hb3
    refine Wg.li rfl rfl rfl rfl (fun _ => rfl) ?_
    obtain ⟨v4, hv4, hv2⟩ := ob hv2
    refine Wg.call rfl rfl rfl rfl (s109_ev hv4 _) ?_
    iterate 2 refine Wg.li rfl rfl rfl rfl (fun _ => rfl) ?_
    refine Wg.nil ⟨some_b hv2, ?_, rfl⟩
    repeat (first | exact Env.le_refl _ | refine Env.le_put rfl ?_)
  · have hv2 := iF hv2 hb3
    iterate 3 refine Wg.skip rfl rfl ?_
    refine Wg.li rfl rfl rfl rfl (fun _ => rfl) ?_
    refine Wg.nil ⟨some_b hv2, ?_, rfl⟩
    repeat (first | exact Env.le_refl _ | refine Env.le_put rfl ?_)
  refine Wg.li rfl rfl rfl rfl (fun _ => rfl) ?_
  have hv6 := ifOr v5 (decide (a0 < a1))
  refine Wg.grp 4 16 12 (v5 || (decide (a0 < a1))) v5 rfl rfl (Nat.le_of_ble_eq_true rfl) (fun hb7 => ?_) (fun hb7 => ?_) ?_
  · have hv6 := iT hv6 hb7
    iterate 3 refine Wg.skip rfl rfl ?_
    refine Wg.li rfl rfl rfl rfl (fun _ => rfl) ?_
    refine Wg.nil ⟨some_b hv6, ?_, rfl⟩
    repeat (first | exact Env.le_refl _ | refine Env.le_put rfl ?_)
  · have hv6 := iF hv6 hb7
    iterate 4 refine Wg.li rfl rfl rfl rfl (fun _ => rfl) ?_
    refine Wg.nil ⟨some_b hv6, ?_, rfl⟩
    repeat (first | exact Env.le_refl _ | refine Env.le_put rfl ?_)
  refine Wg.li rfl rfl rfl rfl (fun _ => rfl) ?_
  refine Wg.nil ?_
  refine ⟨fun _ => ?_, fun h => absurd (by decide) h⟩
  refine Wp.ret ?_
  have h := Option.some.inj h
  subst h
  exact ⟨.inr (by decide), _, rfl, rfl⟩
def s106 (N : Nat) (a0 : Found) (a1 : Found) : Option (Bool) :=
  (s107 N a0.til a1.til).bind fun v1 =>
  some v1
theorem at106 : ctx.P.funcs[106]? = some Tryd.f106 := by kernel_rfl
theorem s106_ev {N : Nat} {a0 : Found} {a1 : Found} {r : Bool} (h : s106 N a0 a1 = some r) : ∀ H, Ev ctx (.call 106 [.agg (eFound a0), .agg (eFound a1)] H (.bool r) H) := by
  refine Ev.of_pure at106 rfl rfl (Nat.le_of_ble_eq_true rfl) (pCons (pv (pFound _)) (pCons (pv (pFound _)) pNil)) (.bool _) ?_
  unfold s106 at h
  refine Wp.seq ?_
  refine Wp.reg rfl ?_
  refine Wg.box rfl rfl rfl rfl ?_
  refine Wg.box rfl rfl rfl rfl ?_
  refine Wg.li rfl rfl rfl rfl (fun _ => rfl) ?_
  refine Wg.nil ?_
  refine ⟨fun _ => ?_, fun h => absurd (by decide) h⟩
  refine Wp.seq ?_
  refine Wp.reg rfl ?_
  iterate 4 refine Wg.li rfl rfl rfl rfl (fun _ => rfl) ?_
  obtain ⟨v1, hv1, h⟩ := ob h
  refine Wg.call rfl rfl rfl rfl (s107_ev hv1 _) ?_
  refine Wg.li rfl rfl rfl rfl (fun _ => rfl) ?_
  refine Wg.nil ?_
  refine ⟨fun _ => ?_, fun h => absurd (by decide) h⟩
  refine Wp.ret ?_
  have h := Option.some.inj h
  subst h
  exact ⟨.inr (by decide), _, rfl, rfl⟩
def s100 (N : Nat) : Option (Unit) :=
  some ()
theorem at100 : ctx.P.funcs[100]? = some Tryd.f100 := by kernel_rfl
theorem s100_ev {N : Nat} {r : Unit} (h : s100 N = some r) : ∀ H, Ev ctx (.call 100 [] H (.agg [.func 106 [] []]) H) := by
  refine Ev.of_pure at100 rfl rfl (Nat.le_of_ble_eq_true rfl) pNil (pv (pCons (.func pNil pNil) pNil)) ?_
  unfold s100 at h
  refine Wp.seq ?_
  refine Wp.reg rfl ?_
  refine Wg.alloc rfl rfl rfl rfl ?_
  refine Wg.nil ?_
  refine ⟨fun _ => ?_, fun h => absurd (by decide) h⟩
  refine Wp.seq ?_
  refine Wp.reg rfl ?_
  refine Wg.li rfl rfl rfl rfl (fun _ => rfl) ?_
  refine Wg.heavy true (Nat.le_of_ble_eq_true rfl) rfl rfl rfl rfl ?_
  refine Wg.nil ?_
  refine ⟨fun _ => ?_, fun h => absurd (by decide) h⟩
  refine Wp.ret ?_
  exact ⟨.inr (by decide), _, rfl, rfl⟩
def s101 (N : Nat) (a0 : (List Leg)) : Option ((List Leg)) :=
  (neC a0).bind fun v1 =>
  ((ap 24 ([]) a0).bind fun v4 =>
  if a0.isEmpty then
    some ([])
  else
    some v4).bind fun o2 =>
  some o2
abbrev F101 : Fr := { r := false, N := 8, m := 0 }
theorem at101 : ctx.P.funcs[101]? = some Tryd.f101 := by kernel_rfl
theorem s101_ev {N : Nat} {a0 : (List Leg)} {r : (List Leg)} (h : s101 N a0 = some r) : ∀ H, Ev ctx (.call 101 [lst eLeg a0 .unk] H (lst eLeg r .unk) H) := by
  refine Ev.of_pure at101 rfl rfl (Nat.le_of_ble_eq_true rfl) (pCons (Pure.lst pLeg _ pUnk) pNil) (Pure.lst pLeg _ pUnk) ?_
  unfold s101 at h
  refine Wp.seq ?_
  refine Wp.reg rfl ?_
  refine Wg.li rfl rfl rfl rfl (fun _ => rfl) ?_
  refine Wg.nil ?_
  refine ⟨fun _ => ?_, fun h => absurd (by decide) h⟩
  refine Wp.seq ?_
  refine Wp.seq ?_
  refine Wp.reg rfl ?_
  refine Wg.li rfl rfl rfl rfl (fun _ => rfl) ?_
  obtain ⟨v1, hv1, h⟩ := ob h
  refine Wg.notnil (f := eLeg) (xs := a0) (c := .unk) rfl rfl rfl rfl rfl rfl lLeg (by decide) hv1 ?_
  refine Wg.nil ?_
  refine ⟨fun _ => ?_, fun h => absurd (by decide) h⟩
  refine Wp.cond false rfl (fun hb => ?_) (fun hb => ?_)
  · cases hb
  · refine Wp.skip ?_
    refine ⟨fun _ => ?_, fun h => absurd (by decide) h⟩
    refine Wp.seq ?_
    obtain ⟨o2, hx3, h⟩ := ob h
    refine Wp.after (Q' := fun x e' H' => x = .normal ∧ Sub ctx F101 (Env.ofList [(2, lst eLeg o2 .unk)]) (hp []) e' H') ?_ ?_
    · refine Wp.reg rfl ?_
      iterate 2 refine Wg.li rfl rfl rfl rfl (fun _ => rfl) ?_
      obtain ⟨v4, hv4, hx3⟩ := ob hx3
      rcases Bool.eq_false_or_eq_true (a0.isEmpty) with hb5 | hb5
      · have hx3 := iT hx3 hb5
        refine Wg.app0 (f := eLeg) (xs := []) (ys := a0) (c := .full) (c2 := .unk) rfl rfl rfl rfl rfl rfl rfl rfl rfl lLeg (by decide) (by decide) hb5 hv4 ?_
        refine Wg.li rfl rfl rfl rfl (fun _ => rfl) ?_
        refine Wg.nil ?_
        have hx3 := Option.some.inj hx3
        subst hx3
        exact ⟨by decide, (Sub.canon [] [] [(2, lst eLeg [] .unk)] rfl (by decide) trivial (.unk (c := .full) rfl pLeg .nil))⟩
      · have hx3 := iF hx3 hb5
        refine Wg.appF (f := eLeg) (xs := []) (ys := a0) (c2 := .unk) (Nat.le_of_ble_eq_true rfl) rfl rfl rfl rfl rfl rfl rfl rfl rfl lLeg (by decide) (by decide) (ne_len hb5) hv4 ?_
        refine Wg.li rfl rfl rfl rfl (fun _ => rfl) ?_
        refine Wg.nil ?_
        have hx3 := Option.some.inj hx3
        subst hx3
        exact ⟨by decide, (Sub.canon [] [] [(2, lst eLeg v4 .unk)] rfl (by decide) trivial (.unk (c := (capT v4 0)) rfl pLeg .nil))⟩
    · intro x e' H' hP
      obtain ⟨hPx, hP2⟩ := hP
      subst hPx
      have hP := And.intro (True.intro) hP2
      refine ⟨fun _ => ?_, fun h => absurd (by decide) h⟩
      refine Sub.use hP.2 ?_
      refine Wp.ret ?_
      have h := Option.some.inj h
      subst h
      exact ⟨.inr (by decide), _, rfl, rfl⟩
def s81 (N : Nat) (a0 : Calc) (a1 : Int) (a2 : Int) : Option (Unit) :=
  some ()
theorem at81 : ctx.P.funcs[81]? = some Tryd.f81 := by kernel_rfl
theorem s81_ev {N : Nat} {a0 : Calc} {a1 : Int} {a2 : Int} {r : Unit} (h : s81 N a0 a1 a2 = some r) : ∀ H, Ev ctx (.call 81 [.agg (eCalc a0), .int .i64 a1, .int .i64 a2] H (.func 103 [] [.ro [.int .i64 a2], .ro (eCalc a0), .ro [.int .i64 a1]]) H) := by
  refine Ev.of_pure at81 rfl rfl (Nat.le_of_ble_eq_true rfl) (pCons (pv (pCalcs _)) (pCons (.int _ _) (pCons (.int _ _) pNil))) (.func pNil (pCons (.ro (pCons (.int _ _) pNil)) (pCons (.ro (pCalcs _)) (pCons (.ro (pCons (.int _ _) pNil)) pNil)))) ?_
  unfold s81 at h
  refine Wp.seq ?_
  refine Wp.reg rfl ?_
  refine Wg.box rfl rfl rfl rfl ?_
  refine Wg.box rfl rfl rfl rfl ?_
  refine Wg.box rfl rfl rfl rfl ?_
  refine Wg.li rfl rfl rfl rfl (fun _ => rfl) ?_
  refine Wg.nil ?_
  refine ⟨fun _ => ?_, fun h => absurd (by decide) h⟩
  refine Wp.seq ?_
  refine Wp.reg rfl ?_
  iterate 2 refine Wg.li rfl rfl rfl rfl (fun _ => rfl) ?_
  refine Wg.nil ?_
  refine ⟨fun _ => ?_, fun h => absurd (by decide) h⟩
  refine Wp.ret ?_
  exact ⟨.inr (by decide), _, rfl, rfl⟩
end Go.Abs.Tr
