/- Printed walks: what the outright statements use. Conditions: none. -/
import Derived.Test.YtdlofkamkiojlaaDoorXGi
set_option maxRecDepth 100000
set_option maxHeartbeats 1000000
set_option linter.unusedVariables false
namespace Go.Abs.Tr
open Go Go.Abs Go.Proofs
def s35_l31 (N : Nat) (a0 : Table) (s12 : Bool × Int) (s19 : Bool × Int) : Option ((Bool × Int) ⊕ (Bool)) :=
  (if s19.1 then 
    (ix a0.offices s12.2).bind fun v24 =>
    some (decide (s19.2 < (v24.length : Int)))
   else some false).bind fun v25 =>
  if v25 then
    (ix a0.offices s12.2).bind fun v27 =>
    (ix v27 s19.2).bind fun v28 =>
    (s62 N v28 0 2879).bind fun v29 =>
    (ck (s19.2 + 1)).bind fun v30 =>
    some (.inl (v29, v30))
  else
    some (.inr s19.1)
def s35_l33 (N : Nat) (a0 : Table) (s12 : Bool × Int) : Option ((Bool × Int) ⊕ (Bool)) :=
  if (s12.1 && (decide (s12.2 < (a0.offices.length : Int)))) then
    (ix a0.offices s12.2).bind fun v18 =>
    (iter (s35_l31 N a0 s12) N ((decide ((v18.length : Int) ≤ 3)), 0)).bind fun o20 =>
    (ck (s12.2 + 1)).bind fun v32 =>
    some (.inl (o20, v32))
  else
    some (.inr s12.1)
def s35_l64 (N : Nat) (a0 : Table) (s46 : Bool × Int × Train) : Option ((Bool × Int × Train) ⊕ (Bool)) :=
  if (s46.1 && (decide (s46.2.1 < (s46.2.2.stops.length : Int)))) then
    (ix s46.2.2.stops s46.2.1).bind fun v52 =>
    (ck ((a0.offices.length : Int) - 1)).bind fun v53 =>
    (s47 N v52.station 0 v53).bind fun v54 =>
    (if v54 then 
      (s47 N v52.arrive 0 2879).bind fun v57 =>
      some v57
     else some false).bind fun v58 =>
    (if v58 then 
      (s47 N v52.leave v52.arrive 2879).bind fun v61 =>
      some v61
     else some false).bind fun v62 =>
    (ck (s46.2.1 + 1)).bind fun v63 =>
    some (.inl (v62, v63, s46.2.2))
  else
    some (.inr s46.1)
def s35_l66 (N : Nat) (a0 : Table) (s34 : Bool × Int) : Option ((Bool × Int) ⊕ (Bool)) :=
  if (s34.1 && (decide (s34.2 < (a0.trains.length : Int)))) then
    (ix a0.trains s34.2).bind fun v40 =>
    (s47 N (v40.stops.length : Int) 2 5).bind fun v41 =>
    (if v41 then 
      (s62 N v40.late 0 90).bind fun v44 =>
      some v44
     else some false).bind fun v45 =>
    (iter (s35_l64 N a0) N (v45, 0, v40)).bind fun o47 =>
    (ck (s34.2 + 1)).bind fun v65 =>
    some (.inl (o47, v65))
  else
    some (.inr s34.1)
def s35 (N : Nat) (a0 : Table) : Option (Bool) :=
  (s14 N a0).bind fun v1 =>
  (if (v1 == 0) then 
    (s47 N (a0.offices.length : Int) 1 6).bind fun v4 =>
    some v4
   else some false).bind fun v5 =>
  (if (v5 && (decide ((a0.trains.length : Int) ≤ 6))) then 
    (s47 N a0.load 0 60).bind fun v10 =>
    some v10
   else some false).bind fun v11 =>
  (iter (s35_l33 N a0) N (v11, 0)).bind fun o13 =>
  (iter (s35_l66 N a0) N (o13, 0)).bind fun o35 =>
  some o35
abbrev F35 : Fr := { r := false, N := 128, m := 0 }
theorem at35 : ctx.P.funcs[35]? = some Tryd.f35 := by kernel_rfl
theorem s35_ev {N : Nat} {a0 : Table} {r : Bool} (h : s35 N a0 = some r) : ∀ H, Ev ctx (.call 35 [.agg (eTable a0)] H (.bool r) H) := by
  refine Ev.of_pure at35 rfl rfl (Nat.le_of_ble_eq_true rfl) (pCons (pv (pTab _)) pNil) (.bool _) ?_
  unfold s35 at h
  refine Wp.seq ?_
  refine Wp.reg rfl ?_
  refine Wg.box rfl rfl rfl rfl ?_
  refine Wg.li rfl rfl rfl rfl (fun _ => rfl) ?_
  refine Wg.nil ?_
  refine ⟨fun _ => ?_, fun h => absurd (by decide) h⟩
  refine Wp.seq ?_
  refine Wp.reg rfl ?_
  refine Wg.li rfl rfl rfl rfl (fun _ => rfl) ?_
  obtain ⟨v1, hv1, h⟩ := ob h
  refine Wg.call rfl rfl rfl rfl (s14_ev hv1 _) ?_
  iterate 2 refine Wg.li rfl rfl rfl rfl (fun _ => rfl) ?_
  obtain ⟨v5, hv2, h⟩ := ob h
  refine Wg.grp 5 18 13 v5 (v1 == 0) rfl rfl (Nat.le_of_ble_eq_true rfl) (fun hb3 => ?_) (fun hb3 => ?_) ?_
  · have hv2 := iT hv2 hb3
    iterate 3 refine Wg.li rfl rfl rfl rfl (fun _ => rfl) ?_
    obtain ⟨v4, hv4, hv2⟩ := ob hv2
    refine Wg.call rfl rfl rfl rfl (s47_ev hv4 _) ?_
    refine Wg.li rfl rfl rfl rfl (fun _ => rfl) ?_
    refine Wg.nil ⟨some_b hv2, ?_, rfl⟩
    repeat (first | exact Env.le_refl _ | refine Env.le_put rfl ?_)
  · have hv2 := iF hv2 hb3
    iterate 4 refine Wg.skip rfl rfl ?_
    refine Wg.li rfl rfl rfl rfl (fun _ => rfl) ?_
    refine Wg.nil ⟨some_b hv2, ?_, rfl⟩
    repeat (first | exact Env.le_refl _ | refine Env.le_put rfl ?_)
  refine Wg.li rfl rfl rfl rfl (fun _ => rfl) ?_
  have hv6 := ifAnd v5 (decide ((a0.trains.length : Int) ≤ 6))
  refine Wg.grp 5 24 19 (v5 && (decide ((a0.trains.length : Int) ≤ 6))) v5 rfl rfl (Nat.le_of_ble_eq_true rfl) (fun hb7 => ?_) (fun hb7 => ?_) ?_
  · have hv6 := iT hv6 hb7
    iterate 5 refine Wg.li rfl rfl rfl rfl (fun _ => rfl) ?_
    refine Wg.nil ⟨some_b hv6, ?_, rfl⟩
    repeat (first | exact Env.le_refl _ | refine Env.le_put rfl ?_)
  · have hv6 := iF hv6 hb7
    iterate 4 refine Wg.skip rfl rfl ?_
    refine Wg.li rfl rfl rfl rfl (fun _ => rfl) ?_
    refine Wg.nil ⟨some_b hv6, ?_, rfl⟩
    repeat (first | exact Env.le_refl _ | refine Env.le_put rfl ?_)
  refine Wg.li rfl rfl rfl rfl (fun _ => rfl) ?_
  obtain ⟨v11, hv8, h⟩ := ob h
  refine Wg.grp 4 29 25 v11 (v5 && (decide ((a0.trains.length : Int) ≤ 6))) rfl rfl (Nat.le_of_ble_eq_true rfl) (fun hb9 => ?_) (fun hb9 => ?_) ?_
  · have hv8 := iT hv8 hb9
    iterate 2 refine Wg.li rfl rfl rfl rfl (fun _ => rfl) ?_
    obtain ⟨v10, hv10, hv8⟩ := ob hv8
    refine Wg.call rfl rfl rfl rfl (s47_ev hv10 _) ?_
    refine Wg.li rfl rfl rfl rfl (fun _ => rfl) ?_
    refine Wg.nil ⟨some_b hv8, ?_, rfl⟩
    repeat (first | exact Env.le_refl _ | refine Env.le_put rfl ?_)
  · have hv8 := iF hv8 hb9
    iterate 3 refine Wg.skip rfl rfl ?_
    refine Wg.li rfl rfl rfl rfl (fun _ => rfl) ?_
    refine Wg.nil ⟨some_b hv8, ?_, rfl⟩
    repeat (first | exact Env.le_refl _ | refine Env.le_put rfl ?_)
  refine Wg.li rfl rfl rfl rfl (fun _ => rfl) ?_
  refine Wg.nil ?_
  refine ⟨fun _ => ?_, fun h => absurd (by decide) h⟩
  refine Wp.seq ?_
  refine Wp.seq ?_
  refine Wp.reg rfl ?_
  refine Wg.li rfl rfl rfl rfl (fun _ => rfl) ?_
  refine Wg.nil ?_
  refine ⟨fun _ => ?_, fun h => absurd (by decide) h⟩
  refine Wp.block ?_
  obtain ⟨o13, hx14, h⟩ := ob h
  refine Sub.use (Sub.canon [] [] [(1, .ro (eTable a0)), (3, .bool v11), (4, .int .i64 0)] rfl (by decide) trivial (.pure rfl (.ro (pTab _)) (.pure rfl (.bool _) (.pure rfl (.int _ _) .nil)))) ?_
  refine Wp.after (Wp.iterS (s35_l33 N a0) (fun s12 => Env.ofList [(1, .ro (eTable a0)), (3, .bool s12.1), (4, .int .i64 s12.2)]) (fun s12 => hp []) (fun o13 x e' H' => x = .exit 0 ∧ Sub ctx F35 (Env.ofList [(1, .ro (eTable a0)), (3, .bool o13)]) (hp []) e' H') ?_ N (v11, 0) _ hx14) ?_
  · intro s12 o ho
    unfold s35_l33 at ho
    refine Wp.seq ?_
    refine Wp.seq ?_
    refine Wp.reg rfl ?_
    iterate 2 refine Wg.li rfl rfl rfl rfl (fun _ => rfl) ?_
    have hv15 := ifAnd s12.1 (decide (s12.2 < (a0.offices.length : Int)))
    refine Wg.grp 6 37 31 (s12.1 && (decide (s12.2 < (a0.offices.length : Int)))) s12.1 rfl rfl (Nat.le_of_ble_eq_true rfl) (fun hb16 => ?_) (fun hb16 => ?_) ?_
    · have hv15 := iT hv15 hb16
      iterate 6 refine Wg.li rfl rfl rfl rfl (fun _ => rfl) ?_
      refine Wg.nil ⟨some_b hv15, ?_, rfl⟩
      repeat (first | exact Env.le_refl _ | refine Env.le_put rfl ?_)
    · have hv15 := iF hv15 hb16
      iterate 5 refine Wg.skip rfl rfl ?_
      refine Wg.li rfl rfl rfl rfl (fun _ => rfl) ?_
      refine Wg.nil ⟨some_b hv15, ?_, rfl⟩
      repeat (first | exact Env.le_refl _ | refine Env.le_put rfl ?_)
    refine Wg.nil ?_
    refine ⟨fun _ => ?_, fun h => absurd (by decide) h⟩
    refine Wp.cond (s12.1 && (decide (s12.2 < (a0.offices.length : Int)))) rfl (fun hb17 => ?_) (fun hb17 => ?_)
    · have ho := iT ho hb17
      refine Wp.skip ?_
      refine ⟨fun _ => ?_, fun h => absurd (by decide) h⟩
      refine Wp.seq ?_
      refine Wp.block ?_
      refine Wp.seq ?_
      refine Wp.reg rfl ?_
      iterate 3 refine Wg.li rfl rfl rfl rfl (fun _ => rfl) ?_
      obtain ⟨v18, hv18, ho⟩ := ob ho
      refine Wg.idx (f := (eLs eSpan)) (xs := a0.offices) (c := .unk) rfl rfl rfl rfl rfl rfl rfl lLs (by decide) hv18 ?_
      iterate 4 refine Wg.li rfl rfl rfl rfl (fun _ => rfl) ?_
      refine Wg.nil ?_
      refine ⟨fun _ => ?_, fun h => absurd (by decide) h⟩
      refine Wp.seq ?_
      refine Wp.reg rfl ?_
      refine Wg.li rfl rfl rfl rfl (fun _ => rfl) ?_
      refine Wg.nil ?_
      refine ⟨fun _ => ?_, fun h => absurd (by decide) h⟩
      refine Wp.block ?_
      obtain ⟨o20, hx21, ho⟩ := ob ho
      refine Sub.use (Sub.canon [] [] [(1, .ro (eTable a0)), (3, .bool (decide ((v18.length : Int) ≤ 3))), (4, .int .i64 s12.2), (5, .int .i64 0)] rfl (by decide) trivial (.pure rfl (.ro (pTab _)) (.pure rfl (.bool _) (.pure rfl (.int _ _) (.pure rfl (.int _ _) .nil))))) ?_
      refine Wp.after (Wp.iterS (s35_l31 N a0 s12) (fun s19 => Env.ofList [(1, .ro (eTable a0)), (3, .bool s19.1), (4, .int .i64 s12.2), (5, .int .i64 s19.2)]) (fun s19 => hp []) (fun o20 x e' H' => x = .exit 2 ∧ Sub ctx F35 (Env.ofList [(1, .ro (eTable a0)), (3, .bool o20), (4, .int .i64 s12.2)]) (hp []) e' H') ?_ N ((decide ((v18.length : Int) ≤ 3)), 0) _ hx21) ?_
      · intro s19 o ho
        unfold s35_l31 at ho
        refine Wp.seq ?_
        refine Wp.seq ?_
        refine Wp.reg rfl ?_
        iterate 2 refine Wg.li rfl rfl rfl rfl (fun _ => rfl) ?_
        obtain ⟨v25, hv22, ho⟩ := ob ho
        refine Wg.grp 9 57 48 v25 s19.1 rfl rfl (Nat.le_of_ble_eq_true rfl) (fun hb23 => ?_) (fun hb23 => ?_) ?_
        · have hv22 := iT hv22 hb23
          iterate 4 refine Wg.li rfl rfl rfl rfl (fun _ => rfl) ?_
          obtain ⟨v24, hv24, hv22⟩ := ob hv22
          refine Wg.idx (f := (eLs eSpan)) (xs := a0.offices) (c := .unk) rfl rfl rfl rfl rfl rfl rfl lLs (by decide) hv24 ?_
          iterate 4 refine Wg.li rfl rfl rfl rfl (fun _ => rfl) ?_
          refine Wg.nil ⟨some_b hv22, ?_, rfl⟩
          repeat (first | exact Env.le_refl _ | refine Env.le_put rfl ?_)
        · have hv22 := iF hv22 hb23
          iterate 8 refine Wg.skip rfl rfl ?_
          refine Wg.li rfl rfl rfl rfl (fun _ => rfl) ?_
          refine Wg.nil ⟨some_b hv22, ?_, rfl⟩
          repeat (first | exact Env.le_refl _ | refine Env.le_put rfl ?_)
        refine Wg.nil ?_
        refine ⟨fun _ => ?_, fun h => absurd (by decide) h⟩
        refine Wp.cond v25 rfl (fun hb26 => ?_) (fun hb26 => ?_)
        · have ho := iT ho hb26
          refine Wp.skip ?_
          refine ⟨fun _ => ?_, fun h => absurd (by decide) h⟩
          refine Wp.seq ?_
          refine Wp.block ?_
          refine Wp.reg rfl ?_
          iterate 3 refine Wg.li rfl rfl rfl rfl (fun _ => rfl) ?_
          obtain ⟨v27, hv27, ho⟩ := ob ho
          refine Wg.idx (f := (eLs eSpan)) (xs := a0.offices) (c := .unk) rfl rfl rfl rfl rfl rfl rfl lLs (by decide) hv27 ?_
          iterate 2 refine Wg.li rfl rfl rfl rfl (fun _ => rfl) ?_
          obtain ⟨v28, hv28, ho⟩ := ob ho
          refine Wg.idx (f := eSpan) (xs := v27) (c := .unk) rfl rfl rfl rfl rfl rfl rfl lSpan (by decide) hv28 ?_
          refine Wg.li rfl rfl rfl rfl (fun _ => rfl) ?_
          obtain ⟨v29, hv29, ho⟩ := ob ho
          refine Wg.call rfl rfl rfl rfl (s62_ev hv29 _) ?_
          refine Wg.li rfl rfl rfl rfl (fun _ => rfl) ?_
          refine Wg.nil ?_
          refine ⟨fun _ => ?_, fun h => absurd (by decide) h⟩
          refine Wp.reg rfl ?_
          refine Wg.li rfl rfl rfl rfl (fun _ => rfl) ?_
          obtain ⟨v30, hv30, ho⟩ := ob ho
          refine Wg.bin (k := .i64) (k2 := .i64) (a := s19.2) (b := 1) rfl rfl rfl rfl rfl (bAdd hv30) ?_
          refine Wg.li rfl rfl rfl rfl (fun _ => rfl) ?_
          refine Wg.nil ?_
          have ho := Option.some.inj ho
          subst ho
          exact ⟨by decide, (Sub.canon [] [] [(1, .ro (eTable a0)), (3, .bool v29), (4, .int .i64 s12.2), (5, .int .i64 v30)] rfl (by decide) trivial (.pure rfl (.ro (pTab _)) (.pure rfl (.bool _) (.pure rfl (.int _ _) (.pure rfl (.int _ _) .nil)))))⟩
        · have ho := iF ho hb26
          refine Wp.exit ?_
          refine ⟨fun h => absurd h (by decide), fun _ => ?_⟩
          have ho := Option.some.inj ho
          subst ho
          exact ⟨by decide, by decide, (Sub.canon [] [] [(1, .ro (eTable a0)), (3, .bool s19.1), (4, .int .i64 s12.2)] rfl (by decide) trivial (.pure rfl (.ro (pTab _)) (.pure rfl (.bool _) (.pure rfl (.int _ _) .nil))))⟩
      · intro x e' H' hP
        obtain ⟨hPx, hP2⟩ := hP
        subst hPx
        have hP := And.intro (True.intro) hP2
        refine ⟨fun _ => ?_, fun h => absurd (by decide) h⟩
        refine Sub.use hP.2 ?_
        refine Wp.reg rfl ?_
        refine Wg.li rfl rfl rfl rfl (fun _ => rfl) ?_
        obtain ⟨v32, hv32, ho⟩ := ob ho
        refine Wg.bin (k := .i64) (k2 := .i64) (a := s12.2) (b := 1) rfl rfl rfl rfl rfl (bAdd hv32) ?_
        refine Wg.li rfl rfl rfl rfl (fun _ => rfl) ?_
        refine Wg.nil ?_
        have ho := Option.some.inj ho
        subst ho
        exact ⟨by decide, (Sub.canon [] [] [(1, .ro (eTable a0)), (3, .bool o20), (4, .int .i64 v32)] rfl (by decide) trivial (.pure rfl (.ro (pTab _)) (.pure rfl (.bool _) (.pure rfl (.int _ _) .nil))))⟩
    · have ho := iF ho hb17
      refine Wp.exit ?_
      refine ⟨fun h => absurd h (by decide), fun _ => ?_⟩
      have ho := Option.some.inj ho
      subst ho
      exact ⟨by decide, by decide, (Sub.canon [] [] [(1, .ro (eTable a0)), (3, .bool s12.1)] rfl (by decide) trivial (.pure rfl (.ro (pTab _)) (.pure rfl (.bool _) .nil)))⟩
  · intro x e' H' hP
    obtain ⟨hPx, hP2⟩ := hP
    subst hPx
    have hP := And.intro (True.intro) hP2
    refine ⟨fun _ => ?_, fun h => absurd (by decide) h⟩
    refine Sub.use hP.2 ?_
    refine Wp.seq ?_
    refine Wp.seq ?_
    refine Wp.reg rfl ?_
    refine Wg.li rfl rfl rfl rfl (fun _ => rfl) ?_
    refine Wg.nil ?_
    refine ⟨fun _ => ?_, fun h => absurd (by decide) h⟩
    refine Wp.block ?_
    obtain ⟨o35, hx36, h⟩ := ob h
    refine Sub.use (Sub.canon [] [] [(1, .ro (eTable a0)), (3, .bool o13), (6, .int .i64 0)] rfl (by decide) trivial (.pure rfl (.ro (pTab _)) (.pure rfl (.bool _) (.pure rfl (.int _ _) .nil)))) ?_
    refine Wp.after (Wp.iterS (s35_l66 N a0) (fun s34 => Env.ofList [(1, .ro (eTable a0)), (3, .bool s34.1), (6, .int .i64 s34.2)]) (fun s34 => hp []) (fun o35 x e' H' => x = .exit 4 ∧ Sub ctx F35 (Env.ofList [(3, .bool o35)]) (hp []) e' H') ?_ N (o13, 0) _ hx36) ?_
    · intro s34 o ho
      unfold s35_l66 at ho
      refine Wp.seq ?_
      refine Wp.seq ?_
      refine Wp.reg rfl ?_
      iterate 2 refine Wg.li rfl rfl rfl rfl (fun _ => rfl) ?_
      have hv37 := ifAnd s34.1 (decide (s34.2 < (a0.trains.length : Int)))
      refine Wg.grp 6 76 70 (s34.1 && (decide (s34.2 < (a0.trains.length : Int)))) s34.1 rfl rfl (Nat.le_of_ble_eq_true rfl) (fun hb38 => ?_) (fun hb38 => ?_) ?_
      · have hv37 := iT hv37 hb38
        iterate 6 refine Wg.li rfl rfl rfl rfl (fun _ => rfl) ?_
        refine Wg.nil ⟨some_b hv37, ?_, rfl⟩
        repeat (first | exact Env.le_refl _ | refine Env.le_put rfl ?_)
      · have hv37 := iF hv37 hb38
        iterate 5 refine Wg.skip rfl rfl ?_
        refine Wg.li rfl rfl rfl rfl (fun _ => rfl) ?_
        refine Wg.nil ⟨some_b hv37, ?_, rfl⟩
        repeat (first | exact Env.le_refl _ | refine Env.le_put rfl ?_)
      refine Wg.nil ?_
      refine ⟨fun _ => ?_, fun h => absurd (by decide) h⟩
      refine Wp.cond (s34.1 && (decide (s34.2 < (a0.trains.length : Int)))) rfl (fun hb39 => ?_) (fun hb39 => ?_)
      · have ho := iT ho hb39
        refine Wp.skip ?_
        refine ⟨fun _ => ?_, fun h => absurd (by decide) h⟩
        refine Wp.seq ?_
        refine Wp.block ?_
        refine Wp.seq ?_
        refine Wp.reg rfl ?_
        iterate 3 refine Wg.li rfl rfl rfl rfl (fun _ => rfl) ?_
        obtain ⟨v40, hv40, ho⟩ := ob ho
        refine Wg.idx (f := eTrain) (xs := a0.trains) (c := .unk) rfl rfl rfl rfl rfl rfl rfl lTrain (by decide) hv40 ?_
        refine Wg.li rfl rfl rfl rfl (fun _ => rfl) ?_
        refine Wg.alloc rfl rfl rfl rfl ?_
        refine Wg.heavy true (Nat.le_of_ble_eq_true rfl) rfl rfl rfl rfl ?_
        refine Wg.nil ?_
        refine ⟨fun _ => ?_, fun h => absurd (by decide) h⟩
        refine Wp.seq ?_
        refine Wp.reg rfl ?_
        refine Wg.li rfl rfl rfl rfl (fun _ => rfl) ?_
        refine Wg.ld rfl rfl rfl rfl rfl rfl ?_
        refine Wg.li rfl rfl rfl rfl (fun _ => rfl) ?_
        obtain ⟨v41, hv41, ho⟩ := ob ho
        refine Wg.call rfl rfl rfl rfl (s47_ev hv41 _) ?_
        refine Wg.li rfl rfl rfl rfl (fun _ => rfl) ?_
        obtain ⟨v45, hv42, ho⟩ := ob ho
        refine Wg.grp 4 92 88 v45 v41 rfl rfl (Nat.le_of_ble_eq_true rfl) (fun hb43 => ?_) (fun hb43 => ?_) ?_
        · have hv42 := iT hv42 hb43
          refine Wg.li rfl rfl rfl rfl (fun _ => rfl) ?_
          refine Wg.ld rfl rfl rfl rfl rfl rfl ?_
          obtain ⟨v44, hv44, hv42⟩ := ob hv42
          refine Wg.call rfl rfl rfl rfl (s62_ev hv44 _) ?_
          refine Wg.li rfl rfl rfl rfl (fun _ => rfl) ?_
          refine Wg.nil ⟨some_b hv42, ?_, rfl⟩
          repeat (first | exact Env.le_refl _ | refine Env.le_put rfl ?_)
        · have hv42 := iF hv42 hb43
          iterate 3 refine Wg.skip rfl rfl ?_
          refine Wg.li rfl rfl rfl rfl (fun _ => rfl) ?_
          refine Wg.nil ⟨some_b hv42, ?_, rfl⟩
          repeat (first | exact Env.le_refl _ | refine Env.le_put rfl ?_)
        refine Wg.li rfl rfl rfl rfl (fun _ => rfl) ?_
        refine Wg.nil ?_
        refine ⟨fun _ => ?_, fun h => absurd (by decide) h⟩
        refine Wp.seq ?_
        refine Wp.reg rfl ?_
        refine Wg.li rfl rfl rfl rfl (fun _ => rfl) ?_
        refine Wg.nil ?_
        refine ⟨fun _ => ?_, fun h => absurd (by decide) h⟩
        refine Wp.block ?_
        obtain ⟨o47, hx48, ho⟩ := ob ho
        refine Sub.use (Sub.canon [some 0] [.cells (eTrain v40)] [(1, .ro (eTable a0)), (3, .bool v45), (6, .int .i64 s34.2), (7, .ptr 0 0), (8, .int .i64 0)] rfl (by decide) ⟨.pure rfl (pTrain _), trivial⟩ (.pure rfl (.ro (pTab _)) (.pure rfl (.bool _) (.pure rfl (.int _ _) (.ptr rfl rfl (.pure rfl (.int _ _) .nil)))))) ?_
        refine Wp.after (Wp.iterS (s35_l64 N a0) (fun s46 => Env.ofList [(1, .ro (eTable a0)), (3, .bool s46.1), (6, .int .i64 s34.2), (7, .ptr 0 0), (8, .int .i64 s46.2.1)]) (fun s46 => hp [.cells (eTrain s46.2.2)]) (fun o47 x e' H' => x = .exit 6 ∧ Sub ctx F35 (Env.ofList [(1, .ro (eTable a0)), (3, .bool o47), (6, .int .i64 s34.2)]) (hp []) e' H') ?_ N (v45, 0, v40) _ hx48) ?_
        · intro s46 o ho
          unfold s35_l64 at ho
          refine Wp.seq ?_
          refine Wp.seq ?_
          refine Wp.reg rfl ?_
          iterate 2 refine Wg.li rfl rfl rfl rfl (fun _ => rfl) ?_
          have hv49 := ifAnd s46.1 (decide (s46.2.1 < (s46.2.2.stops.length : Int)))
          refine Wg.grp 6 100 94 (s46.1 && (decide (s46.2.1 < (s46.2.2.stops.length : Int)))) s46.1 rfl rfl (Nat.le_of_ble_eq_true rfl) (fun hb50 => ?_) (fun hb50 => ?_) ?_
          · have hv49 := iT hv49 hb50
            iterate 2 refine Wg.li rfl rfl rfl rfl (fun _ => rfl) ?_
            refine Wg.ld rfl rfl rfl rfl rfl rfl ?_
            iterate 3 refine Wg.li rfl rfl rfl rfl (fun _ => rfl) ?_
            refine Wg.nil ⟨some_b hv49, ?_, rfl⟩
            repeat (first | exact Env.le_refl _ | refine Env.le_put rfl ?_)
          · have hv49 := iF hv49 hb50
            iterate 5 refine Wg.skip rfl rfl ?_
            refine Wg.li rfl rfl rfl rfl (fun _ => rfl) ?_
            refine Wg.nil ⟨some_b hv49, ?_, rfl⟩
            repeat (first | exact Env.le_refl _ | refine Env.le_put rfl ?_)
          refine Wg.nil ?_
          refine ⟨fun _ => ?_, fun h => absurd (by decide) h⟩
          refine Wp.cond (s46.1 && (decide (s46.2.1 < (s46.2.2.stops.length : Int)))) rfl (fun hb51 => ?_) (fun hb51 => ?_)
          · have ho := iT ho hb51
            refine Wp.skip ?_
            refine ⟨fun _ => ?_, fun h => absurd (by decide) h⟩
            refine Wp.seq ?_
            refine Wp.block ?_
            refine Wp.seq ?_
            refine Wp.reg rfl ?_
            refine Wg.li rfl rfl rfl rfl (fun _ => rfl) ?_
            refine Wg.ld rfl rfl rfl rfl rfl rfl ?_
            refine Wg.li rfl rfl rfl rfl (fun _ => rfl) ?_
            obtain ⟨v52, hv52, ho⟩ := ob ho
            refine Wg.idx (f := eStop) (xs := s46.2.2.stops) (c := .unk) rfl rfl rfl rfl rfl rfl rfl lStop (by decide) hv52 ?_
            refine Wg.li rfl rfl rfl rfl (fun _ => rfl) ?_
            refine Wg.alloc rfl rfl rfl rfl ?_
            refine Wg.heavy true (Nat.le_of_ble_eq_true rfl) rfl rfl rfl rfl ?_
            refine Wg.nil ?_
            refine ⟨fun _ => ?_, fun h => absurd (by decide) h⟩
            refine Wp.reg rfl ?_
            refine Wg.li rfl rfl rfl rfl (fun _ => rfl) ?_
            refine Wg.ld rfl rfl rfl rfl rfl rfl ?_
            iterate 3 refine Wg.li rfl rfl rfl rfl (fun _ => rfl) ?_
            obtain ⟨v53, hv53, ho⟩ := ob ho
            refine Wg.bin (k := .i64) (k2 := .i64) (a := (a0.offices.length : Int)) (b := 1) rfl rfl rfl rfl rfl (bSub hv53) ?_
            obtain ⟨v54, hv54, ho⟩ := ob ho
            refine Wg.call rfl rfl rfl rfl (s47_ev hv54 _) ?_
            refine Wg.li rfl rfl rfl rfl (fun _ => rfl) ?_
            obtain ⟨v58, hv55, ho⟩ := ob ho
            refine Wg.grp 4 119 115 v58 v54 rfl rfl (Nat.le_of_ble_eq_true rfl) (fun hb56 => ?_) (fun hb56 => ?_) ?_
            · have hv55 := iT hv55 hb56
              refine Wg.li rfl rfl rfl rfl (fun _ => rfl) ?_
              refine Wg.ld rfl rfl rfl rfl rfl rfl ?_
              obtain ⟨v57, hv57, hv55⟩ := ob hv55
              refine Wg.call rfl rfl rfl rfl (s47_ev hv57 _) ?_
              refine Wg.li rfl rfl rfl rfl (fun _ => rfl) ?_
              refine Wg.nil ⟨some_b hv55, ?_, rfl⟩
              repeat (first | exact Env.le_refl _ | refine Env.le_put rfl ?_)
            · have hv55 := iF hv55 hb56
              iterate 3 refine Wg.skip rfl rfl ?_
              refine Wg.li rfl rfl rfl rfl (fun _ => rfl) ?_
              refine Wg.nil ⟨some_b hv55, ?_, rfl⟩
              repeat (first | exact Env.le_refl _ | refine Env.le_put rfl ?_)
            refine Wg.li rfl rfl rfl rfl (fun _ => rfl) ?_
            obtain ⟨v62, hv59, ho⟩ := ob ho
            refine Wg.grp 6 126 120 v62 v58 rfl rfl (Nat.le_of_ble_eq_true rfl) (fun hb60 => ?_) (fun hb60 => ?_) ?_
            · have hv59 := iT hv59 hb60
              refine Wg.li rfl rfl rfl rfl (fun _ => rfl) ?_
              refine Wg.ld rfl rfl rfl rfl rfl rfl ?_
              refine Wg.li rfl rfl rfl rfl (fun _ => rfl) ?_
              refine Wg.ld rfl rfl rfl rfl rfl rfl ?_
              obtain ⟨v61, hv61, hv59⟩ := ob hv59
              refine Wg.call rfl rfl rfl rfl (s47_ev hv61 _) ?_
              refine Wg.li rfl rfl rfl rfl (fun _ => rfl) ?_
              refine Wg.nil ⟨some_b hv59, ?_, rfl⟩
              repeat (first | exact Env.le_refl _ | refine Env.le_put rfl ?_)
            · have hv59 := iF hv59 hb60
              iterate 5 refine Wg.skip rfl rfl ?_
              refine Wg.li rfl rfl rfl rfl (fun _ => rfl) ?_
              refine Wg.nil ⟨some_b hv59, ?_, rfl⟩
              repeat (first | exact Env.le_refl _ | refine Env.le_put rfl ?_)
            refine Wg.li rfl rfl rfl rfl (fun _ => rfl) ?_
            refine Wg.nil ?_
            refine ⟨fun _ => ?_, fun h => absurd (by decide) h⟩
            refine Wp.reg rfl ?_
            refine Wg.li rfl rfl rfl rfl (fun _ => rfl) ?_
            obtain ⟨v63, hv63, ho⟩ := ob ho
            refine Wg.bin (k := .i64) (k2 := .i64) (a := s46.2.1) (b := 1) rfl rfl rfl rfl rfl (bAdd hv63) ?_
            refine Wg.li rfl rfl rfl rfl (fun _ => rfl) ?_
            refine Wg.nil ?_
            have ho := Option.some.inj ho
            subst ho
            exact ⟨by decide, (Sub.canon [some 0] [.cells (eTrain s46.2.2)] [(1, .ro (eTable a0)), (3, .bool v62), (6, .int .i64 s34.2), (7, .ptr 0 0), (8, .int .i64 v63)] rfl (by decide) ⟨.pure rfl (pTrain _), trivial⟩ (.pure rfl (.ro (pTab _)) (.pure rfl (.bool _) (.pure rfl (.int _ _) (.ptr rfl rfl (.pure rfl (.int _ _) .nil))))))⟩
          · have ho := iF ho hb51
            refine Wp.exit ?_
            refine ⟨fun h => absurd h (by decide), fun _ => ?_⟩
            have ho := Option.some.inj ho
            subst ho
            exact ⟨by decide, by decide, (Sub.canon [] [] [(1, .ro (eTable a0)), (3, .bool s46.1), (6, .int .i64 s34.2)] rfl (by decide) trivial (.pure rfl (.ro (pTab _)) (.pure rfl (.bool _) (.pure rfl (.int _ _) .nil))))⟩
        · intro x e' H' hP
          obtain ⟨hPx, hP2⟩ := hP
          subst hPx
          have hP := And.intro (True.intro) hP2
          refine ⟨fun _ => ?_, fun h => absurd (by decide) h⟩
          refine Sub.use hP.2 ?_
          refine Wp.reg rfl ?_
          refine Wg.li rfl rfl rfl rfl (fun _ => rfl) ?_
          obtain ⟨v65, hv65, ho⟩ := ob ho
          refine Wg.bin (k := .i64) (k2 := .i64) (a := s34.2) (b := 1) rfl rfl rfl rfl rfl (bAdd hv65) ?_
          refine Wg.li rfl rfl rfl rfl (fun _ => rfl) ?_
          refine Wg.nil ?_
          have ho := Option.some.inj ho
          subst ho
          exact ⟨by decide, (Sub.canon [] [] [(1, .ro (eTable a0)), (3, .bool o47), (6, .int .i64 v65)] rfl (by decide) trivial (.pure rfl (.ro (pTab _)) (.pure rfl (.bool _) (.pure rfl (.int _ _) .nil))))⟩
      · have ho := iF ho hb39
        refine Wp.exit ?_
        refine ⟨fun h => absurd h (by decide), fun _ => ?_⟩
        have ho := Option.some.inj ho
        subst ho
        exact ⟨by decide, by decide, (Sub.canon [] [] [(3, .bool s34.1)] rfl (by decide) trivial (.pure rfl (.bool _) .nil))⟩
    · intro x e' H' hP
      obtain ⟨hPx, hP2⟩ := hP
      subst hPx
      have hP := And.intro (True.intro) hP2
      refine ⟨fun _ => ?_, fun h => absurd (by decide) h⟩
      refine Sub.use hP.2 ?_
      refine Wp.seq ?_
      refine Wp.reg rfl ?_
      iterate 2 refine Wg.li rfl rfl rfl rfl (fun _ => rfl) ?_
      refine Wg.nil ?_
      refine ⟨fun _ => ?_, fun h => absurd (by decide) h⟩
      refine Wp.ret ?_
      have h := Option.some.inj h
      subst h
      exact ⟨.inr (by decide), _, rfl, rfl⟩
def s38_l11 (N : Nat) (a0 : (List Span)) (a1 : Int) (s1 : Int × Int) : Option ((Int × Int) ⊕ (Int)) :=
  if (decide (s1.2 < (a0.length : Int))) then
    (ix a0 s1.2).bind fun v5 =>
    (if (decide (a1 ≤ v5.high)) then
      (ix a0 s1.2).bind fun v9 =>
      some (mn s1.1 (mx a1 v9.low))
    else
      some s1.1).bind fun o6 =>
    (ck (s1.2 + 1)).bind fun v10 =>
    some (.inl (o6, v10))
  else
    some (.inr s1.1)
def s38 (N : Nat) (a0 : (List Span)) (a1 : Int) : Option (Int) :=
  (iter (s38_l11 N a0 a1) N (2880, 0)).bind fun o2 =>
  some o2
abbrev F38 : Fr := { r := false, N := 30, m := 0 }
theorem at38 : ctx.P.funcs[38]? = some Tryd.f38 := by kernel_rfl
theorem s38_ev {N : Nat} {a0 : (List Span)} {a1 : Int} {r : Int} (h : s38 N a0 a1 = some r) : ∀ H, Ev ctx (.call 38 [lst eSpan a0 .unk, .int .i64 a1] H (.int .i64 r) H) := by
  refine Ev.of_pure at38 rfl rfl (Nat.le_of_ble_eq_true rfl) (pCons (Pure.lst pSpan _ pUnk) (pCons (.int _ _) pNil)) (.int _ _) ?_
  unfold s38 at h
  refine Wp.seq ?_
  refine Wp.reg rfl ?_
  refine Wg.li rfl rfl rfl rfl (fun _ => rfl) ?_
  refine Wg.nil ?_
  refine ⟨fun _ => ?_, fun h => absurd (by decide) h⟩
  refine Wp.seq ?_
  refine Wp.reg rfl ?_
  refine Wg.li rfl rfl rfl rfl (fun _ => rfl) ?_
  refine Wg.nil ?_
  refine ⟨fun _ => ?_, fun h => absurd (by decide) h⟩
  refine Wp.seq ?_
  refine Wp.seq ?_
  refine Wp.reg rfl ?_
  refine Wg.li rfl rfl rfl rfl (fun _ => rfl) ?_
  refine Wg.nil ?_
  refine ⟨fun _ => ?_, fun h => absurd (by decide) h⟩
  refine Wp.block ?_
  obtain ⟨o2, hx3, h⟩ := ob h
  refine Sub.use (Sub.canon [] [] [(0, lst eSpan a0 .unk), (1, .int .i64 a1), (5, .int .i64 2880), (6, .int .i64 0)] rfl (by decide) trivial (.pure rfl (Pure.lst pSpan _ pUnk) (.pure rfl (.int _ _) (.pure rfl (.int _ _) (.pure rfl (.int _ _) .nil))))) ?_
  refine Wp.after (Wp.iterS (s38_l11 N a0 a1) (fun s1 => Env.ofList [(0, lst eSpan a0 .unk), (1, .int .i64 a1), (5, .int .i64 s1.1), (6, .int .i64 s1.2)]) (fun s1 => hp []) (fun o2 x e' H' => x = .exit 0 ∧ Sub ctx F38 (Env.ofList [(5, .int .i64 o2)]) (hp []) e' H') ?_ N (2880, 0) _ hx3) ?_
  · intro s1 o ho
    unfold s38_l11 at ho
    refine Wp.seq ?_
    refine Wp.seq ?_
    refine Wp.reg rfl ?_
    iterate 4 refine Wg.li rfl rfl rfl rfl (fun _ => rfl) ?_
    refine Wg.nil ?_
    refine ⟨fun _ => ?_, fun h => absurd (by decide) h⟩
    refine Wp.cond (decide (s1.2 < (a0.length : Int))) rfl (fun hb4 => ?_) (fun hb4 => ?_)
    · have ho := iT ho hb4
      refine Wp.skip ?_
      refine ⟨fun _ => ?_, fun h => absurd (by decide) h⟩
      refine Wp.seq ?_
      refine Wp.block ?_
      refine Wp.seq ?_
      refine Wp.reg rfl ?_
      iterate 3 refine Wg.li rfl rfl rfl rfl (fun _ => rfl) ?_
      obtain ⟨v5, hv5, ho⟩ := ob ho
      refine Wg.idx (f := eSpan) (xs := a0) (c := .unk) rfl rfl rfl rfl rfl rfl rfl lSpan (by decide) hv5 ?_
      iterate 3 refine Wg.li rfl rfl rfl rfl (fun _ => rfl) ?_
      refine Wg.nil ?_
      refine ⟨fun _ => ?_, fun h => absurd (by decide) h⟩
      obtain ⟨o6, hx7, ho⟩ := ob ho
      refine Wp.after (Q' := fun x e' H' => x = .normal ∧ Sub ctx F38 (Env.ofList [(0, lst eSpan a0 .unk), (1, .int .i64 a1), (5, .int .i64 o6), (6, .int .i64 s1.2)]) (hp []) e' H') ?_ ?_
      · refine Wp.cond (decide (a1 ≤ v5.high)) rfl (fun hb8 => ?_) (fun hb8 => ?_)
        · have hx7 := iT hx7 hb8
          refine Wp.reg rfl ?_
          iterate 4 refine Wg.li rfl rfl rfl rfl (fun _ => rfl) ?_
          obtain ⟨v9, hv9, hx7⟩ := ob hx7
          refine Wg.idx (f := eSpan) (xs := a0) (c := .unk) rfl rfl rfl rfl rfl rfl rfl lSpan (by decide) hv9 ?_
          iterate 5 refine Wg.li rfl rfl rfl rfl (fun _ => rfl) ?_
          refine Wg.nil ?_
          have hx7 := Option.some.inj hx7
          subst hx7
          exact ⟨by decide, (Sub.canon [] [] [(0, lst eSpan a0 .unk), (1, .int .i64 a1), (5, .int .i64 (mn s1.1 (mx a1 v9.low))), (6, .int .i64 s1.2)] rfl (by decide) trivial (.pure rfl (Pure.lst pSpan _ pUnk) (.pure rfl (.int _ _) (.pure rfl (.int _ _) (.pure rfl (.int _ _) .nil)))))⟩
        · have hx7 := iF hx7 hb8
          refine Wp.skip ?_
          have hx7 := Option.some.inj hx7
          subst hx7
          exact ⟨by decide, (Sub.canon [] [] [(0, lst eSpan a0 .unk), (1, .int .i64 a1), (5, .int .i64 s1.1), (6, .int .i64 s1.2)] rfl (by decide) trivial (.pure rfl (Pure.lst pSpan _ pUnk) (.pure rfl (.int _ _) (.pure rfl (.int _ _) (.pure rfl (.int _ _) .nil)))))⟩
      · intro x e' H' hP
        obtain ⟨hPx, hP2⟩ := hP
        subst hPx
        have hP := And.intro (True.intro) hP2
        refine ⟨fun _ => ?_, fun h => absurd (by decide) h⟩
        refine Sub.use hP.2 ?_
        refine Wp.reg rfl ?_
        refine Wg.li rfl rfl rfl rfl (fun _ => rfl) ?_
        obtain ⟨v10, hv10, ho⟩ := ob ho
        refine Wg.bin (k := .i64) (k2 := .i64) (a := s1.2) (b := 1) rfl rfl rfl rfl rfl (bAdd hv10) ?_
        refine Wg.li rfl rfl rfl rfl (fun _ => rfl) ?_
        refine Wg.nil ?_
        have ho := Option.some.inj ho
        subst ho
        exact ⟨by decide, (Sub.canon [] [] [(0, lst eSpan a0 .unk), (1, .int .i64 a1), (5, .int .i64 o6), (6, .int .i64 v10)] rfl (by decide) trivial (.pure rfl (Pure.lst pSpan _ pUnk) (.pure rfl (.int _ _) (.pure rfl (.int _ _) (.pure rfl (.int _ _) .nil)))))⟩
    · have ho := iF ho hb4
      refine Wp.exit ?_
      refine ⟨fun h => absurd h (by decide), fun _ => ?_⟩
      have ho := Option.some.inj ho
      subst ho
      exact ⟨by decide, by decide, (Sub.canon [] [] [(5, .int .i64 s1.1)] rfl (by decide) trivial (.pure rfl (.int _ _) .nil))⟩
  · intro x e' H' hP
    obtain ⟨hPx, hP2⟩ := hP
    subst hPx
    have hP := And.intro (True.intro) hP2
    refine ⟨fun _ => ?_, fun h => absurd (by decide) h⟩
    refine Sub.use hP.2 ?_
    refine Wp.seq ?_
    refine Wp.reg rfl ?_
    iterate 2 refine Wg.li rfl rfl rfl rfl (fun _ => rfl) ?_
    refine Wg.nil ?_
    refine ⟨fun _ => ?_, fun h => absurd (by decide) h⟩
    refine Wp.ret ?_
    have h := Option.some.inj h
    subst h
    exact ⟨.inr (by decide), _, rfl, rfl⟩
def s37_l37 (N : Nat) (a0 : Table) (a1 : (List Leg)) (s5 : Int × Int × Int) : Option ((Int × Int × Int) ⊕ (Int ⊕ Bool)) :=
  if (decide (s5.2.2 < (a1.length : Int))) then
    (ix a1 s5.2.2).bind fun v9 =>
    (ck ((a0.trains.length : Int) - 1)).bind fun v10 =>
    (s47 N v9.train 0 v10).bind fun v11 =>
    (if (!v11) then some true else 
      (s87 N s5.1 v9.train).bind fun v14 =>
      some v14).bind fun v15 =>
    (if v15 then some true else 
      (ix a0.trains v9.train).bind fun v18 =>
      (ck ((v18.stops.length : Int) - 1)).bind fun v19 =>
      (s47 N v9.to 0 v19).bind fun v20 =>
      some (!v20)).bind fun v21 =>
    (if v21 then some true else 
      (ck (v9.to - 1)).bind fun v24 =>
      (s47 N v9.frm 0 v24).bind fun v25 =>
      some (!v25)).bind fun v26 =>
    (if v26 then some true else 
      (ix a0.trains v9.train).bind fun v29 =>
      (ix v29.stops v9.frm).bind fun v30 =>
      some (!(v30.station == s5.2.1))).bind fun v31 =>
    if v31 then
      some (.inr (.inr false))
    else
      (shlC 1 v9.train).bind fun v33 =>
      (ix a0.trains v9.train).bind fun v34 =>
      (ix v34.stops v9.to).bind fun v35 =>
      (ck (s5.2.2 + 1)).bind fun v36 =>
      some (.inl ((orC s5.1 v33), v35.station, v36))
  else
    some (.inr (.inl s5.2.1))
def s37 (N : Nat) (a0 : Table) (a1 : (List Leg)) (a2 : Int) (a3 : Int) : Option (Bool) :=
  (s47 N (a1.length : Int) 1 4).bind fun v1 =>
  if ((!v1) || (a2 == a3)) then
    some false
  else
    (iter (s37_l37 N a0 a1) N (0, a2, 0)).bind fun o6 => match o6 with
    | .inl s38 =>
      some (s38 == a3)
    | .inr s39 =>
      some s39
abbrev F37 : Fr := { r := false, N := 107, m := 0 }
theorem at37 : ctx.P.funcs[37]? = some Tryd.f37 := by kernel_rfl
theorem s37_ev {N : Nat} {a0 : Table} {a1 : (List Leg)} {a2 : Int} {a3 : Int} {r : Bool} (h : s37 N a0 a1 a2 a3 = some r) : ∀ H, Ev ctx (.call 37 [.agg (eTable a0), lst eLeg a1 .unk, .int .i64 a2, .int .i64 a3] H (.bool r) H) := by
  refine Ev.of_pure at37 rfl rfl (Nat.le_of_ble_eq_true rfl) (pCons (pv (pTab _)) (pCons (Pure.lst pLeg _ pUnk) (pCons (.int _ _) (pCons (.int _ _) pNil)))) (.bool _) ?_
  unfold s37 at h
  refine Wp.seq ?_
  refine Wp.reg rfl ?_
  refine Wg.box rfl rfl rfl rfl ?_
  refine Wg.li rfl rfl rfl rfl (fun _ => rfl) ?_
  refine Wg.nil ?_
  refine ⟨fun _ => ?_, fun h => absurd (by decide) h⟩
  refine Wp.seq ?_
  refine Wp.seq ?_
  refine Wp.reg rfl ?_
  iterate 2 refine Wg.li rfl rfl rfl rfl (fun _ => rfl) ?_
  obtain ⟨v1, hv1, h⟩ := ob h
  refine Wg.call rfl rfl rfl rfl (s47_ev hv1 _) ?_
  iterate 2 refine Wg.li rfl rfl rfl rfl (fun _ => rfl) ?_
  have hv2 := ifOr (!v1) (a2 == a3)
  refine Wg.grp 4 21 17 ((!v1) || (a2 == a3)) (!v1) rfl rfl (Nat.le_of_ble_eq_true rfl) (fun hb3 => ?_) (fun hb3 => ?_) ?_
  · have hv2 := iT hv2 hb3
    iterate 3 refine Wg.skip rfl rfl ?_
    refine Wg.li rfl rfl rfl rfl (fun _ => rfl) ?_
    refine Wg.nil ⟨some_b hv2, ?_, rfl⟩
    repeat (first | exact Env.le_refl _ | refine Env.le_put rfl ?_)
  · have hv2 := iF hv2 hb3
    iterate 4 refine Wg.li rfl rfl rfl rfl (fun _ => rfl) ?_
    refine Wg.nil ⟨some_b hv2, ?_, rfl⟩
    repeat (first | exact Env.le_refl _ | refine Env.le_put rfl ?_)
  refine Wg.nil ?_
  refine ⟨fun _ => ?_, fun h => absurd (by decide) h⟩
  refine Wp.cond ((!v1) || (a2 == a3)) rfl (fun hb4 => ?_) (fun hb4 => ?_)
  · have h := iT h hb4
    refine Wp.seq ?_
    refine Wp.reg rfl ?_
    refine Wg.li rfl rfl rfl rfl (fun _ => rfl) ?_
    refine Wg.nil ?_
    refine ⟨fun _ => ?_, fun h => absurd (by decide) h⟩
    refine Wp.ret ?_
    refine ⟨fun h => absurd h (by decide), fun _ => ?_⟩
    have h := Option.some.inj h
    subst h
    exact ⟨.inr (by decide), _, rfl, rfl⟩
  · have h := iF h hb4
    refine Wp.skip ?_
    refine ⟨fun _ => ?_, fun h => absurd (by decide) h⟩
    refine Wp.seq ?_
    refine Wp.reg rfl ?_
    refine Wg.li rfl rfl rfl rfl (fun _ => rfl) ?_
    refine Wg.nil ?_
    refine ⟨fun _ => ?_, fun h => absurd (by decide) h⟩
    refine Wp.seq ?_
    refine Wp.reg rfl ?_
    iterate 2 refine Wg.li rfl rfl rfl rfl (fun _ => rfl) ?_
    refine Wg.nil ?_
    refine ⟨fun _ => ?_, fun h => absurd (by decide) h⟩
    refine Wp.seq ?_
    refine Wp.seq ?_
    refine Wp.reg rfl ?_
    refine Wg.li rfl rfl rfl rfl (fun _ => rfl) ?_
    refine Wg.nil ?_
    refine ⟨fun _ => ?_, fun h => absurd (by decide) h⟩
    refine Wp.block ?_
    obtain ⟨o6, hx7, h⟩ := ob h
    refine Sub.use (Sub.canon [] [] [(1, lst eLeg a1 .unk), (3, .int .i64 a3), (4, .ro (eTable a0)), (9, .int .i64 0), (10, .int .i64 a2), (11, .int .i64 0)] rfl (by decide) trivial (.pure rfl (Pure.lst pLeg _ pUnk) (.pure rfl (.int _ _) (.pure rfl (.ro (pTab _)) (.pure rfl (.int _ _) (.pure rfl (.int _ _) (.pure rfl (.int _ _) .nil))))))) ?_
    refine Wp.after (Wp.iterS (s37_l37 N a0 a1) (fun s5 => Env.ofList [(1, lst eLeg a1 .unk), (3, .int .i64 a3), (4, .ro (eTable a0)), (9, .int .i64 s5.1), (10, .int .i64 s5.2.1), (11, .int .i64 s5.2.2)]) (fun s5 => hp []) (fun o6 x e' H' => match o6 with | .inl s => x = .exit 0 ∧ Sub ctx F37 (Env.ofList [(3, .int .i64 a3), (10, .int .i64 s)]) (hp []) e' H' | .inr s => x = .ret ∧ ∃ vs, resA ctx e' H' [.tmp 8] = some vs ∧ retA vs = .bool s) ?_ N (0, a2, 0) _ hx7) ?_
    · intro s5 o ho
      unfold s37_l37 at ho
      refine Wp.seq ?_
      refine Wp.seq ?_
      refine Wp.reg rfl ?_
      iterate 4 refine Wg.li rfl rfl rfl rfl (fun _ => rfl) ?_
      refine Wg.nil ?_
      refine ⟨fun _ => ?_, fun h => absurd (by decide) h⟩
      refine Wp.cond (decide (s5.2.2 < (a1.length : Int))) rfl (fun hb8 => ?_) (fun hb8 => ?_)
      · have ho := iT ho hb8
        refine Wp.skip ?_
        refine ⟨fun _ => ?_, fun h => absurd (by decide) h⟩
        refine Wp.seq ?_
        refine Wp.block ?_
        refine Wp.seq ?_
        refine Wp.reg rfl ?_
        iterate 2 refine Wg.li rfl rfl rfl rfl (fun _ => rfl) ?_
        obtain ⟨v9, hv9, ho⟩ := ob ho
        refine Wg.idx (f := eLeg) (xs := a1) (c := .unk) rfl rfl rfl rfl rfl rfl rfl lLeg (by decide) hv9 ?_
        refine Wg.li rfl rfl rfl rfl (fun _ => rfl) ?_
        refine Wg.alloc rfl rfl rfl rfl ?_
        refine Wg.heavy true (Nat.le_of_ble_eq_true rfl) rfl rfl rfl rfl ?_
        refine Wg.nil ?_
        refine ⟨fun _ => ?_, fun h => absurd (by decide) h⟩
        refine Wp.seq ?_
        refine Wp.seq ?_
        refine Wp.drw _ [3, 18, 23, 40, 45, 50] rfl (by kernel_rfl) (Nat.le_refl _) ?_
        refine Wg.li rfl rfl rfl rfl (fun _ => rfl) ?_
        refine Wg.ld rfl rfl rfl rfl rfl rfl ?_
        iterate 3 refine Wg.li rfl rfl rfl rfl (fun _ => rfl) ?_
        obtain ⟨v10, hv10, ho⟩ := ob ho
        refine Wg.bin (k := .i64) (k2 := .i64) (a := (a0.trains.length : Int)) (b := 1) rfl rfl rfl rfl rfl (bSub hv10) ?_
        obtain ⟨v11, hv11, ho⟩ := ob ho
        refine Wg.call rfl rfl rfl rfl (s47_ev hv11 _) ?_
        iterate 2 refine Wg.li rfl rfl rfl rfl (fun _ => rfl) ?_
        obtain ⟨v15, hv12, ho⟩ := ob ho
        refine Wg.grp 5 46 41 v15 (!v11) rfl rfl (Nat.le_of_ble_eq_true rfl) (fun hb13 => ?_) (fun hb13 => ?_) ?_
        · have hv12 := iT hv12 hb13
          iterate 4 refine Wg.skip rfl rfl ?_
          refine Wg.li rfl rfl rfl rfl (fun _ => rfl) ?_
          refine Wg.nil ⟨some_b hv12, ?_, rfl⟩
          repeat (first | exact Env.le_refl _ | refine Env.le_put rfl ?_)
        · have hv12 := iF hv12 hb13
          iterate 2 refine Wg.li rfl rfl rfl rfl (fun _ => rfl) ?_
          refine Wg.ld rfl rfl rfl rfl rfl rfl ?_
          obtain ⟨v14, hv14, hv12⟩ := ob hv12
          refine Wg.call rfl rfl rfl rfl (s87_ev hv14 _) ?_
          refine Wg.li rfl rfl rfl rfl (fun _ => rfl) ?_
          refine Wg.nil ⟨some_b hv12, ?_, rfl⟩
          repeat (first | exact Env.le_refl _ | refine Env.le_put rfl ?_)
        refine Wg.li rfl rfl rfl rfl (fun _ => rfl) ?_
        obtain ⟨v21, hv16, ho⟩ := ob ho
        refine Wg.grp 14 61 47 v21 v15 rfl rfl (Nat.le_of_ble_eq_true rfl) (fun hb17 => ?_) (fun hb17 => ?_) ?_
        · have hv16 := iT hv16 hb17
          iterate 13 refine Wg.skip rfl rfl ?_
          refine Wg.li rfl rfl rfl rfl (fun _ => rfl) ?_
          refine Wg.nil ⟨some_b hv16, ?_, rfl⟩
          repeat (first | exact Env.le_refl _ | refine Env.le_put rfl ?_)
        · have hv16 := iF hv16 hb17
          refine Wg.li rfl rfl rfl rfl (fun _ => rfl) ?_
          refine Wg.ld rfl rfl rfl rfl rfl rfl ?_
          iterate 3 refine Wg.li rfl rfl rfl rfl (fun _ => rfl) ?_
          refine Wg.ld rfl rfl rfl rfl rfl rfl ?_
          obtain ⟨v18, hv18, hv16⟩ := ob hv16
          refine Wg.idx (f := eTrain) (xs := a0.trains) (c := .unk) rfl rfl rfl rfl rfl rfl rfl lTrain (by decide) hv18 ?_
          iterate 3 refine Wg.li rfl rfl rfl rfl (fun _ => rfl) ?_
          obtain ⟨v19, hv19, hv16⟩ := ob hv16
          refine Wg.bin (k := .i64) (k2 := .i64) (a := (v18.stops.length : Int)) (b := 1) rfl rfl rfl rfl rfl (bSub hv19) ?_
          obtain ⟨v20, hv20, hv16⟩ := ob hv16
          refine Wg.call rfl rfl rfl rfl (s47_ev hv20 _) ?_
          iterate 2 refine Wg.li rfl rfl rfl rfl (fun _ => rfl) ?_
          refine Wg.nil ⟨some_b hv16, ?_, rfl⟩
          repeat (first | exact Env.le_refl _ | refine Env.le_put rfl ?_)
        refine Wg.li rfl rfl rfl rfl (fun _ => rfl) ?_
        obtain ⟨v26, hv22, ho⟩ := ob ho
        refine Wg.grp 8 70 62 v26 v21 rfl rfl (Nat.le_of_ble_eq_true rfl) (fun hb23 => ?_) (fun hb23 => ?_) ?_
        · have hv22 := iT hv22 hb23
          iterate 7 refine Wg.skip rfl rfl ?_
          refine Wg.li rfl rfl rfl rfl (fun _ => rfl) ?_
          refine Wg.nil ⟨some_b hv22, ?_, rfl⟩
          repeat (first | exact Env.le_refl _ | refine Env.le_put rfl ?_)
        · have hv22 := iF hv22 hb23
          refine Wg.li rfl rfl rfl rfl (fun _ => rfl) ?_
          refine Wg.ld rfl rfl rfl rfl rfl rfl ?_
          refine Wg.li rfl rfl rfl rfl (fun _ => rfl) ?_
          refine Wg.ld rfl rfl rfl rfl rfl rfl ?_
          obtain ⟨v24, hv24, hv22⟩ := ob hv22
          refine Wg.bin (k := .i64) (k2 := .i64) (a := v9.to) (b := 1) rfl rfl rfl rfl rfl (bSub hv24) ?_
          obtain ⟨v25, hv25, hv22⟩ := ob hv22
          refine Wg.call rfl rfl rfl rfl (s47_ev hv25 _) ?_
          iterate 2 refine Wg.li rfl rfl rfl rfl (fun _ => rfl) ?_
          refine Wg.nil ⟨some_b hv22, ?_, rfl⟩
          repeat (first | exact Env.le_refl _ | refine Env.le_put rfl ?_)
        refine Wg.li rfl rfl rfl rfl (fun _ => rfl) ?_
        obtain ⟨v31, hv27, ho⟩ := ob ho
        refine Wg.grp 15 86 71 v31 v26 rfl rfl (Nat.le_of_ble_eq_true rfl) (fun hb28 => ?_) (fun hb28 => ?_) ?_
        · have hv27 := iT hv27 hb28
          iterate 14 refine Wg.skip rfl rfl ?_
          refine Wg.li rfl rfl rfl rfl (fun _ => rfl) ?_
          refine Wg.nil ⟨some_b hv27, ?_, rfl⟩
          repeat (first | exact Env.le_refl _ | refine Env.le_put rfl ?_)
        · have hv27 := iF hv27 hb28
          iterate 3 refine Wg.li rfl rfl rfl rfl (fun _ => rfl) ?_
          refine Wg.ld rfl rfl rfl rfl rfl rfl ?_
          obtain ⟨v29, hv29, hv27⟩ := ob hv27
          refine Wg.idx (f := eTrain) (xs := a0.trains) (c := .unk) rfl rfl rfl rfl rfl rfl rfl lTrain (by decide) hv29 ?_
          iterate 3 refine Wg.li rfl rfl rfl rfl (fun _ => rfl) ?_
          refine Wg.ld rfl rfl rfl rfl rfl rfl ?_
          obtain ⟨v30, hv30, hv27⟩ := ob hv27
          refine Wg.idx (f := eStop) (xs := v29.stops) (c := .unk) rfl rfl rfl rfl rfl rfl rfl lStop (by decide) hv30 ?_
          iterate 5 refine Wg.li rfl rfl rfl rfl (fun _ => rfl) ?_
          refine Wg.nil ⟨some_b hv27, ?_, rfl⟩
          repeat (first | exact Env.le_refl _ | refine Env.le_put rfl ?_)
        refine Wg.nil ?_
        refine ⟨fun _ => ?_, fun h => absurd (by decide) h⟩
        refine Wp.cond v31 rfl (fun hb32 => ?_) (fun hb32 => ?_)
        · have ho := iT ho hb32
          refine Wp.seq ?_
          refine Wp.reg rfl ?_
          refine Wg.li rfl rfl rfl rfl (fun _ => rfl) ?_
          refine Wg.nil ?_
          refine ⟨fun _ => ?_, fun h => absurd (by decide) h⟩
          refine Wp.ret ?_
          refine ⟨fun h => absurd h (by decide), fun _ => ?_⟩
          refine ⟨fun h => absurd h (by decide), fun _ => ?_⟩
          have ho := Option.some.inj ho
          subst ho
          exact ⟨by decide, by decide, _, rfl, rfl⟩
        · have ho := iF ho hb32
          refine Wp.skip ?_
          refine ⟨fun _ => ?_, fun h => absurd (by decide) h⟩
          refine Wp.seq ?_
          refine Wp.reg rfl ?_
          iterate 2 refine Wg.li rfl rfl rfl rfl (fun _ => rfl) ?_
          refine Wg.ld rfl rfl rfl rfl rfl rfl ?_
          obtain ⟨v33, hv33, ho⟩ := ob ho
          refine Wg.bin (k := .i64) (k2 := .i64) (a := 1) (b := v9.train) rfl rfl rfl rfl rfl (bShl hv33) ?_
          refine Wg.bin (k := .i64) (k2 := .i64) (a := s5.1) (b := v33) rfl rfl rfl rfl rfl bOr ?_
          refine Wg.li rfl rfl rfl rfl (fun _ => rfl) ?_
          refine Wg.nil ?_
          refine ⟨fun _ => ?_, fun h => absurd (by decide) h⟩
          refine Wp.drw _ [1, 6, 11] rfl (by kernel_rfl) (Nat.le_refl _) ?_
          iterate 3 refine Wg.li rfl rfl rfl rfl (fun _ => rfl) ?_
          refine Wg.ld rfl rfl rfl rfl rfl rfl ?_
          obtain ⟨v34, hv34, ho⟩ := ob ho
          refine Wg.idx (f := eTrain) (xs := a0.trains) (c := .unk) rfl rfl rfl rfl rfl rfl rfl lTrain (by decide) hv34 ?_
          iterate 3 refine Wg.li rfl rfl rfl rfl (fun _ => rfl) ?_
          refine Wg.ld rfl rfl rfl rfl rfl rfl ?_
          obtain ⟨v35, hv35, ho⟩ := ob ho
          refine Wg.idx (f := eStop) (xs := v34.stops) (c := .unk) rfl rfl rfl rfl rfl rfl rfl lStop (by decide) hv35 ?_
          iterate 3 refine Wg.li rfl rfl rfl rfl (fun _ => rfl) ?_
          refine Wg.nil ?_
          refine ⟨fun _ => ?_, fun h => absurd (by decide) h⟩
          refine Wp.reg rfl ?_
          refine Wg.li rfl rfl rfl rfl (fun _ => rfl) ?_
          obtain ⟨v36, hv36, ho⟩ := ob ho
          refine Wg.bin (k := .i64) (k2 := .i64) (a := s5.2.2) (b := 1) rfl rfl rfl rfl rfl (bAdd hv36) ?_
          refine Wg.li rfl rfl rfl rfl (fun _ => rfl) ?_
          refine Wg.nil ?_
          have ho := Option.some.inj ho
          subst ho
          exact ⟨by decide, (Sub.canon [] [] [(1, lst eLeg a1 .unk), (3, .int .i64 a3), (4, .ro (eTable a0)), (9, .int .i64 (orC s5.1 v33)), (10, .int .i64 v35.station), (11, .int .i64 v36)] rfl (by decide) trivial (.pure rfl (Pure.lst pLeg _ pUnk) (.pure rfl (.int _ _) (.pure rfl (.ro (pTab _)) (.pure rfl (.int _ _) (.pure rfl (.int _ _) (.pure rfl (.int _ _) .nil)))))))⟩
      · have ho := iF ho hb8
        refine Wp.exit ?_
        refine ⟨fun h => absurd h (by decide), fun _ => ?_⟩
        have ho := Option.some.inj ho
        subst ho
        exact ⟨by decide, by decide, (Sub.canon [] [] [(3, .int .i64 a3), (10, .int .i64 s5.2.1)] rfl (by decide) trivial (.pure rfl (.int _ _) (.pure rfl (.int _ _) .nil)))⟩
    · intro x e' H' hP
      rcases o6 with s38 | s39
      · obtain ⟨hPx, hP2⟩ := hP
        subst hPx
        have hP := And.intro (True.intro) hP2
        refine ⟨fun _ => ?_, fun h => absurd (by decide) h⟩
        refine Sub.use hP.2 ?_
        refine Wp.seq ?_
        refine Wp.reg rfl ?_
        iterate 4 refine Wg.li rfl rfl rfl rfl (fun _ => rfl) ?_
        refine Wg.nil ?_
        refine ⟨fun _ => ?_, fun h => absurd (by decide) h⟩
        refine Wp.ret ?_
        have h := Option.some.inj h
        subst h
        exact ⟨.inr (by decide), _, rfl, rfl⟩
      · have hPx := hP.1
        subst hPx
        refine ⟨fun h => absurd h (by decide), fun _ => ?_⟩
        exact ⟨.inr rfl, by obtain ⟨vs, h1, h2⟩ := hP.2; exact ⟨vs, h1, by rw [h2]; have h := Option.some.inj h; subst h; rfl⟩⟩
def s39_l21 (N : Nat) (a0 : Table) (a1 : (List Leg)) (a3 : (List Int)) (s2 : Int × Int) : Option ((Int × Int) ⊕ (Int ⊕ (Int × Int))) :=
  if (decide (s2.2 < (a1.length : Int))) then
    (ix a1 s2.2).bind fun v6 =>
    (ix a0.trains v6.train).bind fun v7 =>
    (ix a1 s2.2).bind fun v8 =>
    (ix v7.stops v8.frm).bind fun v9 =>
    (ix a1 s2.2).bind fun v10 =>
    (ix a3 v10.train).bind fun v11 =>
    (ck (v9.leave + v11)).bind fun v12 =>
    if (decide (v12 < s2.1)) then
      some (.inr (.inr (s2.2, 0)))
    else
      (ix a1 s2.2).bind fun v14 =>
      (ix v7.stops v14.to).bind fun v15 =>
      (ix a1 s2.2).bind fun v16 =>
      (ix a3 v16.train).bind fun v17 =>
      (ck (v15.arrive + v17)).bind fun v18 =>
      (ck (v18 + a0.load)).bind fun v19 =>
      (ck (s2.2 + 1)).bind fun v20 =>
      some (.inl (v19, v20))
  else
    some (.inr (.inl s2.1))
def s39 (N : Nat) (a0 : Table) (a1 : (List Leg)) (a2 : Int) (a3 : (List Int)) : Option (Int × Int) :=
  (ck (a2 + a0.load)).bind fun v1 =>
  (iter (s39_l21 N a0 a1 a3) N (v1, 0)).bind fun o3 => match o3 with
  | .inl s22 =>
    (ck ((a1.length : Int) - 1)).bind fun v23 =>
    (ix a1 v23).bind fun v24 =>
    (ix a0.trains v24.train).bind fun v25 =>
    (ix v25.stops v24.to).bind fun v26 =>
    (ix a0.offices v26.station).bind fun v27 =>
    (s38 N v27 s22).bind fun v28 =>
    some ((a1.length : Int), v28)
  | .inr s29 =>
    some s29
abbrev F39 : Fr := { r := false, N := 103, m := 0 }
theorem at39 : ctx.P.funcs[39]? = some Tryd.f39 := by kernel_rfl
theorem s39_ev {N : Nat} {a0 : Table} {a1 : (List Leg)} {a2 : Int} {a3 : (List Int)} {r : Int × Int} (h : s39 N a0 a1 a2 a3 = some r) : ∀ H, Ev ctx (.call 39 [.agg (eTable a0), lst eLeg a1 .unk, .int .i64 a2, lst eInt a3 .unk] H (.tuple [.int .i64 r.1, .int .i64 r.2]) H) := by
  refine Ev.of_pure at39 rfl rfl (Nat.le_of_ble_eq_true rfl) (pCons (pv (pTab _)) (pCons (Pure.lst pLeg _ pUnk) (pCons (.int _ _) (pCons (Pure.lst pInt _ pUnk) pNil)))) (.tuple (pCons (.int _ _) (pCons (.int _ _) pNil))) ?_
  unfold s39 at h
  refine Wp.seq ?_
  refine Wp.reg rfl ?_
  refine Wg.box rfl rfl rfl rfl ?_
  iterate 2 refine Wg.li rfl rfl rfl rfl (fun _ => rfl) ?_
  refine Wg.nil ?_
  refine ⟨fun _ => ?_, fun h => absurd (by decide) h⟩
  refine Wp.seq ?_
  refine Wp.reg rfl ?_
  iterate 3 refine Wg.li rfl rfl rfl rfl (fun _ => rfl) ?_
  obtain ⟨v1, hv1, h⟩ := ob h
  refine Wg.bin (k := .i64) (k2 := .i64) (a := a2) (b := a0.load) rfl rfl rfl rfl rfl (bAdd hv1) ?_
  refine Wg.li rfl rfl rfl rfl (fun _ => rfl) ?_
  refine Wg.nil ?_
  refine ⟨fun _ => ?_, fun h => absurd (by decide) h⟩
  refine Wp.seq ?_
  refine Wp.seq ?_
  refine Wp.reg rfl ?_
  refine Wg.li rfl rfl rfl rfl (fun _ => rfl) ?_
  refine Wg.nil ?_
  refine ⟨fun _ => ?_, fun h => absurd (by decide) h⟩
  refine Wp.block ?_
  obtain ⟨o3, hx4, h⟩ := ob h
  refine Sub.use (Sub.canon [] [] [(1, lst eLeg a1 .unk), (3, lst eInt a3 .unk), (4, .ro (eTable a0)), (10, .int .i64 v1), (11, .int .i64 0)] rfl (by decide) trivial (.pure rfl (Pure.lst pLeg _ pUnk) (.pure rfl (Pure.lst pInt _ pUnk) (.pure rfl (.ro (pTab _)) (.pure rfl (.int _ _) (.pure rfl (.int _ _) .nil)))))) ?_
  refine Wp.after (Wp.iterS (s39_l21 N a0 a1 a3) (fun s2 => Env.ofList [(1, lst eLeg a1 .unk), (3, lst eInt a3 .unk), (4, .ro (eTable a0)), (10, .int .i64 s2.1), (11, .int .i64 s2.2)]) (fun s2 => hp []) (fun o3 x e' H' => match o3 with | .inl s => x = .exit 0 ∧ Sub ctx F39 (Env.ofList [(1, lst eLeg a1 .unk), (4, .ro (eTable a0)), (10, .int .i64 s)]) (hp []) e' H' | .inr s => x = .ret ∧ ∃ vs, resA ctx e' H' [.tmp 8, .tmp 9] = some vs ∧ retA vs = .tuple [.int .i64 s.1, .int .i64 s.2]) ?_ N (v1, 0) _ hx4) ?_
  · intro s2 o ho
    unfold s39_l21 at ho
    refine Wp.seq ?_
    refine Wp.seq ?_
    refine Wp.reg rfl ?_
    iterate 4 refine Wg.li rfl rfl rfl rfl (fun _ => rfl) ?_
    refine Wg.nil ?_
    refine ⟨fun _ => ?_, fun h => absurd (by decide) h⟩
    refine Wp.cond (decide (s2.2 < (a1.length : Int))) rfl (fun hb5 => ?_) (fun hb5 => ?_)
    · have ho := iT ho hb5
      refine Wp.skip ?_
      refine ⟨fun _ => ?_, fun h => absurd (by decide) h⟩
      refine Wp.seq ?_
      refine Wp.block ?_
      refine Wp.seq ?_
      refine Wp.drw _ [1, 6, 8] rfl (by kernel_rfl) (Nat.le_refl _) ?_
      iterate 4 refine Wg.li rfl rfl rfl rfl (fun _ => rfl) ?_
      obtain ⟨v6, hv6, ho⟩ := ob ho
      refine Wg.idx (f := eLeg) (xs := a1) (c := .unk) rfl rfl rfl rfl rfl rfl rfl lLeg (by decide) hv6 ?_
      iterate 2 refine Wg.li rfl rfl rfl rfl (fun _ => rfl) ?_
      obtain ⟨v7, hv7, ho⟩ := ob ho
      refine Wg.idx (f := eTrain) (xs := a0.trains) (c := .unk) rfl rfl rfl rfl rfl rfl rfl lTrain (by decide) hv7 ?_
      refine Wg.li rfl rfl rfl rfl (fun _ => rfl) ?_
      refine Wg.alloc rfl rfl rfl rfl ?_
      refine Wg.heavy true (Nat.le_of_ble_eq_true rfl) rfl rfl rfl rfl ?_
      refine Wg.nil ?_
      refine ⟨fun _ => ?_, fun h => absurd (by decide) h⟩
      refine Wp.seq ?_
      refine Wp.seq ?_
      refine Wp.drw _ [6, 9, 15, 17] rfl (by kernel_rfl) (Nat.le_refl _) ?_
      refine Wg.li rfl rfl rfl rfl (fun _ => rfl) ?_
      refine Wg.ld rfl rfl rfl rfl rfl rfl ?_
      iterate 2 refine Wg.li rfl rfl rfl rfl (fun _ => rfl) ?_
      obtain ⟨v8, hv8, ho⟩ := ob ho
      refine Wg.idx (f := eLeg) (xs := a1) (c := .unk) rfl rfl rfl rfl rfl rfl rfl lLeg (by decide) hv8 ?_
      iterate 2 refine Wg.li rfl rfl rfl rfl (fun _ => rfl) ?_
      obtain ⟨v9, hv9, ho⟩ := ob ho
      refine Wg.idx (f := eStop) (xs := v7.stops) (c := .unk) rfl rfl rfl rfl rfl rfl rfl lStop (by decide) hv9 ?_
      iterate 5 refine Wg.li rfl rfl rfl rfl (fun _ => rfl) ?_
      obtain ⟨v10, hv10, ho⟩ := ob ho
      refine Wg.idx (f := eLeg) (xs := a1) (c := .unk) rfl rfl rfl rfl rfl rfl rfl lLeg (by decide) hv10 ?_
      iterate 2 refine Wg.li rfl rfl rfl rfl (fun _ => rfl) ?_
      obtain ⟨v11, hv11, ho⟩ := ob ho
      refine Wg.idx (f := eInt) (xs := a3) (c := .unk) rfl rfl rfl rfl rfl rfl rfl lInt (by decide) hv11 ?_
      refine Wg.li rfl rfl rfl rfl (fun _ => rfl) ?_
      obtain ⟨v12, hv12, ho⟩ := ob ho
      refine Wg.bin (k := .i64) (k2 := .i64) (a := v9.leave) (b := v11) rfl rfl rfl rfl rfl (bAdd hv12) ?_
      iterate 2 refine Wg.li rfl rfl rfl rfl (fun _ => rfl) ?_
      refine Wg.nil ?_
      refine ⟨fun _ => ?_, fun h => absurd (by decide) h⟩
      refine Wp.cond (decide (v12 < s2.1)) rfl (fun hb13 => ?_) (fun hb13 => ?_)
      · have ho := iT ho hb13
        refine Wp.seq ?_
        refine Wp.reg rfl ?_
        iterate 3 refine Wg.li rfl rfl rfl rfl (fun _ => rfl) ?_
        refine Wg.nil ?_
        refine ⟨fun _ => ?_, fun h => absurd (by decide) h⟩
        refine Wp.ret ?_
        refine ⟨fun h => absurd h (by decide), fun _ => ?_⟩
        refine ⟨fun h => absurd h (by decide), fun _ => ?_⟩
        have ho := Option.some.inj ho
        subst ho
        exact ⟨by decide, by decide, _, rfl, rfl⟩
      · have ho := iF ho hb13
        refine Wp.skip ?_
        refine ⟨fun _ => ?_, fun h => absurd (by decide) h⟩
        refine Wp.drw _ [6, 9, 15, 17, 20] rfl (by kernel_rfl) (Nat.le_refl _) ?_
        refine Wg.li rfl rfl rfl rfl (fun _ => rfl) ?_
        refine Wg.ld rfl rfl rfl rfl rfl rfl ?_
        iterate 2 refine Wg.li rfl rfl rfl rfl (fun _ => rfl) ?_
        obtain ⟨v14, hv14, ho⟩ := ob ho
        refine Wg.idx (f := eLeg) (xs := a1) (c := .unk) rfl rfl rfl rfl rfl rfl rfl lLeg (by decide) hv14 ?_
        iterate 2 refine Wg.li rfl rfl rfl rfl (fun _ => rfl) ?_
        obtain ⟨v15, hv15, ho⟩ := ob ho
        refine Wg.idx (f := eStop) (xs := v7.stops) (c := .unk) rfl rfl rfl rfl rfl rfl rfl lStop (by decide) hv15 ?_
        iterate 5 refine Wg.li rfl rfl rfl rfl (fun _ => rfl) ?_
        obtain ⟨v16, hv16, ho⟩ := ob ho
        refine Wg.idx (f := eLeg) (xs := a1) (c := .unk) rfl rfl rfl rfl rfl rfl rfl lLeg (by decide) hv16 ?_
        iterate 2 refine Wg.li rfl rfl rfl rfl (fun _ => rfl) ?_
        obtain ⟨v17, hv17, ho⟩ := ob ho
        refine Wg.idx (f := eInt) (xs := a3) (c := .unk) rfl rfl rfl rfl rfl rfl rfl lInt (by decide) hv17 ?_
        refine Wg.li rfl rfl rfl rfl (fun _ => rfl) ?_
        obtain ⟨v18, hv18, ho⟩ := ob ho
        refine Wg.bin (k := .i64) (k2 := .i64) (a := v15.arrive) (b := v17) rfl rfl rfl rfl rfl (bAdd hv18) ?_
        iterate 2 refine Wg.li rfl rfl rfl rfl (fun _ => rfl) ?_
        obtain ⟨v19, hv19, ho⟩ := ob ho
        refine Wg.bin (k := .i64) (k2 := .i64) (a := v18) (b := a0.load) rfl rfl rfl rfl rfl (bAdd hv19) ?_
        refine Wg.li rfl rfl rfl rfl (fun _ => rfl) ?_
        refine Wg.nil ?_
        refine ⟨fun _ => ?_, fun h => absurd (by decide) h⟩
        refine Wp.reg rfl ?_
        refine Wg.li rfl rfl rfl rfl (fun _ => rfl) ?_
        obtain ⟨v20, hv20, ho⟩ := ob ho
        refine Wg.bin (k := .i64) (k2 := .i64) (a := s2.2) (b := 1) rfl rfl rfl rfl rfl (bAdd hv20) ?_
        refine Wg.li rfl rfl rfl rfl (fun _ => rfl) ?_
        refine Wg.nil ?_
        have ho := Option.some.inj ho
        subst ho
        exact ⟨by decide, (Sub.canon [] [] [(1, lst eLeg a1 .unk), (3, lst eInt a3 .unk), (4, .ro (eTable a0)), (10, .int .i64 v19), (11, .int .i64 v20)] rfl (by decide) trivial (.pure rfl (Pure.lst pLeg _ pUnk) (.pure rfl (Pure.lst pInt _ pUnk) (.pure rfl (.ro (pTab _)) (.pure rfl (.int _ _) (.pure rfl (.int _ _) .nil))))))⟩
    · have ho := iF ho hb5
      refine Wp.exit ?_
      refine ⟨fun h => absurd h (by decide), fun _ => ?_⟩
      have ho := Option.some.inj ho
      subst ho
      exact ⟨by decide, by decide, (Sub.canon [] [] [(1, lst eLeg a1 .unk), (4, .ro (eTable a0)), (10, .int .i64 s2.1)] rfl (by decide) trivial (.pure rfl (Pure.lst pLeg _ pUnk) (.pure rfl (.ro (pTab _)) (.pure rfl (.int _ _) .nil))))⟩
  · intro x e' H' hP
    rcases o3 with s22 | s29
    · obtain ⟨hPx, hP2⟩ := hP
      subst hPx
      have hP := And.intro (True.intro) hP2
      refine ⟨fun _ => ?_, fun h => absurd (by decide) h⟩
      refine Sub.use hP.2 ?_
      refine Wp.seq ?_
      refine Wp.reg rfl ?_
      iterate 3 refine Wg.li rfl rfl rfl rfl (fun _ => rfl) ?_
      obtain ⟨v23, hv23, h⟩ := ob h
      refine Wg.bin (k := .i64) (k2 := .i64) (a := (a1.length : Int)) (b := 1) rfl rfl rfl rfl rfl (bSub hv23) ?_
      obtain ⟨v24, hv24, h⟩ := ob h
      refine Wg.idx (f := eLeg) (xs := a1) (c := .unk) rfl rfl rfl rfl rfl rfl rfl lLeg (by decide) hv24 ?_
      refine Wg.li rfl rfl rfl rfl (fun _ => rfl) ?_
      refine Wg.alloc rfl rfl rfl rfl ?_
      refine Wg.heavy true (Nat.le_of_ble_eq_true rfl) rfl rfl rfl rfl ?_
      refine Wg.nil ?_
      refine ⟨fun _ => ?_, fun h => absurd (by decide) h⟩
      refine Wp.seq ?_
      refine Wp.drw _ [3, 5, 10, 15, 17] rfl (by kernel_rfl) (Nat.le_refl _) ?_
      iterate 7 refine Wg.li rfl rfl rfl rfl (fun _ => rfl) ?_
      refine Wg.ld rfl rfl rfl rfl rfl rfl ?_
      obtain ⟨v25, hv25, h⟩ := ob h
      refine Wg.idx (f := eTrain) (xs := a0.trains) (c := .unk) rfl rfl rfl rfl rfl rfl rfl lTrain (by decide) hv25 ?_
      iterate 3 refine Wg.li rfl rfl rfl rfl (fun _ => rfl) ?_
      refine Wg.ld rfl rfl rfl rfl rfl rfl ?_
      obtain ⟨v26, hv26, h⟩ := ob h
      refine Wg.idx (f := eStop) (xs := v25.stops) (c := .unk) rfl rfl rfl rfl rfl rfl rfl lStop (by decide) hv26 ?_
      iterate 2 refine Wg.li rfl rfl rfl rfl (fun _ => rfl) ?_
      obtain ⟨v27, hv27, h⟩ := ob h
      refine Wg.idx (f := (eLs eSpan)) (xs := a0.offices) (c := .unk) rfl rfl rfl rfl rfl rfl rfl lLs (by decide) hv27 ?_
      iterate 2 refine Wg.li rfl rfl rfl rfl (fun _ => rfl) ?_
      obtain ⟨v28, hv28, h⟩ := ob h
      refine Wg.call rfl rfl rfl rfl (s38_ev hv28 _) ?_
      iterate 2 refine Wg.li rfl rfl rfl rfl (fun _ => rfl) ?_
      refine Wg.nil ?_
      refine ⟨fun _ => ?_, fun h => absurd (by decide) h⟩
      refine Wp.ret ?_
      have h := Option.some.inj h
      subst h
      exact ⟨.inr (by decide), _, rfl, rfl⟩
    · have hPx := hP.1
      subst hPx
      refine ⟨fun h => absurd h (by decide), fun _ => ?_⟩
      exact ⟨.inr rfl, by obtain ⟨vs, h1, h2⟩ := hP.2; exact ⟨vs, h1, by rw [h2]; have h := Option.some.inj h; subst h; rfl⟩⟩
def s40_l10 (N : Nat) (a0 : Table) (a1 : (List Int)) (s1 : (List Int) × Int) : Option (((List Int) × Int) ⊕ ((List Int))) :=
  if (decide (s1.2 < (a0.trains.length : Int))) then
    (ix a0.trains s1.2).bind fun v5 =>
    (s88 N a1 s1.2).bind fun v6 =>
    (s45 N v5.late v6).bind fun v7 =>
    (ap 8 s1.1 ([v7])).bind fun v8 =>
    (ck (s1.2 + 1)).bind fun v9 =>
    some (.inl (v8, v9))
  else
    some (.inr s1.1)
def s40 (N : Nat) (a0 : Table) (a1 : (List Int)) : Option ((List Int)) :=
  (iter (s40_l10 N a0 a1) N ([], 0)).bind fun o2 =>
  some o2
abbrev F40 : Fr := { r := false, N := 28, m := 0 }
theorem at40 : ctx.P.funcs[40]? = some Tryd.f40 := by kernel_rfl
theorem s40_ev {N : Nat} {a0 : Table} {a1 : (List Int)} {r : (List Int)} (h : s40 N a0 a1 = some r) : ∀ H, Ev ctx (.call 40 [.agg (eTable a0), lst eInt a1 .unk] H (lst eInt r .unk) H) := by
  refine Ev.of_pure at40 rfl rfl (Nat.le_of_ble_eq_true rfl) (pCons (pv (pTab _)) (pCons (Pure.lst pInt _ pUnk) pNil)) (Pure.lst pInt _ pUnk) ?_
  unfold s40 at h
  refine Wp.seq ?_
  refine Wp.reg rfl ?_
  refine Wg.box rfl rfl rfl rfl ?_
  refine Wg.li rfl rfl rfl rfl (fun _ => rfl) ?_
  refine Wg.nil ?_
  refine ⟨fun _ => ?_, fun h => absurd (by decide) h⟩
  refine Wp.seq ?_
  refine Wp.reg rfl ?_
  refine Wg.li rfl rfl rfl rfl (fun _ => rfl) ?_
  refine Wg.nil ?_
  refine ⟨fun _ => ?_, fun h => absurd (by decide) h⟩
  refine Wp.seq ?_
  refine Wp.seq ?_
  refine Wp.reg rfl ?_
  refine Wg.li rfl rfl rfl rfl (fun _ => rfl) ?_
  refine Wg.nil ?_
  refine ⟨fun _ => ?_, fun h => absurd (by decide) h⟩
  refine Wp.block ?_
  obtain ⟨o2, hx3, h⟩ := ob h
  refine Sub.use (Sub.canon [none] [.gone] [(1, lst eInt a1 .unk), (2, .ro (eTable a0)), (5, lst eInt [] (capT [] 0)), (6, .int .i64 0)] rfl (by decide) trivial (.pure rfl (Pure.lst pInt _ pUnk) (.pure rfl (.ro (pTab _)) (.grow0 rfl (.pure rfl (.int _ _) .nil))))) ?_
  refine Wp.after (Wp.iterS (s40_l10 N a0 a1) (fun s1 => Env.ofList [(1, lst eInt a1 .unk), (2, .ro (eTable a0)), (5, lst eInt s1.1 (capT s1.1 0)), (6, .int .i64 s1.2)]) (fun s1 => hp [ownT s1.1]) (fun o2 x e' H' => x = .exit 0 ∧ Sub ctx F40 (Env.ofList [(5, lst eInt o2 (capT o2 0))]) (hp [ownT o2]) e' H') ?_ N ([], 0) _ hx3) ?_
  · intro s1 o ho
    unfold s40_l10 at ho
    refine Wp.seq ?_
    refine Wp.seq ?_
    refine Wp.reg rfl ?_
    iterate 5 refine Wg.li rfl rfl rfl rfl (fun _ => rfl) ?_
    refine Wg.nil ?_
    refine ⟨fun _ => ?_, fun h => absurd (by decide) h⟩
    refine Wp.cond (decide (s1.2 < (a0.trains.length : Int))) rfl (fun hb4 => ?_) (fun hb4 => ?_)
    · have ho := iT ho hb4
      refine Wp.skip ?_
      refine ⟨fun _ => ?_, fun h => absurd (by decide) h⟩
      refine Wp.seq ?_
      refine Wp.block ?_
      refine Wp.drw _ [2, 6] rfl (by kernel_rfl) (Nat.le_refl _) ?_
      iterate 4 refine Wg.li rfl rfl rfl rfl (fun _ => rfl) ?_
      obtain ⟨v5, hv5, ho⟩ := ob ho
      refine Wg.idx (f := eTrain) (xs := a0.trains) (c := .unk) rfl rfl rfl rfl rfl rfl rfl lTrain (by decide) hv5 ?_
      iterate 4 refine Wg.li rfl rfl rfl rfl (fun _ => rfl) ?_
      obtain ⟨v6, hv6, ho⟩ := ob ho
      refine Wg.call rfl rfl rfl rfl (s88_ev hv6 _) ?_
      obtain ⟨v7, hv7, ho⟩ := ob ho
      refine Wg.call rfl rfl rfl rfl (s45_ev hv7 _) ?_
      refine Wg.li rfl rfl rfl rfl (fun _ => rfl) ?_
      obtain ⟨v8, hv8, ho⟩ := ob ho
      refine Wg.appG (k := 0) (f := eInt) (xs := s1.1) (ys := [v7]) (c2 := .full) (Nat.le_of_ble_eq_true rfl) rfl rfl rfl rfl rfl rfl rfl rfl rfl lInt (by decide) (by decide) (by simp) rfl hv8 ?_
      refine Wg.li rfl rfl rfl rfl (fun _ => rfl) ?_
      refine Wg.nil ?_
      refine ⟨fun _ => ?_, fun h => absurd (by decide) h⟩
      refine Wp.reg rfl ?_
      refine Wg.li rfl rfl rfl rfl (fun _ => rfl) ?_
      obtain ⟨v9, hv9, ho⟩ := ob ho
      refine Wg.bin (k := .i64) (k2 := .i64) (a := s1.2) (b := 1) rfl rfl rfl rfl rfl (bAdd hv9) ?_
      refine Wg.li rfl rfl rfl rfl (fun _ => rfl) ?_
      refine Wg.nil ?_
      have ho := Option.some.inj ho
      subst ho
      exact ⟨by decide, (Sub.canon [some 1] [ownT v8] [(1, lst eInt a1 .unk), (2, .ro (eTable a0)), (5, lst eInt v8 (capT v8 0)), (6, .int .i64 v9)] rfl (by decide) ⟨.grow rfl, trivial⟩ (.pure rfl (Pure.lst pInt _ pUnk) (.pure rfl (.ro (pTab _)) (.grow rfl pInt rfl (.pure rfl (.int _ _) .nil)))))⟩
    · have ho := iF ho hb4
      refine Wp.exit ?_
      refine ⟨fun h => absurd h (by decide), fun _ => ?_⟩
      have ho := Option.some.inj ho
      subst ho
      exact ⟨by decide, by decide, (Sub.canon [some 0] [ownT s1.1] [(5, lst eInt s1.1 (capT s1.1 0))] rfl (by decide) ⟨.grow rfl, trivial⟩ (.grow rfl pInt rfl .nil))⟩
  · intro x e' H' hP
    obtain ⟨hPx, hP2⟩ := hP
    subst hPx
    have hP := And.intro (True.intro) hP2
    refine ⟨fun _ => ?_, fun h => absurd (by decide) h⟩
    refine Sub.use hP.2 ?_
    refine Wp.seq ?_
    refine Wp.reg rfl ?_
    iterate 2 refine Wg.li rfl rfl rfl rfl (fun _ => rfl) ?_
    refine Wg.nil ?_
    refine ⟨fun _ => ?_, fun h => absurd (by decide) h⟩
    refine Sub.use (Sub.canon [] [] [(4, lst eInt o2 .unk)] rfl (by decide) trivial (.unk (c := (capT o2 0)) rfl pInt .nil)) ?_
    refine Wp.ret ?_
    have h := Option.some.inj h
    subst h
    exact ⟨.inr (by decide), _, rfl, rfl⟩
def s42_l43 (N : Nat) (s1 : (List Leg) × Int × Int × Int × Int) (v24 : Train) (s30 : Int × Int) : Option ((Int × Int) ⊕ (Int)) :=
  (if (decide (s1.2.2.1 ≥ 0)) then 
    (ck ((v24.stops.length : Int) - 1)).bind fun v35 =>
    some (decide (s30.2 < v35))
   else some false).bind fun v36 =>
  if v36 then
    (ix v24.stops s30.2).bind fun v38 =>
    (if (v38.station == s1.2.2.1) then
      some s30.2
    else
      some s30.1).bind fun o39 =>
    (ck (s30.2 + 1)).bind fun v42 =>
    some (.inl (o39, v42))
  else
    some (.inr s30.1)
def s42_l68 (N : Nat) (a0 : Table) (a1 : (List Int)) (s1 : (List Leg) × Int × Int × Int × Int) : Option (((List Leg) × Int × Int × Int × Int) ⊕ (((List Leg) × Int × Int))) :=
  if ((decide (s1.2.2.2.2 < 16)) && (decide ((s1.1.length : Int) < 4))) then
    (((if (decide ((s1.1.length : Int) > 0)) then 
      (s88 N a1 s1.2.2.2.2).bind fun v11 =>
      (s36 N v11 3).bind fun v12 =>
      some (v12 == 0)
     else some false).bind fun v13 =>
    if v13 then
      some (.inr ())
    else
      (ck (2 * s1.2.2.2.2)).bind fun v15 =>
      (ck (v15 + 1)).bind fun v16 =>
      (s88 N a1 v16).bind fun v17 =>
      (s36 N v17 (mx 1 (a0.trains.length : Int))).bind fun v18 =>
      (if (decide (v18 ≥ (a0.trains.length : Int))) then some true else 
        (s87 N s1.2.2.2.1 v18).bind fun v21 =>
        some v21).bind fun v22 =>
      if v22 then
        some (.inl (s1.1, s1.2.1, s1.2.2.1, s1.2.2.2.1))
      else
        (ix a0.trains v18).bind fun v24 =>
        (ck (2 * s1.2.2.2.2)).bind fun v25 =>
        (ck (v25 + 2)).bind fun v26 =>
        (s88 N a1 v26).bind fun v27 =>
        (ck ((v24.stops.length : Int) - 1)).bind fun v28 =>
        (s36 N v27 v28).bind fun v29 =>
        (iter (s42_l43 N s1 v24) N (v29, 0)).bind fun o31 =>
        (if (decide (s1.2.2.1 ≥ 0)) then 
          (ix v24.stops o31).bind fun v46 =>
          some (!(v46.station == s1.2.2.1))
         else some false).bind fun v47 =>
        if v47 then
          some (.inl (s1.1, s1.2.1, s1.2.2.1, s1.2.2.2.1))
        else
          (ck (o31 + 1)).bind fun v49 =>
          (ck (2 * s1.2.2.2.2)).bind fun v50 =>
          (ck (v50 + 3)).bind fun v51 =>
          (s88 N a1 v51).bind fun v52 =>
          (ck ((v24.stops.length : Int) - 1)).bind fun v53 =>
          (ck (v53 - o31)).bind fun v54 =>
          (s36 N v52 v54).bind fun v55 =>
          (ck (v49 + v55)).bind fun v56 =>
          (if ((s1.1.length : Int) == 0) then
            (ix v24.stops o31).bind fun v60 =>
            some v60.station
          else
            some s1.2.1).bind fun o57 =>
          (s49 N v18 o31 v56).bind fun v61 =>
          (ap 24 s1.1 ([v61])).bind fun v62 =>
          (ix v24.stops v56).bind fun v63 =>
          (shlC 1 v18).bind fun v64 =>
          some (.inl (v62, o57, v63.station, (orC s1.2.2.2.1 v64))) : Option (((List Leg) × Int × Int × Int) ⊕ Unit))).bind fun o7 => match o7 with
    | .inl s65 =>
      (ck (s1.2.2.2.2 + 1)).bind fun v66 =>
      some (.inl (s65.1, s65.2.1, s65.2.2.1, s65.2.2.2, v66))
    | .inr s67 =>
      some (.inr (s1.1, s1.2.1, s1.2.2.1))
  else
    some (.inr (s1.1, s1.2.1, s1.2.2.1))
def s42 (N : Nat) (a0 : Table) (a1 : (List Int)) : Option ((List Leg) × Int × Int) :=
  (iter (s42_l68 N a0 a1) N ([], 0, (-1), 0, 0)).bind fun o2 =>
  some (o2.1, o2.2.1, o2.2.2)
abbrev F42 : Fr := { r := false, N := 142, m := 0 }
theorem at42 : ctx.P.funcs[42]? = some Tryd.f42 := by kernel_rfl
theorem s42_ev {N : Nat} {a0 : Table} {a1 : (List Int)} {r : (List Leg) × Int × Int} (h : s42 N a0 a1 = some r) : ∀ H, Ev ctx (.call 42 [.agg (eTable a0), lst eInt a1 .unk] H (.tuple [lst eLeg r.1 .unk, .int .i64 r.2.1, .int .i64 r.2.2]) H) := by
  refine Ev.of_pure at42 rfl rfl (Nat.le_of_ble_eq_true rfl) (pCons (pv (pTab _)) (pCons (Pure.lst pInt _ pUnk) pNil)) (.tuple (pCons (Pure.lst pLeg _ pUnk) (pCons (.int _ _) (pCons (.int _ _) pNil)))) ?_
  unfold s42 at h
  refine Wp.seq ?_
  refine Wp.reg rfl ?_
  refine Wg.box rfl rfl rfl rfl ?_
  iterate 3 refine Wg.li rfl rfl rfl rfl (fun _ => rfl) ?_
  refine Wg.nil ?_
  refine ⟨fun _ => ?_, fun h => absurd (by decide) h⟩
  refine Wp.seq ?_
  refine Wp.reg rfl ?_
  refine Wg.li rfl rfl rfl rfl (fun _ => rfl) ?_
  refine Wg.nil ?_
  refine ⟨fun _ => ?_, fun h => absurd (by decide) h⟩
  refine Wp.seq ?_
  refine Wp.reg rfl ?_
  iterate 3 refine Wg.li rfl rfl rfl rfl (fun _ => rfl) ?_
  refine Wg.nil ?_
  refine ⟨fun _ => ?_, fun h => absurd (by decide) h⟩
  refine Wp.seq ?_
  refine Wp.seq ?_
  refine Wp.reg rfl ?_
  refine Wg.li rfl rfl rfl rfl (fun _ => rfl) ?_
  refine Wg.nil ?_
  refine ⟨fun _ => ?_, fun h => absurd (by decide) h⟩
  refine Wp.block ?_
  obtain ⟨o2, hx3, h⟩ := ob h
  refine Sub.use (Sub.canon [none] [.gone] [(1, lst eInt a1 .unk), (2, .ro (eTable a0)), (7, lst eLeg [] (capT [] 0)), (8, .int .i64 0), (9, .int .i64 (-1)), (10, .int .i64 0), (11, .int .i64 0)] rfl (by decide) trivial (.pure rfl (Pure.lst pInt _ pUnk) (.pure rfl (.ro (pTab _)) (.grow0 rfl (.pure rfl (.int _ _) (.pure rfl (.int _ _) (.pure rfl (.int _ _) (.pure rfl (.int _ _) .nil)))))))) ?_
  refine Wp.after (Wp.iterS (s42_l68 N a0 a1) (fun s1 => Env.ofList [(1, lst eInt a1 .unk), (2, .ro (eTable a0)), (7, lst eLeg s1.1 (capT s1.1 0)), (8, .int .i64 s1.2.1), (9, .int .i64 s1.2.2.1), (10, .int .i64 s1.2.2.2.1), (11, .int .i64 s1.2.2.2.2)]) (fun s1 => hp [ownT s1.1]) (fun o2 x e' H' => x = .exit 0 ∧ Sub ctx F42 (Env.ofList [(7, lst eLeg o2.1 (capT o2.1 0)), (8, .int .i64 o2.2.1), (9, .int .i64 o2.2.2)]) (hp [ownT o2.1]) e' H') ?_ N ([], 0, (-1), 0, 0) _ hx3) ?_
  · intro s1 o ho
    unfold s42_l68 at ho
    refine Wp.seq ?_
    refine Wp.seq ?_
    refine Wp.reg rfl ?_
    iterate 3 refine Wg.li rfl rfl rfl rfl (fun _ => rfl) ?_
    have hv4 := ifAnd (decide (s1.2.2.2.2 < 16)) (decide ((s1.1.length : Int) < 4))
    refine Wg.grp 4 23 19 ((decide (s1.2.2.2.2 < 16)) && (decide ((s1.1.length : Int) < 4))) (decide (s1.2.2.2.2 < 16)) rfl rfl (Nat.le_of_ble_eq_true rfl) (fun hb5 => ?_) (fun hb5 => ?_) ?_
    · have hv4 := iT hv4 hb5
      iterate 4 refine Wg.li rfl rfl rfl rfl (fun _ => rfl) ?_
      refine Wg.nil ⟨some_b hv4, ?_, rfl⟩
      repeat (first | exact Env.le_refl _ | refine Env.le_put rfl ?_)
    · have hv4 := iF hv4 hb5
      iterate 3 refine Wg.skip rfl rfl ?_
      refine Wg.li rfl rfl rfl rfl (fun _ => rfl) ?_
      refine Wg.nil ⟨some_b hv4, ?_, rfl⟩
      repeat (first | exact Env.le_refl _ | refine Env.le_put rfl ?_)
    refine Wg.nil ?_
    refine ⟨fun _ => ?_, fun h => absurd (by decide) h⟩
    refine Wp.cond ((decide (s1.2.2.2.2 < 16)) && (decide ((s1.1.length : Int) < 4))) rfl (fun hb6 => ?_) (fun hb6 => ?_)
    · have ho := iT ho hb6
      refine Wp.skip ?_
      refine ⟨fun _ => ?_, fun h => absurd (by decide) h⟩
      refine Wp.seq ?_
      obtain ⟨o7, hx8, ho⟩ := ob ho
      refine Wp.after (Q' := fun x e' H' => match o7 with | .inl s => x = .normal ∧ Sub ctx F42 (Env.ofList [(1, lst eInt a1 .unk), (2, .ro (eTable a0)), (7, lst eLeg s.1 (capT s.1 0)), (8, .int .i64 s.2.1), (9, .int .i64 s.2.2.1), (10, .int .i64 s.2.2.2), (11, .int .i64 s1.2.2.2.2)]) (hp [ownT s.1]) e' H' | .inr s => x = .exit 0 ∧ Sub ctx F42 (Env.ofList [(7, lst eLeg s1.1 (capT s1.1 0)), (8, .int .i64 s1.2.1), (9, .int .i64 s1.2.2.1)]) (hp [ownT s1.1]) e' H') ?_ ?_
      · refine Wp.block ?_
        refine Wp.seq ?_
        refine Wp.seq ?_
        refine Wp.reg rfl ?_
        iterate 4 refine Wg.li rfl rfl rfl rfl (fun _ => rfl) ?_
        obtain ⟨v13, hv9, hx8⟩ := ob hx8
        refine Wg.grp 6 35 29 v13 (decide ((s1.1.length : Int) > 0)) rfl rfl (Nat.le_of_ble_eq_true rfl) (fun hb10 => ?_) (fun hb10 => ?_) ?_
        · have hv9 := iT hv9 hb10
          iterate 2 refine Wg.li rfl rfl rfl rfl (fun _ => rfl) ?_
          obtain ⟨v11, hv11, hv9⟩ := ob hv9
          refine Wg.call rfl rfl rfl rfl (s88_ev hv11 _) ?_
          obtain ⟨v12, hv12, hv9⟩ := ob hv9
          refine Wg.call rfl rfl rfl rfl (s36_ev hv12 _) ?_
          iterate 2 refine Wg.li rfl rfl rfl rfl (fun _ => rfl) ?_
          refine Wg.nil ⟨some_b hv9, ?_, rfl⟩
          repeat (first | exact Env.le_refl _ | refine Env.le_put rfl ?_)
        · have hv9 := iF hv9 hb10
          iterate 5 refine Wg.skip rfl rfl ?_
          refine Wg.li rfl rfl rfl rfl (fun _ => rfl) ?_
          refine Wg.nil ⟨some_b hv9, ?_, rfl⟩
          repeat (first | exact Env.le_refl _ | refine Env.le_put rfl ?_)
        refine Wg.nil ?_
        refine ⟨fun _ => ?_, fun h => absurd (by decide) h⟩
        refine Wp.cond v13 rfl (fun hb14 => ?_) (fun hb14 => ?_)
        · have hx8 := iT hx8 hb14
          refine Wp.exit ?_
          refine ⟨fun h => absurd h (by decide), fun _ => ?_⟩
          have hx8 := Option.some.inj hx8
          subst hx8
          exact ⟨by decide, (Sub.canon [some 0] [ownT s1.1] [(7, lst eLeg s1.1 (capT s1.1 0)), (8, .int .i64 s1.2.1), (9, .int .i64 s1.2.2.1)] rfl (by decide) ⟨.grow rfl, trivial⟩ (.grow rfl pLeg rfl (.pure rfl (.int _ _) (.pure rfl (.int _ _) .nil))))⟩
        · have hx8 := iF hx8 hb14
          refine Wp.skip ?_
          refine ⟨fun _ => ?_, fun h => absurd (by decide) h⟩
          refine Wp.seq ?_
          refine Wp.drw _ [6] rfl (by kernel_rfl) (Nat.le_refl _) ?_
          iterate 2 refine Wg.li rfl rfl rfl rfl (fun _ => rfl) ?_
          obtain ⟨v15, hv15, hx8⟩ := ob hx8
          refine Wg.bin (k := .i64) (k2 := .i64) (a := 2) (b := s1.2.2.2.2) rfl rfl rfl rfl rfl (bMul hv15) ?_
          obtain ⟨v16, hv16, hx8⟩ := ob hx8
          refine Wg.bin (k := .i64) (k2 := .i64) (a := v15) (b := 1) rfl rfl rfl rfl rfl (bAdd hv16) ?_
          obtain ⟨v17, hv17, hx8⟩ := ob hx8
          refine Wg.call rfl rfl rfl rfl (s88_ev hv17 _) ?_
          iterate 4 refine Wg.li rfl rfl rfl rfl (fun _ => rfl) ?_
          obtain ⟨v18, hv18, hx8⟩ := ob hx8
          refine Wg.call rfl rfl rfl rfl (s36_ev hv18 _) ?_
          refine Wg.li rfl rfl rfl rfl (fun _ => rfl) ?_
          refine Wg.nil ?_
          refine ⟨fun _ => ?_, fun h => absurd (by decide) h⟩
          refine Wp.seq ?_
          refine Wp.seq ?_
          refine Wp.reg rfl ?_
          iterate 6 refine Wg.li rfl rfl rfl rfl (fun _ => rfl) ?_
          obtain ⟨v22, hv19, hx8⟩ := ob hx8
          refine Wg.grp 4 55 51 v22 (decide (v18 ≥ (a0.trains.length : Int))) rfl rfl (Nat.le_of_ble_eq_true rfl) (fun hb20 => ?_) (fun hb20 => ?_) ?_
          · have hv19 := iT hv19 hb20
            iterate 3 refine Wg.skip rfl rfl ?_
            refine Wg.li rfl rfl rfl rfl (fun _ => rfl) ?_
            refine Wg.nil ⟨some_b hv19, ?_, rfl⟩
            repeat (first | exact Env.le_refl _ | refine Env.le_put rfl ?_)
          · have hv19 := iF hv19 hb20
            iterate 2 refine Wg.li rfl rfl rfl rfl (fun _ => rfl) ?_
            obtain ⟨v21, hv21, hv19⟩ := ob hv19
            refine Wg.call rfl rfl rfl rfl (s87_ev hv21 _) ?_
            refine Wg.li rfl rfl rfl rfl (fun _ => rfl) ?_
            refine Wg.nil ⟨some_b hv19, ?_, rfl⟩
            repeat (first | exact Env.le_refl _ | refine Env.le_put rfl ?_)
          refine Wg.nil ?_
          refine ⟨fun _ => ?_, fun h => absurd (by decide) h⟩
          refine Wp.cond v22 rfl (fun hb23 => ?_) (fun hb23 => ?_)
          · have hx8 := iT hx8 hb23
            refine Wp.exit ?_
            refine ⟨fun h => absurd h (by decide), fun _ => ?_⟩
            have hx8 := Option.some.inj hx8
            subst hx8
            exact ⟨by decide, (Sub.canon [some 0] [ownT s1.1] [(1, lst eInt a1 .unk), (2, .ro (eTable a0)), (7, lst eLeg s1.1 (capT s1.1 0)), (8, .int .i64 s1.2.1), (9, .int .i64 s1.2.2.1), (10, .int .i64 s1.2.2.2.1), (11, .int .i64 s1.2.2.2.2)] rfl (by decide) ⟨.grow rfl, trivial⟩ (.pure rfl (Pure.lst pInt _ pUnk) (.pure rfl (.ro (pTab _)) (.grow rfl pLeg rfl (.pure rfl (.int _ _) (.pure rfl (.int _ _) (.pure rfl (.int _ _) (.pure rfl (.int _ _) .nil))))))))⟩
          · have hx8 := iF hx8 hb23
            refine Wp.skip ?_
            refine ⟨fun _ => ?_, fun h => absurd (by decide) h⟩
            refine Wp.seq ?_
            refine Wp.reg rfl ?_
            iterate 3 refine Wg.li rfl rfl rfl rfl (fun _ => rfl) ?_
            obtain ⟨v24, hv24, hx8⟩ := ob hx8
            refine Wg.idx (f := eTrain) (xs := a0.trains) (c := .unk) rfl rfl rfl rfl rfl rfl rfl lTrain (by decide) hv24 ?_
            iterate 3 refine Wg.li rfl rfl rfl rfl (fun _ => rfl) ?_
            refine Wg.nil ?_
            refine ⟨fun _ => ?_, fun h => absurd (by decide) h⟩
            refine Wp.seq ?_
            refine Wp.reg rfl ?_
            iterate 2 refine Wg.li rfl rfl rfl rfl (fun _ => rfl) ?_
            obtain ⟨v25, hv25, hx8⟩ := ob hx8
            refine Wg.bin (k := .i64) (k2 := .i64) (a := 2) (b := s1.2.2.2.2) rfl rfl rfl rfl rfl (bMul hv25) ?_
            obtain ⟨v26, hv26, hx8⟩ := ob hx8
            refine Wg.bin (k := .i64) (k2 := .i64) (a := v25) (b := 2) rfl rfl rfl rfl rfl (bAdd hv26) ?_
            obtain ⟨v27, hv27, hx8⟩ := ob hx8
            refine Wg.call rfl rfl rfl rfl (s88_ev hv27 _) ?_
            iterate 2 refine Wg.li rfl rfl rfl rfl (fun _ => rfl) ?_
            obtain ⟨v28, hv28, hx8⟩ := ob hx8
            refine Wg.bin (k := .i64) (k2 := .i64) (a := (v24.stops.length : Int)) (b := 1) rfl rfl rfl rfl rfl (bSub hv28) ?_
            obtain ⟨v29, hv29, hx8⟩ := ob hx8
            refine Wg.call rfl rfl rfl rfl (s36_ev hv29 _) ?_
            refine Wg.li rfl rfl rfl rfl (fun _ => rfl) ?_
            refine Wg.nil ?_
            refine ⟨fun _ => ?_, fun h => absurd (by decide) h⟩
            refine Wp.seq ?_
            refine Wp.seq ?_
            refine Wp.reg rfl ?_
            refine Wg.li rfl rfl rfl rfl (fun _ => rfl) ?_
            refine Wg.nil ?_
            refine ⟨fun _ => ?_, fun h => absurd (by decide) h⟩
            refine Wp.block ?_
            obtain ⟨o31, hx32, hx8⟩ := ob hx8
            refine Sub.use (Sub.canon [some 0] [ownT s1.1] [(1, lst eInt a1 .unk), (2, .ro (eTable a0)), (7, lst eLeg s1.1 (capT s1.1 0)), (8, .int .i64 s1.2.1), (9, .int .i64 s1.2.2.1), (10, .int .i64 s1.2.2.2.1), (11, .int .i64 s1.2.2.2.2), (12, .int .i64 v18), (13, lst eStop v24.stops .unk), (14, .int .i64 v29), (15, .int .i64 0)] rfl (by decide) ⟨.grow rfl, trivial⟩ (.pure rfl (Pure.lst pInt _ pUnk) (.pure rfl (.ro (pTab _)) (.grow rfl pLeg rfl (.pure rfl (.int _ _) (.pure rfl (.int _ _) (.pure rfl (.int _ _) (.pure rfl (.int _ _) (.pure rfl (.int _ _) (.pure rfl (Pure.lst pStop _ pUnk) (.pure rfl (.int _ _) (.pure rfl (.int _ _) .nil)))))))))))) ?_
            refine Wp.after (Wp.iterS (s42_l43 N s1 v24) (fun s30 => Env.ofList [(1, lst eInt a1 .unk), (2, .ro (eTable a0)), (7, lst eLeg s1.1 (capT s1.1 0)), (8, .int .i64 s1.2.1), (9, .int .i64 s1.2.2.1), (10, .int .i64 s1.2.2.2.1), (11, .int .i64 s1.2.2.2.2), (12, .int .i64 v18), (13, lst eStop v24.stops .unk), (14, .int .i64 s30.1), (15, .int .i64 s30.2)]) (fun s30 => hp [ownT s1.1]) (fun o31 x e' H' => x = .exit 2 ∧ Sub ctx F42 (Env.ofList [(1, lst eInt a1 .unk), (2, .ro (eTable a0)), (7, lst eLeg s1.1 (capT s1.1 0)), (8, .int .i64 s1.2.1), (9, .int .i64 s1.2.2.1), (10, .int .i64 s1.2.2.2.1), (11, .int .i64 s1.2.2.2.2), (12, .int .i64 v18), (13, lst eStop v24.stops .unk), (14, .int .i64 o31)]) (hp [ownT s1.1]) e' H') ?_ N (v29, 0) _ hx32) ?_
            · intro s30 o ho
              unfold s42_l43 at ho
              refine Wp.seq ?_
              refine Wp.seq ?_
              refine Wp.reg rfl ?_
              iterate 3 refine Wg.li rfl rfl rfl rfl (fun _ => rfl) ?_
              obtain ⟨v36, hv33, ho⟩ := ob ho
              refine Wg.grp 6 79 73 v36 (decide (s1.2.2.1 ≥ 0)) rfl rfl (Nat.le_of_ble_eq_true rfl) (fun hb34 => ?_) (fun hb34 => ?_) ?_
              · have hv33 := iT hv33 hb34
                iterate 3 refine Wg.li rfl rfl rfl rfl (fun _ => rfl) ?_
                obtain ⟨v35, hv35, hv33⟩ := ob hv33
                refine Wg.bin (k := .i64) (k2 := .i64) (a := (v24.stops.length : Int)) (b := 1) rfl rfl rfl rfl rfl (bSub hv35) ?_
                iterate 2 refine Wg.li rfl rfl rfl rfl (fun _ => rfl) ?_
                refine Wg.nil ⟨some_b hv33, ?_, rfl⟩
                repeat (first | exact Env.le_refl _ | refine Env.le_put rfl ?_)
              · have hv33 := iF hv33 hb34
                iterate 5 refine Wg.skip rfl rfl ?_
                refine Wg.li rfl rfl rfl rfl (fun _ => rfl) ?_
                refine Wg.nil ⟨some_b hv33, ?_, rfl⟩
                repeat (first | exact Env.le_refl _ | refine Env.le_put rfl ?_)
              refine Wg.nil ?_
              refine ⟨fun _ => ?_, fun h => absurd (by decide) h⟩
              refine Wp.cond v36 rfl (fun hb37 => ?_) (fun hb37 => ?_)
              · have ho := iT ho hb37
                refine Wp.skip ?_
                refine ⟨fun _ => ?_, fun h => absurd (by decide) h⟩
                refine Wp.seq ?_
                refine Wp.block ?_
                refine Wp.seq ?_
                refine Wp.reg rfl ?_
                iterate 2 refine Wg.li rfl rfl rfl rfl (fun _ => rfl) ?_
                obtain ⟨v38, hv38, ho⟩ := ob ho
                refine Wg.idx (f := eStop) (xs := v24.stops) (c := .unk) rfl rfl rfl rfl rfl rfl rfl lStop (by decide) hv38 ?_
                iterate 4 refine Wg.li rfl rfl rfl rfl (fun _ => rfl) ?_
                refine Wg.nil ?_
                refine ⟨fun _ => ?_, fun h => absurd (by decide) h⟩
                obtain ⟨o39, hx40, ho⟩ := ob ho
                refine Wp.after (Q' := fun x e' H' => x = .normal ∧ Sub ctx F42 (Env.ofList [(1, lst eInt a1 .unk), (2, .ro (eTable a0)), (7, lst eLeg s1.1 (capT s1.1 0)), (8, .int .i64 s1.2.1), (9, .int .i64 s1.2.2.1), (10, .int .i64 s1.2.2.2.1), (11, .int .i64 s1.2.2.2.2), (12, .int .i64 v18), (13, lst eStop v24.stops .unk), (14, .int .i64 o39), (15, .int .i64 s30.2)]) (hp [ownT s1.1]) e' H') ?_ ?_
                · refine Wp.cond (v38.station == s1.2.2.1) rfl (fun hb41 => ?_) (fun hb41 => ?_)
                  · have hx40 := iT hx40 hb41
                    refine Wp.reg rfl ?_
                    iterate 2 refine Wg.li rfl rfl rfl rfl (fun _ => rfl) ?_
                    refine Wg.nil ?_
                    have hx40 := Option.some.inj hx40
                    subst hx40
                    exact ⟨by decide, (Sub.canon [some 0] [ownT s1.1] [(1, lst eInt a1 .unk), (2, .ro (eTable a0)), (7, lst eLeg s1.1 (capT s1.1 0)), (8, .int .i64 s1.2.1), (9, .int .i64 s1.2.2.1), (10, .int .i64 s1.2.2.2.1), (11, .int .i64 s1.2.2.2.2), (12, .int .i64 v18), (13, lst eStop v24.stops .unk), (14, .int .i64 s30.2), (15, .int .i64 s30.2)] rfl (by decide) ⟨.grow rfl, trivial⟩ (.pure rfl (Pure.lst pInt _ pUnk) (.pure rfl (.ro (pTab _)) (.grow rfl pLeg rfl (.pure rfl (.int _ _) (.pure rfl (.int _ _) (.pure rfl (.int _ _) (.pure rfl (.int _ _) (.pure rfl (.int _ _) (.pure rfl (Pure.lst pStop _ pUnk) (.pure rfl (.int _ _) (.pure rfl (.int _ _) .nil))))))))))))⟩
                  · have hx40 := iF hx40 hb41
                    refine Wp.skip ?_
                    have hx40 := Option.some.inj hx40
                    subst hx40
                    exact ⟨by decide, (Sub.canon [some 0] [ownT s1.1] [(1, lst eInt a1 .unk), (2, .ro (eTable a0)), (7, lst eLeg s1.1 (capT s1.1 0)), (8, .int .i64 s1.2.1), (9, .int .i64 s1.2.2.1), (10, .int .i64 s1.2.2.2.1), (11, .int .i64 s1.2.2.2.2), (12, .int .i64 v18), (13, lst eStop v24.stops .unk), (14, .int .i64 s30.1), (15, .int .i64 s30.2)] rfl (by decide) ⟨.grow rfl, trivial⟩ (.pure rfl (Pure.lst pInt _ pUnk) (.pure rfl (.ro (pTab _)) (.grow rfl pLeg rfl (.pure rfl (.int _ _) (.pure rfl (.int _ _) (.pure rfl (.int _ _) (.pure rfl (.int _ _) (.pure rfl (.int _ _) (.pure rfl (Pure.lst pStop _ pUnk) (.pure rfl (.int _ _) (.pure rfl (.int _ _) .nil))))))))))))⟩
                · intro x e' H' hP
                  obtain ⟨hPx, hP2⟩ := hP
                  subst hPx
                  have hP := And.intro (True.intro) hP2
                  refine ⟨fun _ => ?_, fun h => absurd (by decide) h⟩
                  refine Sub.use hP.2 ?_
                  refine Wp.reg rfl ?_
                  refine Wg.li rfl rfl rfl rfl (fun _ => rfl) ?_
                  obtain ⟨v42, hv42, ho⟩ := ob ho
                  refine Wg.bin (k := .i64) (k2 := .i64) (a := s30.2) (b := 1) rfl rfl rfl rfl rfl (bAdd hv42) ?_
                  refine Wg.li rfl rfl rfl rfl (fun _ => rfl) ?_
                  refine Wg.nil ?_
                  have ho := Option.some.inj ho
                  subst ho
                  exact ⟨by decide, (Sub.canon [some 0] [ownT s1.1] [(1, lst eInt a1 .unk), (2, .ro (eTable a0)), (7, lst eLeg s1.1 (capT s1.1 0)), (8, .int .i64 s1.2.1), (9, .int .i64 s1.2.2.1), (10, .int .i64 s1.2.2.2.1), (11, .int .i64 s1.2.2.2.2), (12, .int .i64 v18), (13, lst eStop v24.stops .unk), (14, .int .i64 o39), (15, .int .i64 v42)] rfl (by decide) ⟨.grow rfl, trivial⟩ (.pure rfl (Pure.lst pInt _ pUnk) (.pure rfl (.ro (pTab _)) (.grow rfl pLeg rfl (.pure rfl (.int _ _) (.pure rfl (.int _ _) (.pure rfl (.int _ _) (.pure rfl (.int _ _) (.pure rfl (.int _ _) (.pure rfl (Pure.lst pStop _ pUnk) (.pure rfl (.int _ _) (.pure rfl (.int _ _) .nil))))))))))))⟩
              · have ho := iF ho hb37
                refine Wp.exit ?_
                refine ⟨fun h => absurd h (by decide), fun _ => ?_⟩
                have ho := Option.some.inj ho
                subst ho
                exact ⟨by decide, by decide, (Sub.canon [some 0] [ownT s1.1] [(1, lst eInt a1 .unk), (2, .ro (eTable a0)), (7, lst eLeg s1.1 (capT s1.1 0)), (8, .int .i64 s1.2.1), (9, .int .i64 s1.2.2.1), (10, .int .i64 s1.2.2.2.1), (11, .int .i64 s1.2.2.2.2), (12, .int .i64 v18), (13, lst eStop v24.stops .unk), (14, .int .i64 s30.1)] rfl (by decide) ⟨.grow rfl, trivial⟩ (.pure rfl (Pure.lst pInt _ pUnk) (.pure rfl (.ro (pTab _)) (.grow rfl pLeg rfl (.pure rfl (.int _ _) (.pure rfl (.int _ _) (.pure rfl (.int _ _) (.pure rfl (.int _ _) (.pure rfl (.int _ _) (.pure rfl (Pure.lst pStop _ pUnk) (.pure rfl (.int _ _) .nil)))))))))))⟩
            · intro x e' H' hP
              obtain ⟨hPx, hP2⟩ := hP
              subst hPx
              have hP := And.intro (True.intro) hP2
              refine ⟨fun _ => ?_, fun h => absurd (by decide) h⟩
              refine Sub.use hP.2 ?_
              refine Wp.seq ?_
              refine Wp.seq ?_
              refine Wp.reg rfl ?_
              iterate 3 refine Wg.li rfl rfl rfl rfl (fun _ => rfl) ?_
              obtain ⟨v47, hv44, hx8⟩ := ob hx8
              refine Wg.grp 8 100 92 v47 (decide (s1.2.2.1 ≥ 0)) rfl rfl (Nat.le_of_ble_eq_true rfl) (fun hb45 => ?_) (fun hb45 => ?_) ?_
              · have hv44 := iT hv44 hb45
                iterate 2 refine Wg.li rfl rfl rfl rfl (fun _ => rfl) ?_
                obtain ⟨v46, hv46, hv44⟩ := ob hv44
                refine Wg.idx (f := eStop) (xs := v24.stops) (c := .unk) rfl rfl rfl rfl rfl rfl rfl lStop (by decide) hv46 ?_
                iterate 5 refine Wg.li rfl rfl rfl rfl (fun _ => rfl) ?_
                refine Wg.nil ⟨some_b hv44, ?_, rfl⟩
                repeat (first | exact Env.le_refl _ | refine Env.le_put rfl ?_)
              · have hv44 := iF hv44 hb45
                iterate 7 refine Wg.skip rfl rfl ?_
                refine Wg.li rfl rfl rfl rfl (fun _ => rfl) ?_
                refine Wg.nil ⟨some_b hv44, ?_, rfl⟩
                repeat (first | exact Env.le_refl _ | refine Env.le_put rfl ?_)
              refine Wg.nil ?_
              refine ⟨fun _ => ?_, fun h => absurd (by decide) h⟩
              refine Wp.cond v47 rfl (fun hb48 => ?_) (fun hb48 => ?_)
              · have hx8 := iT hx8 hb48
                refine Wp.exit ?_
                refine ⟨fun h => absurd h (by decide), fun _ => ?_⟩
                have hx8 := Option.some.inj hx8
                subst hx8
                exact ⟨by decide, (Sub.canon [some 0] [ownT s1.1] [(1, lst eInt a1 .unk), (2, .ro (eTable a0)), (7, lst eLeg s1.1 (capT s1.1 0)), (8, .int .i64 s1.2.1), (9, .int .i64 s1.2.2.1), (10, .int .i64 s1.2.2.2.1), (11, .int .i64 s1.2.2.2.2)] rfl (by decide) ⟨.grow rfl, trivial⟩ (.pure rfl (Pure.lst pInt _ pUnk) (.pure rfl (.ro (pTab _)) (.grow rfl pLeg rfl (.pure rfl (.int _ _) (.pure rfl (.int _ _) (.pure rfl (.int _ _) (.pure rfl (.int _ _) .nil))))))))⟩
              · have hx8 := iF hx8 hb48
                refine Wp.skip ?_
                refine ⟨fun _ => ?_, fun h => absurd (by decide) h⟩
                refine Wp.seq ?_
                refine Wp.reg rfl ?_
                refine Wg.li rfl rfl rfl rfl (fun _ => rfl) ?_
                obtain ⟨v49, hv49, hx8⟩ := ob hx8
                refine Wg.bin (k := .i64) (k2 := .i64) (a := o31) (b := 1) rfl rfl rfl rfl rfl (bAdd hv49) ?_
                iterate 2 refine Wg.li rfl rfl rfl rfl (fun _ => rfl) ?_
                obtain ⟨v50, hv50, hx8⟩ := ob hx8
                refine Wg.bin (k := .i64) (k2 := .i64) (a := 2) (b := s1.2.2.2.2) rfl rfl rfl rfl rfl (bMul hv50) ?_
                obtain ⟨v51, hv51, hx8⟩ := ob hx8
                refine Wg.bin (k := .i64) (k2 := .i64) (a := v50) (b := 3) rfl rfl rfl rfl rfl (bAdd hv51) ?_
                obtain ⟨v52, hv52, hx8⟩ := ob hx8
                refine Wg.call rfl rfl rfl rfl (s88_ev hv52 _) ?_
                iterate 2 refine Wg.li rfl rfl rfl rfl (fun _ => rfl) ?_
                obtain ⟨v53, hv53, hx8⟩ := ob hx8
                refine Wg.bin (k := .i64) (k2 := .i64) (a := (v24.stops.length : Int)) (b := 1) rfl rfl rfl rfl rfl (bSub hv53) ?_
                refine Wg.li rfl rfl rfl rfl (fun _ => rfl) ?_
                obtain ⟨v54, hv54, hx8⟩ := ob hx8
                refine Wg.bin (k := .i64) (k2 := .i64) (a := v53) (b := o31) rfl rfl rfl rfl rfl (bSub hv54) ?_
                obtain ⟨v55, hv55, hx8⟩ := ob hx8
                refine Wg.call rfl rfl rfl rfl (s36_ev hv55 _) ?_
                obtain ⟨v56, hv56, hx8⟩ := ob hx8
                refine Wg.bin (k := .i64) (k2 := .i64) (a := v49) (b := v55) rfl rfl rfl rfl rfl (bAdd hv56) ?_
                refine Wg.li rfl rfl rfl rfl (fun _ => rfl) ?_
                refine Wg.nil ?_
                refine ⟨fun _ => ?_, fun h => absurd (by decide) h⟩
                refine Wp.seq ?_
                refine Wp.seq ?_
                refine Wp.reg rfl ?_
                iterate 3 refine Wg.li rfl rfl rfl rfl (fun _ => rfl) ?_
                refine Wg.nil ?_
                refine ⟨fun _ => ?_, fun h => absurd (by decide) h⟩
                obtain ⟨o57, hx58, hx8⟩ := ob hx8
                refine Wp.after (Q' := fun x e' H' => x = .normal ∧ Sub ctx F42 (Env.ofList [(1, lst eInt a1 .unk), (2, .ro (eTable a0)), (7, lst eLeg s1.1 (capT s1.1 0)), (8, .int .i64 o57), (10, .int .i64 s1.2.2.2.1), (11, .int .i64 s1.2.2.2.2), (12, .int .i64 v18), (13, lst eStop v24.stops .unk), (14, .int .i64 o31), (16, .int .i64 v56)]) (hp [ownT s1.1]) e' H') ?_ ?_
                · refine Wp.cond ((s1.1.length : Int) == 0) rfl (fun hb59 => ?_) (fun hb59 => ?_)
                  · have hx58 := iT hx58 hb59
                    refine Wp.reg rfl ?_
                    iterate 2 refine Wg.li rfl rfl rfl rfl (fun _ => rfl) ?_
                    obtain ⟨v60, hv60, hx58⟩ := ob hx58
                    refine Wg.idx (f := eStop) (xs := v24.stops) (c := .unk) rfl rfl rfl rfl rfl rfl rfl lStop (by decide) hv60 ?_
                    iterate 3 refine Wg.li rfl rfl rfl rfl (fun _ => rfl) ?_
                    refine Wg.nil ?_
                    have hx58 := Option.some.inj hx58
                    subst hx58
                    exact ⟨by decide, (Sub.canon [some 0] [ownT s1.1] [(1, lst eInt a1 .unk), (2, .ro (eTable a0)), (7, lst eLeg s1.1 (capT s1.1 0)), (8, .int .i64 v60.station), (10, .int .i64 s1.2.2.2.1), (11, .int .i64 s1.2.2.2.2), (12, .int .i64 v18), (13, lst eStop v24.stops .unk), (14, .int .i64 o31), (16, .int .i64 v56)] rfl (by decide) ⟨.grow rfl, trivial⟩ (.pure rfl (Pure.lst pInt _ pUnk) (.pure rfl (.ro (pTab _)) (.grow rfl pLeg rfl (.pure rfl (.int _ _) (.pure rfl (.int _ _) (.pure rfl (.int _ _) (.pure rfl (.int _ _) (.pure rfl (Pure.lst pStop _ pUnk) (.pure rfl (.int _ _) (.pure rfl (.int _ _) .nil)))))))))))⟩
                  · have hx58 := iF hx58 hb59
                    refine Wp.skip ?_
                    have hx58 := Option.some.inj hx58
                    subst hx58
                    exact ⟨by decide, (Sub.canon [some 0] [ownT s1.1] [(1, lst eInt a1 .unk), (2, .ro (eTable a0)), (7, lst eLeg s1.1 (capT s1.1 0)), (8, .int .i64 s1.2.1), (10, .int .i64 s1.2.2.2.1), (11, .int .i64 s1.2.2.2.2), (12, .int .i64 v18), (13, lst eStop v24.stops .unk), (14, .int .i64 o31), (16, .int .i64 v56)] rfl (by decide) ⟨.grow rfl, trivial⟩ (.pure rfl (Pure.lst pInt _ pUnk) (.pure rfl (.ro (pTab _)) (.grow rfl pLeg rfl (.pure rfl (.int _ _) (.pure rfl (.int _ _) (.pure rfl (.int _ _) (.pure rfl (.int _ _) (.pure rfl (Pure.lst pStop _ pUnk) (.pure rfl (.int _ _) (.pure rfl (.int _ _) .nil)))))))))))⟩
                · intro x e' H' hP
                  obtain ⟨hPx, hP2⟩ := hP
                  subst hPx
                  have hP := And.intro (True.intro) hP2
                  refine ⟨fun _ => ?_, fun h => absurd (by decide) h⟩
                  refine Sub.use hP.2 ?_
                  refine Wp.drw _ [11] rfl (by kernel_rfl) (Nat.le_refl _) ?_
                  iterate 4 refine Wg.li rfl rfl rfl rfl (fun _ => rfl) ?_
                  obtain ⟨v61, hv61, hx8⟩ := ob hx8
                  refine Wg.call rfl rfl rfl rfl (s49_ev hv61 _) ?_
                  refine Wg.li rfl rfl rfl rfl (fun _ => rfl) ?_
                  obtain ⟨v62, hv62, hx8⟩ := ob hx8
                  refine Wg.appG (k := 0) (f := eLeg) (xs := s1.1) (ys := [v61]) (c2 := .full) (Nat.le_of_ble_eq_true rfl) rfl rfl rfl rfl rfl rfl rfl rfl rfl lLeg (by decide) (by decide) (by simp) rfl hv62 ?_
                  iterate 2 refine Wg.li rfl rfl rfl rfl (fun _ => rfl) ?_
                  obtain ⟨v63, hv63, hx8⟩ := ob hx8
                  refine Wg.idx (f := eStop) (xs := v24.stops) (c := .unk) rfl rfl rfl rfl rfl rfl rfl lStop (by decide) hv63 ?_
                  iterate 4 refine Wg.li rfl rfl rfl rfl (fun _ => rfl) ?_
                  obtain ⟨v64, hv64, hx8⟩ := ob hx8
                  refine Wg.bin (k := .i64) (k2 := .i64) (a := 1) (b := v18) rfl rfl rfl rfl rfl (bShl hv64) ?_
                  refine Wg.bin (k := .i64) (k2 := .i64) (a := s1.2.2.2.1) (b := v64) rfl rfl rfl rfl rfl bOr ?_
                  iterate 3 refine Wg.li rfl rfl rfl rfl (fun _ => rfl) ?_
                  refine Wg.nil ?_
                  have hx8 := Option.some.inj hx8
                  subst hx8
                  exact ⟨by decide, (Sub.canon [some 1] [ownT v62] [(1, lst eInt a1 .unk), (2, .ro (eTable a0)), (7, lst eLeg v62 (capT v62 0)), (8, .int .i64 o57), (9, .int .i64 v63.station), (10, .int .i64 (orC s1.2.2.2.1 v64)), (11, .int .i64 s1.2.2.2.2)] rfl (by decide) ⟨.grow rfl, trivial⟩ (.pure rfl (Pure.lst pInt _ pUnk) (.pure rfl (.ro (pTab _)) (.grow rfl pLeg rfl (.pure rfl (.int _ _) (.pure rfl (.int _ _) (.pure rfl (.int _ _) (.pure rfl (.int _ _) .nil))))))))⟩
      · intro x e' H' hP
        rcases o7 with s65 | s67
        · obtain ⟨hPx, hP2⟩ := hP
          subst hPx
          have hP := And.intro (True.intro) hP2
          refine ⟨fun _ => ?_, fun h => absurd (by decide) h⟩
          refine Sub.use hP.2 ?_
          refine Wp.reg rfl ?_
          refine Wg.li rfl rfl rfl rfl (fun _ => rfl) ?_
          obtain ⟨v66, hv66, ho⟩ := ob ho
          refine Wg.bin (k := .i64) (k2 := .i64) (a := s1.2.2.2.2) (b := 1) rfl rfl rfl rfl rfl (bAdd hv66) ?_
          refine Wg.li rfl rfl rfl rfl (fun _ => rfl) ?_
          refine Wg.nil ?_
          have ho := Option.some.inj ho
          subst ho
          exact ⟨by decide, (Sub.canon [some 0] [ownT s65.1] [(1, lst eInt a1 .unk), (2, .ro (eTable a0)), (7, lst eLeg s65.1 (capT s65.1 0)), (8, .int .i64 s65.2.1), (9, .int .i64 s65.2.2.1), (10, .int .i64 s65.2.2.2), (11, .int .i64 v66)] rfl (by decide) ⟨.grow rfl, trivial⟩ (.pure rfl (Pure.lst pInt _ pUnk) (.pure rfl (.ro (pTab _)) (.grow rfl pLeg rfl (.pure rfl (.int _ _) (.pure rfl (.int _ _) (.pure rfl (.int _ _) (.pure rfl (.int _ _) .nil))))))))⟩
        · obtain ⟨hPx, hP2⟩ := hP
          subst hPx
          have hP := And.intro (True.intro) hP2
          refine ⟨fun h => absurd h (by decide), fun _ => ?_⟩
          have ho := Option.some.inj ho
          subst ho
          exact ⟨by decide, by decide, (Sub.trans hP.2 (Sub.canon [some 0] [ownT s1.1] [(7, lst eLeg s1.1 (capT s1.1 0)), (8, .int .i64 s1.2.1), (9, .int .i64 s1.2.2.1)] rfl (by decide) ⟨.grow rfl, trivial⟩ (.grow rfl pLeg rfl (.pure rfl (.int _ _) (.pure rfl (.int _ _) .nil)))))⟩
    · have ho := iF ho hb6
      refine Wp.exit ?_
      refine ⟨fun h => absurd h (by decide), fun _ => ?_⟩
      have ho := Option.some.inj ho
      subst ho
      exact ⟨by decide, by decide, (Sub.canon [some 0] [ownT s1.1] [(7, lst eLeg s1.1 (capT s1.1 0)), (8, .int .i64 s1.2.1), (9, .int .i64 s1.2.2.1)] rfl (by decide) ⟨.grow rfl, trivial⟩ (.grow rfl pLeg rfl (.pure rfl (.int _ _) (.pure rfl (.int _ _) .nil))))⟩
  · intro x e' H' hP
    obtain ⟨hPx, hP2⟩ := hP
    subst hPx
    have hP := And.intro (True.intro) hP2
    refine ⟨fun _ => ?_, fun h => absurd (by decide) h⟩
    refine Sub.use hP.2 ?_
    refine Wp.seq ?_
    refine Wp.reg rfl ?_
    iterate 6 refine Wg.li rfl rfl rfl rfl (fun _ => rfl) ?_
    refine Wg.nil ?_
    refine ⟨fun _ => ?_, fun h => absurd (by decide) h⟩
    refine Sub.use (Sub.canon [] [] [(4, lst eLeg o2.1 .unk), (5, .int .i64 o2.2.1), (6, .int .i64 o2.2.2)] rfl (by decide) trivial (.unk (c := (capT o2.1 0)) rfl pLeg (.pure rfl (.int _ _) (.pure rfl (.int _ _) .nil)))) ?_
    refine Wp.ret ?_
    have h := Option.some.inj h
    subst h
    exact ⟨.inr (by decide), _, rfl, rfl⟩
end Go.Abs.Tr
