/- Printed walks: the reference, all routes. Conditions: none. -/
import Derived.Test.YtdlofkamkiojlaaDoorGb
set_option maxRecDepth 100000
set_option maxHeartbeats 1000000
set_option linter.unusedVariables false
namespace Go.Abs.Tr
open Go Go.Abs Go.Proofs
def s108_l18 (N : Nat) (a0 : Table) (s1 : (List Leg) × Int) (s5 : (List Leg) × Int) (s11 : (List Leg) × Int) : Option (((List Leg) × Int) ⊕ ((List Leg))) :=
  (ix a0.trains s1.2).bind fun v14 =>
  if (decide (s11.2 < (v14.stops.length : Int))) then
    (ap 24 s11.1 ([(Leg.mk s1.2 s5.2 s11.2)])).bind fun v16 =>
    (ck (s11.2 + 1)).bind fun v17 =>
    some (.inl (v16, v17))
  else
    some (.inr s11.1)
def s108_l20 (N : Nat) (a0 : Table) (s1 : (List Leg) × Int) (s5 : (List Leg) × Int) : Option (((List Leg) × Int) ⊕ ((List Leg))) :=
  (ix a0.trains s1.2).bind fun v8 =>
  if (decide (s5.2 < (v8.stops.length : Int))) then
    (ck (s5.2 + 1)).bind fun v10 =>
    (iter (s108_l18 N a0 s1 s5) N (s5.1, v10)).bind fun o12 =>
    (ck (s5.2 + 1)).bind fun v19 =>
    some (.inl (o12, v19))
  else
    some (.inr s5.1)
def s108_l22 (N : Nat) (a0 : Table) (s1 : (List Leg) × Int) : Option (((List Leg) × Int) ⊕ ((List Leg))) :=
  if (decide (s1.2 < (a0.trains.length : Int))) then
    (iter (s108_l20 N a0 s1) N (s1.1, 0)).bind fun o6 =>
    (ck (s1.2 + 1)).bind fun v21 =>
    some (.inl (o6, v21))
  else
    some (.inr s1.1)
def s108 (N : Nat) (a0 : Table) : Option ((List Leg)) :=
  (iter (s108_l22 N a0) N ([], 0)).bind fun o2 =>
  some o2
abbrev F108 : Fr := { r := false, N := 46, m := 0 }
theorem at108 : ctx.P.funcs[108]? = some Tryd.f108 := by kernel_rfl
theorem s108_ev {N : Nat} {a0 : Table} {r : (List Leg)} (h : s108 N a0 = some r) : ∀ H, Ev ctx (.call 108 [.agg (eTable a0)] H (lst eLeg r .unk) H) := by
  refine Ev.of_pure at108 rfl rfl (Nat.le_of_ble_eq_true rfl) (pCons (pv (pTab _)) pNil) (Pure.lst pLeg _ pUnk) ?_
  unfold s108 at h
  refine Wp.seq ?_
  refine Wp.reg rfl ?_
  refine Wg.box rfl rfl rfl rfl ?_
  refine Wg.li rfl rfl rfl rfl (fun _ => rfl) ?_
  refine Wg.nil ?_
  refine ⟨fun _ => ?_, fun h => absurd (by decide) h⟩
  refine Wp.seq ?_
  refine Wp.reg rfl ?_
  refine Wg.li rfl rfl rfl rfl (fun _ => rfl) ?_
  refine Wg.nil ?_
  refine ⟨fun _ => ?_, fun h => absurd (by decide) h⟩
  refine Wp.seq ?_
  refine Wp.seq ?_
  refine Wp.reg rfl ?_
  refine Wg.li rfl rfl rfl rfl (fun _ => rfl) ?_
  refine Wg.nil ?_
  refine ⟨fun _ => ?_, fun h => absurd (by decide) h⟩
  refine Wp.block ?_
  obtain ⟨o2, hx3, h⟩ := ob h
  refine Sub.use (Sub.canon [none] [.gone] [(1, .ro (eTable a0)), (3, lst eLeg [] (capT [] 0)), (4, .int .i64 0)] rfl (by decide) trivial (.pure rfl (.ro (pTab _)) (.grow0 rfl (.pure rfl (.int _ _) .nil)))) ?_
  refine Wp.after (Wp.iterS (s108_l22 N a0) (fun s1 => Env.ofList [(1, .ro (eTable a0)), (3, lst eLeg s1.1 (capT s1.1 0)), (4, .int .i64 s1.2)]) (fun s1 => hp [ownT s1.1]) (fun o2 x e' H' => x = .exit 0 ∧ Sub ctx F108 (Env.ofList [(3, lst eLeg o2 (capT o2 0))]) (hp [ownT o2]) e' H') ?_ N ([], 0) _ hx3) ?_
  · intro s1 o ho
    unfold s108_l22 at ho
    refine Wp.seq ?_
    refine Wp.seq ?_
    refine Wp.reg rfl ?_
    iterate 5 refine Wg.li rfl rfl rfl rfl (fun _ => rfl) ?_
    refine Wg.nil ?_
    refine ⟨fun _ => ?_, fun h => absurd (by decide) h⟩
    refine Wp.cond (decide (s1.2 < (a0.trains.length : Int))) rfl (fun hb4 => ?_) (fun hb4 => ?_)
    · have ho := iT ho hb4
      refine Wp.skip ?_
      refine ⟨fun _ => ?_, fun h => absurd (by decide) h⟩
      refine Wp.seq ?_
      refine Wp.block ?_
      refine Wp.seq ?_
      refine Wp.reg rfl ?_
      refine Wg.li rfl rfl rfl rfl (fun _ => rfl) ?_
      refine Wg.nil ?_
      refine ⟨fun _ => ?_, fun h => absurd (by decide) h⟩
      refine Wp.block ?_
      obtain ⟨o6, hx7, ho⟩ := ob ho
      refine Sub.use (Sub.canon [some 0] [ownT s1.1] [(1, .ro (eTable a0)), (3, lst eLeg s1.1 (capT s1.1 0)), (4, .int .i64 s1.2), (5, .int .i64 0)] rfl (by decide) ⟨.grow rfl, trivial⟩ (.pure rfl (.ro (pTab _)) (.grow rfl pLeg rfl (.pure rfl (.int _ _) (.pure rfl (.int _ _) .nil))))) ?_
      refine Wp.after (Wp.iterS (s108_l20 N a0 s1) (fun s5 => Env.ofList [(1, .ro (eTable a0)), (3, lst eLeg s5.1 (capT s5.1 0)), (4, .int .i64 s1.2), (5, .int .i64 s5.2)]) (fun s5 => hp [ownT s5.1]) (fun o6 x e' H' => x = .exit 2 ∧ Sub ctx F108 (Env.ofList [(1, .ro (eTable a0)), (3, lst eLeg o6 (capT o6 0)), (4, .int .i64 s1.2)]) (hp [ownT o6]) e' H') ?_ N (s1.1, 0) _ hx7) ?_
      · intro s5 o ho
        unfold s108_l20 at ho
        refine Wp.seq ?_
        refine Wp.seq ?_
        refine Wp.reg rfl ?_
        iterate 4 refine Wg.li rfl rfl rfl rfl (fun _ => rfl) ?_
        obtain ⟨v8, hv8, ho⟩ := ob ho
        refine Wg.idx (f := eTrain) (xs := a0.trains) (c := .unk) rfl rfl rfl rfl rfl rfl rfl lTrain (by decide) hv8 ?_
        iterate 4 refine Wg.li rfl rfl rfl rfl (fun _ => rfl) ?_
        refine Wg.nil ?_
        refine ⟨fun _ => ?_, fun h => absurd (by decide) h⟩
        refine Wp.cond (decide (s5.2 < (v8.stops.length : Int))) rfl (fun hb9 => ?_) (fun hb9 => ?_)
        · have ho := iT ho hb9
          refine Wp.skip ?_
          refine ⟨fun _ => ?_, fun h => absurd (by decide) h⟩
          refine Wp.seq ?_
          refine Wp.block ?_
          refine Wp.seq ?_
          refine Wp.reg rfl ?_
          refine Wg.li rfl rfl rfl rfl (fun _ => rfl) ?_
          obtain ⟨v10, hv10, ho⟩ := ob ho
          refine Wg.bin (k := .i64) (k2 := .i64) (a := s5.2) (b := 1) rfl rfl rfl rfl rfl (bAdd hv10) ?_
          refine Wg.li rfl rfl rfl rfl (fun _ => rfl) ?_
          refine Wg.nil ?_
          refine ⟨fun _ => ?_, fun h => absurd (by decide) h⟩
          refine Wp.block ?_
          obtain ⟨o12, hx13, ho⟩ := ob ho
          refine Sub.use (Sub.canon [some 0] [ownT s5.1] [(1, .ro (eTable a0)), (3, lst eLeg s5.1 (capT s5.1 0)), (4, .int .i64 s1.2), (5, .int .i64 s5.2), (6, .int .i64 v10)] rfl (by decide) ⟨.grow rfl, trivial⟩ (.pure rfl (.ro (pTab _)) (.grow rfl pLeg rfl (.pure rfl (.int _ _) (.pure rfl (.int _ _) (.pure rfl (.int _ _) .nil)))))) ?_
          refine Wp.after (Wp.iterS (s108_l18 N a0 s1 s5) (fun s11 => Env.ofList [(1, .ro (eTable a0)), (3, lst eLeg s11.1 (capT s11.1 0)), (4, .int .i64 s1.2), (5, .int .i64 s5.2), (6, .int .i64 s11.2)]) (fun s11 => hp [ownT s11.1]) (fun o12 x e' H' => x = .exit 4 ∧ Sub ctx F108 (Env.ofList [(1, .ro (eTable a0)), (3, lst eLeg o12 (capT o12 0)), (4, .int .i64 s1.2), (5, .int .i64 s5.2)]) (hp [ownT o12]) e' H') ?_ N (s5.1, v10) _ hx13) ?_
          · intro s11 o ho
            unfold s108_l18 at ho
            refine Wp.seq ?_
            refine Wp.seq ?_
            refine Wp.reg rfl ?_
            iterate 4 refine Wg.li rfl rfl rfl rfl (fun _ => rfl) ?_
            obtain ⟨v14, hv14, ho⟩ := ob ho
            refine Wg.idx (f := eTrain) (xs := a0.trains) (c := .unk) rfl rfl rfl rfl rfl rfl rfl lTrain (by decide) hv14 ?_
            iterate 4 refine Wg.li rfl rfl rfl rfl (fun _ => rfl) ?_
            refine Wg.nil ?_
            refine ⟨fun _ => ?_, fun h => absurd (by decide) h⟩
            refine Wp.cond (decide (s11.2 < (v14.stops.length : Int))) rfl (fun hb15 => ?_) (fun hb15 => ?_)
            · have ho := iT ho hb15
              refine Wp.skip ?_
              refine ⟨fun _ => ?_, fun h => absurd (by decide) h⟩
              refine Wp.seq ?_
              refine Wp.block ?_
              refine Wp.reg rfl ?_
              iterate 6 refine Wg.li rfl rfl rfl rfl (fun _ => rfl) ?_
              obtain ⟨v16, hv16, ho⟩ := ob ho
              refine Wg.appG (k := 0) (f := eLeg) (xs := s11.1) (ys := [(Leg.mk s1.2 s5.2 s11.2)]) (c2 := .full) (Nat.le_of_ble_eq_true rfl) rfl rfl rfl rfl rfl rfl rfl rfl rfl lLeg (by decide) (by decide) (by simp) rfl hv16 ?_
              refine Wg.li rfl rfl rfl rfl (fun _ => rfl) ?_
              refine Wg.nil ?_
              refine ⟨fun _ => ?_, fun h => absurd (by decide) h⟩
              refine Wp.reg rfl ?_
              refine Wg.li rfl rfl rfl rfl (fun _ => rfl) ?_
              obtain ⟨v17, hv17, ho⟩ := ob ho
              refine Wg.bin (k := .i64) (k2 := .i64) (a := s11.2) (b := 1) rfl rfl rfl rfl rfl (bAdd hv17) ?_
              refine Wg.li rfl rfl rfl rfl (fun _ => rfl) ?_
              refine Wg.nil ?_
              have ho := Option.some.inj ho
              subst ho
              exact ⟨by decide, (Sub.canon [some 1] [ownT v16] [(1, .ro (eTable a0)), (3, lst eLeg v16 (capT v16 0)), (4, .int .i64 s1.2), (5, .int .i64 s5.2), (6, .int .i64 v17)] rfl (by decide) ⟨.grow rfl, trivial⟩ (.pure rfl (.ro (pTab _)) (.grow rfl pLeg rfl (.pure rfl (.int _ _) (.pure rfl (.int _ _) (.pure rfl (.int _ _) .nil))))))⟩
            · have ho := iF ho hb15
              refine Wp.exit ?_
              refine ⟨fun h => absurd h (by decide), fun _ => ?_⟩
              have ho := Option.some.inj ho
              subst ho
              exact ⟨by decide, by decide, (Sub.canon [some 0] [ownT s11.1] [(1, .ro (eTable a0)), (3, lst eLeg s11.1 (capT s11.1 0)), (4, .int .i64 s1.2), (5, .int .i64 s5.2)] rfl (by decide) ⟨.grow rfl, trivial⟩ (.pure rfl (.ro (pTab _)) (.grow rfl pLeg rfl (.pure rfl (.int _ _) (.pure rfl (.int _ _) .nil)))))⟩
          · intro x e' H' hP
            obtain ⟨hPx, hP2⟩ := hP
            subst hPx
            have hP := And.intro (True.intro) hP2
            refine ⟨fun _ => ?_, fun h => absurd (by decide) h⟩
            refine Sub.use hP.2 ?_
            refine Wp.reg rfl ?_
            refine Wg.li rfl rfl rfl rfl (fun _ => rfl) ?_
            obtain ⟨v19, hv19, ho⟩ := ob ho
            refine Wg.bin (k := .i64) (k2 := .i64) (a := s5.2) (b := 1) rfl rfl rfl rfl rfl (bAdd hv19) ?_
            refine Wg.li rfl rfl rfl rfl (fun _ => rfl) ?_
            refine Wg.nil ?_
            have ho := Option.some.inj ho
            subst ho
            exact ⟨by decide, (Sub.canon [some 0] [ownT o12] [(1, .ro (eTable a0)), (3, lst eLeg o12 (capT o12 0)), (4, .int .i64 s1.2), (5, .int .i64 v19)] rfl (by decide) ⟨.grow rfl, trivial⟩ (.pure rfl (.ro (pTab _)) (.grow rfl pLeg rfl (.pure rfl (.int _ _) (.pure rfl (.int _ _) .nil)))))⟩
        · have ho := iF ho hb9
          refine Wp.exit ?_
          refine ⟨fun h => absurd h (by decide), fun _ => ?_⟩
          have ho := Option.some.inj ho
          subst ho
          exact ⟨by decide, by decide, (Sub.canon [some 0] [ownT s5.1] [(1, .ro (eTable a0)), (3, lst eLeg s5.1 (capT s5.1 0)), (4, .int .i64 s1.2)] rfl (by decide) ⟨.grow rfl, trivial⟩ (.pure rfl (.ro (pTab _)) (.grow rfl pLeg rfl (.pure rfl (.int _ _) .nil))))⟩
      · intro x e' H' hP
        obtain ⟨hPx, hP2⟩ := hP
        subst hPx
        have hP := And.intro (True.intro) hP2
        refine ⟨fun _ => ?_, fun h => absurd (by decide) h⟩
        refine Sub.use hP.2 ?_
        refine Wp.reg rfl ?_
        refine Wg.li rfl rfl rfl rfl (fun _ => rfl) ?_
        obtain ⟨v21, hv21, ho⟩ := ob ho
        refine Wg.bin (k := .i64) (k2 := .i64) (a := s1.2) (b := 1) rfl rfl rfl rfl rfl (bAdd hv21) ?_
        refine Wg.li rfl rfl rfl rfl (fun _ => rfl) ?_
        refine Wg.nil ?_
        have ho := Option.some.inj ho
        subst ho
        exact ⟨by decide, (Sub.canon [some 0] [ownT o6] [(1, .ro (eTable a0)), (3, lst eLeg o6 (capT o6 0)), (4, .int .i64 v21)] rfl (by decide) ⟨.grow rfl, trivial⟩ (.pure rfl (.ro (pTab _)) (.grow rfl pLeg rfl (.pure rfl (.int _ _) .nil))))⟩
    · have ho := iF ho hb4
      refine Wp.exit ?_
      refine ⟨fun h => absurd h (by decide), fun _ => ?_⟩
      have ho := Option.some.inj ho
      subst ho
      exact ⟨by decide, by decide, (Sub.canon [some 0] [ownT s1.1] [(3, lst eLeg s1.1 (capT s1.1 0))] rfl (by decide) ⟨.grow rfl, trivial⟩ (.grow rfl pLeg rfl .nil))⟩
  · intro x e' H' hP
    obtain ⟨hPx, hP2⟩ := hP
    subst hPx
    have hP := And.intro (True.intro) hP2
    refine ⟨fun _ => ?_, fun h => absurd (by decide) h⟩
    refine Sub.use hP.2 ?_
    refine Wp.seq ?_
    refine Wp.reg rfl ?_
    iterate 2 refine Wg.li rfl rfl rfl rfl (fun _ => rfl) ?_
    refine Wg.nil ?_
    refine ⟨fun _ => ?_, fun h => absurd (by decide) h⟩
    refine Sub.use (Sub.canon [] [] [(2, lst eLeg o2 .unk)] rfl (by decide) trivial (.unk (c := (capT o2 0)) rfl pLeg .nil)) ?_
    refine Wp.ret ?_
    have h := Option.some.inj h
    subst h
    exact ⟨.inr (by decide), _, rfl, rfl⟩
def s102_l22 (N : Nat) (a0 : Table) (s2 : (List (List Leg)) × (List (List Leg)) × Int) (s6 : (List (List Leg)) × Int) (s10 : Int × Int × Int) : Option ((Int × Int × Int) ⊕ ((Int × Int))) :=
  (ix s2.2.1 s6.2).bind fun v13 =>
  if (decide (s10.2.2 < (v13.length : Int))) then
    (ix s2.2.1 s6.2).bind fun v15 =>
    (ix v15 s10.2.2).bind fun v16 =>
    (s74 N a0 v16).bind fun v17 =>
    (ix s2.2.1 s6.2).bind fun v18 =>
    (ix v18 s10.2.2).bind fun v19 =>
    (shlC 1 v19.train).bind fun v20 =>
    (ck (s10.2.2 + 1)).bind fun v21 =>
    some (.inl (v17.station, (orC s10.2.1 v20), v21))
  else
    some (.inr (s10.1, s10.2.1))
def s102_l49 (N : Nat) (a0 : Table) (v1 : (List Leg)) (s2 : (List (List Leg)) × (List (List Leg)) × Int) (s6 : (List (List Leg)) × Int) (o11 : Int × Int) (s23 : (List (List Leg)) × Int) : Option (((List (List Leg)) × Int) ⊕ ((List (List Leg)))) :=
  if (decide (s23.2 < (v1.length : Int))) then
    (ix v1 s23.2).bind fun v27 =>
    (s87 N o11.2 v27.train).bind fun v28 =>
    (if (!v28) then 
      (ix v1 s23.2).bind fun v31 =>
      (s72 N a0 v31).bind fun v32 =>
      some (v32.station == o11.1)
     else some false).bind fun v33 =>
    (if v33 then
      ((ix s2.2.1 s6.2).bind fun v39 =>
      (ap 24 ([]) v39).bind fun v40 =>
      if v39.isEmpty then
        (ix v1 s23.2).bind fun v42 =>
        (ap 24 ([]) ([v42])).bind fun v43 =>
        (ap 24 s23.1 ([v43])).bind fun v44 =>
        some v44
      else
        (ix v1 s23.2).bind fun v45 =>
        (ap 24 v40 ([v45])).bind fun v46 =>
        (ap 24 s23.1 ([v46])).bind fun v47 =>
        some v47).bind fun o37 =>
      some o37
    else
      some s23.1).bind fun o34 =>
    (ck (s23.2 + 1)).bind fun v48 =>
    some (.inl (o34, v48))
  else
    some (.inr s23.1)
def s102_l51 (N : Nat) (a0 : Table) (a1 : Int) (v1 : (List Leg)) (s2 : (List (List Leg)) × (List (List Leg)) × Int) (s6 : (List (List Leg)) × Int) : Option (((List (List Leg)) × Int) ⊕ ((List (List Leg)))) :=
  if (decide (s6.2 < (s2.2.1.length : Int))) then
    (iter (s102_l22 N a0 s2 s6) N (a1, 0, 0)).bind fun o11 =>
    (iter (s102_l49 N a0 v1 s2 s6 o11) N (s6.1, 0)).bind fun o24 =>
    (ck (s6.2 + 1)).bind fun v50 =>
    some (.inl (o24, v50))
  else
    some (.inr s6.1)
def s102_l57 (N : Nat) (a0 : Table) (a1 : Int) (v1 : (List Leg)) (s2 : (List (List Leg)) × (List (List Leg)) × Int) : Option (((List (List Leg)) × (List (List Leg)) × Int) ⊕ ((List (List Leg)))) :=
  if (decide (s2.2.2 < 4)) then
    (iter (s102_l51 N a0 a1 v1 s2) N ([], 0)).bind fun o7 =>
    ((ap 24 s2.1 o7).bind fun v54 =>
    if o7.isEmpty then
      some s2.1
    else
      some v54).bind fun o52 =>
    (ck (s2.2.2 + 1)).bind fun v56 =>
    some (.inl (o52, o7, v56))
  else
    some (.inr s2.1)
def s102 (N : Nat) (a0 : Table) (a1 : Int) : Option ((List (List Leg))) :=
  (s108 N a0).bind fun v1 =>
  (iter (s102_l57 N a0 a1 v1) N ([], [[]], 0)).bind fun o3 =>
  some o3
abbrev F102 : Fr := { r := false, N := 104, m := 0 }
theorem at102 : ctx.P.funcs[102]? = some Tryd.f102 := by kernel_rfl
theorem s102_ev {N : Nat} {a0 : Table} {a1 : Int} {r : (List (List Leg))} (h : s102 N a0 a1 = some r) : ∀ H, Ev ctx (.call 102 [.agg (eTable a0), .int .i64 a1] H (lst (eLs eLeg) r .unk) H) := by
  refine Ev.of_pure at102 rfl rfl (Nat.le_of_ble_eq_true rfl) (pCons (pv (pTab _)) (pCons (.int _ _) pNil)) (Pure.lst (pLs pLeg) _ pUnk) ?_
  unfold s102 at h
  refine Wp.seq ?_
  refine Wp.reg rfl ?_
  refine Wg.box rfl rfl rfl rfl ?_
  refine Wg.li rfl rfl rfl rfl (fun _ => rfl) ?_
  refine Wg.nil ?_
  refine ⟨fun _ => ?_, fun h => absurd (by decide) h⟩
  refine Wp.seq ?_
  refine Wp.reg rfl ?_
  refine Wg.li rfl rfl rfl rfl (fun _ => rfl) ?_
  obtain ⟨v1, hv1, h⟩ := ob h
  refine Wg.call rfl rfl rfl rfl (s108_ev hv1 _) ?_
  refine Wg.li rfl rfl rfl rfl (fun _ => rfl) ?_
  refine Wg.nil ?_
  refine ⟨fun _ => ?_, fun h => absurd (by decide) h⟩
  refine Wp.seq ?_
  refine Wp.reg rfl ?_
  refine Wg.li rfl rfl rfl rfl (fun _ => rfl) ?_
  refine Wg.nil ?_
  refine ⟨fun _ => ?_, fun h => absurd (by decide) h⟩
  refine Wp.seq ?_
  refine Wp.reg rfl ?_
  iterate 2 refine Wg.li rfl rfl rfl rfl (fun _ => rfl) ?_
  refine Wg.nil ?_
  refine ⟨fun _ => ?_, fun h => absurd (by decide) h⟩
  refine Wp.seq ?_
  refine Wp.seq ?_
  refine Wp.reg rfl ?_
  refine Wg.li rfl rfl rfl rfl (fun _ => rfl) ?_
  refine Wg.nil ?_
  refine ⟨fun _ => ?_, fun h => absurd (by decide) h⟩
  refine Wp.block ?_
  obtain ⟨o3, hx4, h⟩ := ob h
  refine Sub.use (Sub.canon [none, none] [.gone, .gone] [(1, .int .i64 a1), (2, .ro (eTable a0)), (5, lst eLeg v1 .unk), (6, lst (eLs eLeg) [] (capT [] 0)), (7, lst (eLs eLeg) [[]] .unk), (8, .int .i64 0)] rfl (by decide) trivial (.pure rfl (.int _ _) (.pure rfl (.ro (pTab _)) (.pure rfl (Pure.lst pLeg _ pUnk) (.grow0 rfl (.wk rfl (.unk (.cons (.unk (.refl _)) .nil)) (Pure.lst (pLs pLeg) _ pUnk) (.pure rfl (.int _ _) .nil))))))) ?_
  refine Wp.after (Wp.iterS (s102_l57 N a0 a1 v1) (fun s2 => Env.ofList [(1, .int .i64 a1), (2, .ro (eTable a0)), (5, lst eLeg v1 .unk), (6, lst (eLs eLeg) s2.1 (capT s2.1 0)), (7, lst (eLs eLeg) s2.2.1 .unk), (8, .int .i64 s2.2.2)]) (fun s2 => hp [ownT s2.1, .gone]) (fun o3 x e' H' => x = .exit 0 ∧ Sub ctx F102 (Env.ofList [(6, lst (eLs eLeg) o3 (capT o3 0))]) (hp [ownT o3, .gone]) e' H') ?_ N ([], [[]], 0) _ hx4) ?_
  · intro s2 o ho
    unfold s102_l57 at ho
    refine Wp.seq ?_
    refine Wp.seq ?_
    refine Wp.reg rfl ?_
    iterate 2 refine Wg.li rfl rfl rfl rfl (fun _ => rfl) ?_
    refine Wg.nil ?_
    refine ⟨fun _ => ?_, fun h => absurd (by decide) h⟩
    refine Wp.cond (decide (s2.2.2 < 4)) rfl (fun hb5 => ?_) (fun hb5 => ?_)
    · have ho := iT ho hb5
      refine Wp.skip ?_
      refine ⟨fun _ => ?_, fun h => absurd (by decide) h⟩
      refine Wp.seq ?_
      refine Wp.block ?_
      refine Wp.seq ?_
      refine Wp.reg rfl ?_
      refine Wg.li rfl rfl rfl rfl (fun _ => rfl) ?_
      refine Wg.nil ?_
      refine ⟨fun _ => ?_, fun h => absurd (by decide) h⟩
      refine Wp.seq ?_
      refine Wp.seq ?_
      refine Wp.reg rfl ?_
      refine Wg.li rfl rfl rfl rfl (fun _ => rfl) ?_
      refine Wg.nil ?_
      refine ⟨fun _ => ?_, fun h => absurd (by decide) h⟩
      refine Wp.block ?_
      obtain ⟨o7, hx8, ho⟩ := ob ho
      refine Sub.use (Sub.canon [some 0, none] [ownT s2.1, .gone] [(1, .int .i64 a1), (2, .ro (eTable a0)), (5, lst eLeg v1 .unk), (6, lst (eLs eLeg) s2.1 (capT s2.1 0)), (7, lst (eLs eLeg) s2.2.1 .unk), (8, .int .i64 s2.2.2), (9, lst (eLs eLeg) [] (capT [] 1)), (10, .int .i64 0)] rfl (by decide) ⟨.grow rfl, trivial⟩ (.pure rfl (.int _ _) (.pure rfl (.ro (pTab _)) (.pure rfl (Pure.lst pLeg _ pUnk) (.grow rfl (pLs pLeg) rfl (.pure rfl (Pure.lst (pLs pLeg) _ pUnk) (.pure rfl (.int _ _) (.grow0 rfl (.pure rfl (.int _ _) .nil))))))))) ?_
      refine Wp.after (Wp.iterS (s102_l51 N a0 a1 v1 s2) (fun s6 => Env.ofList [(1, .int .i64 a1), (2, .ro (eTable a0)), (5, lst eLeg v1 .unk), (6, lst (eLs eLeg) s2.1 (capT s2.1 0)), (7, lst (eLs eLeg) s2.2.1 .unk), (8, .int .i64 s2.2.2), (9, lst (eLs eLeg) s6.1 (capT s6.1 1)), (10, .int .i64 s6.2)]) (fun s6 => hp [ownT s2.1, ownT s6.1]) (fun o7 x e' H' => x = .exit 2 ∧ Sub ctx F102 (Env.ofList [(1, .int .i64 a1), (2, .ro (eTable a0)), (5, lst eLeg v1 .unk), (6, lst (eLs eLeg) s2.1 (capT s2.1 0)), (8, .int .i64 s2.2.2), (9, lst (eLs eLeg) o7 (capT o7 1))]) (hp [ownT s2.1, ownT o7]) e' H') ?_ N ([], 0) _ hx8) ?_
      · intro s6 o ho
        unfold s102_l51 at ho
        refine Wp.seq ?_
        refine Wp.seq ?_
        refine Wp.reg rfl ?_
        iterate 4 refine Wg.li rfl rfl rfl rfl (fun _ => rfl) ?_
        refine Wg.nil ?_
        refine ⟨fun _ => ?_, fun h => absurd (by decide) h⟩
        refine Wp.cond (decide (s6.2 < (s2.2.1.length : Int))) rfl (fun hb9 => ?_) (fun hb9 => ?_)
        · have ho := iT ho hb9
          refine Wp.skip ?_
          refine ⟨fun _ => ?_, fun h => absurd (by decide) h⟩
          refine Wp.seq ?_
          refine Wp.block ?_
          refine Wp.seq ?_
          refine Wp.reg rfl ?_
          iterate 2 refine Wg.li rfl rfl rfl rfl (fun _ => rfl) ?_
          refine Wg.nil ?_
          refine ⟨fun _ => ?_, fun h => absurd (by decide) h⟩
          refine Wp.seq ?_
          refine Wp.reg rfl ?_
          refine Wg.li rfl rfl rfl rfl (fun _ => rfl) ?_
          refine Wg.nil ?_
          refine ⟨fun _ => ?_, fun h => absurd (by decide) h⟩
          refine Wp.seq ?_
          refine Wp.seq ?_
          refine Wp.reg rfl ?_
          refine Wg.li rfl rfl rfl rfl (fun _ => rfl) ?_
          refine Wg.nil ?_
          refine ⟨fun _ => ?_, fun h => absurd (by decide) h⟩
          refine Wp.block ?_
          obtain ⟨o11, hx12, ho⟩ := ob ho
          refine Sub.use (Sub.canon [some 0, some 1] [ownT s2.1, ownT s6.1] [(1, .int .i64 a1), (2, .ro (eTable a0)), (5, lst eLeg v1 .unk), (6, lst (eLs eLeg) s2.1 (capT s2.1 0)), (7, lst (eLs eLeg) s2.2.1 .unk), (8, .int .i64 s2.2.2), (9, lst (eLs eLeg) s6.1 (capT s6.1 1)), (10, .int .i64 s6.2), (11, .int .i64 a1), (12, .int .i64 0), (13, .int .i64 0)] rfl (by decide) ⟨.grow rfl, .grow rfl, trivial⟩ (.pure rfl (.int _ _) (.pure rfl (.ro (pTab _)) (.pure rfl (Pure.lst pLeg _ pUnk) (.grow rfl (pLs pLeg) rfl (.pure rfl (Pure.lst (pLs pLeg) _ pUnk) (.pure rfl (.int _ _) (.grow rfl (pLs pLeg) rfl (.pure rfl (.int _ _) (.pure rfl (.int _ _) (.pure rfl (.int _ _) (.pure rfl (.int _ _) .nil)))))))))))) ?_
          refine Wp.after (Wp.iterS (s102_l22 N a0 s2 s6) (fun s10 => Env.ofList [(1, .int .i64 a1), (2, .ro (eTable a0)), (5, lst eLeg v1 .unk), (6, lst (eLs eLeg) s2.1 (capT s2.1 0)), (7, lst (eLs eLeg) s2.2.1 .unk), (8, .int .i64 s2.2.2), (9, lst (eLs eLeg) s6.1 (capT s6.1 1)), (10, .int .i64 s6.2), (11, .int .i64 s10.1), (12, .int .i64 s10.2.1), (13, .int .i64 s10.2.2)]) (fun s10 => hp [ownT s2.1, ownT s6.1]) (fun o11 x e' H' => x = .exit 4 ∧ Sub ctx F102 (Env.ofList [(1, .int .i64 a1), (2, .ro (eTable a0)), (5, lst eLeg v1 .unk), (6, lst (eLs eLeg) s2.1 (capT s2.1 0)), (7, lst (eLs eLeg) s2.2.1 .unk), (8, .int .i64 s2.2.2), (9, lst (eLs eLeg) s6.1 (capT s6.1 1)), (10, .int .i64 s6.2), (11, .int .i64 o11.1), (12, .int .i64 o11.2)]) (hp [ownT s2.1, ownT s6.1]) e' H') ?_ N (a1, 0, 0) _ hx12) ?_
          · intro s10 o ho
            unfold s102_l22 at ho
            refine Wp.seq ?_
            refine Wp.seq ?_
            refine Wp.reg rfl ?_
            iterate 3 refine Wg.li rfl rfl rfl rfl (fun _ => rfl) ?_
            obtain ⟨v13, hv13, ho⟩ := ob ho
            refine Wg.idx (f := (eLs eLeg)) (xs := s2.2.1) (c := .unk) rfl rfl rfl rfl rfl rfl rfl lLs (by decide) hv13 ?_
            iterate 3 refine Wg.li rfl rfl rfl rfl (fun _ => rfl) ?_
            refine Wg.nil ?_
            refine ⟨fun _ => ?_, fun h => absurd (by decide) h⟩
            refine Wp.cond (decide (s10.2.2 < (v13.length : Int))) rfl (fun hb14 => ?_) (fun hb14 => ?_)
            · have ho := iT ho hb14
              refine Wp.skip ?_
              refine ⟨fun _ => ?_, fun h => absurd (by decide) h⟩
              refine Wp.seq ?_
              refine Wp.block ?_
              refine Wp.seq ?_
              refine Wp.drw _ [0, 4, 7] rfl (by kernel_rfl) (Nat.le_refl _) ?_
              iterate 3 refine Wg.li rfl rfl rfl rfl (fun _ => rfl) ?_
              obtain ⟨v15, hv15, ho⟩ := ob ho
              refine Wg.idx (f := (eLs eLeg)) (xs := s2.2.1) (c := .unk) rfl rfl rfl rfl rfl rfl rfl lLs (by decide) hv15 ?_
              iterate 2 refine Wg.li rfl rfl rfl rfl (fun _ => rfl) ?_
              obtain ⟨v16, hv16, ho⟩ := ob ho
              refine Wg.idx (f := eLeg) (xs := v15) (c := .unk) rfl rfl rfl rfl rfl rfl rfl lLeg (by decide) hv16 ?_
              refine Wg.li rfl rfl rfl rfl (fun _ => rfl) ?_
              obtain ⟨v17, hv17, ho⟩ := ob ho
              refine Wg.call rfl rfl rfl rfl (s74_ev hv17 _) ?_
              iterate 2 refine Wg.li rfl rfl rfl rfl (fun _ => rfl) ?_
              refine Wg.nil ?_
              refine ⟨fun _ => ?_, fun h => absurd (by decide) h⟩
              refine Wp.reg rfl ?_
              iterate 3 refine Wg.li rfl rfl rfl rfl (fun _ => rfl) ?_
              obtain ⟨v18, hv18, ho⟩ := ob ho
              refine Wg.idx (f := (eLs eLeg)) (xs := s2.2.1) (c := .unk) rfl rfl rfl rfl rfl rfl rfl lLs (by decide) hv18 ?_
              iterate 2 refine Wg.li rfl rfl rfl rfl (fun _ => rfl) ?_
              obtain ⟨v19, hv19, ho⟩ := ob ho
              refine Wg.idx (f := eLeg) (xs := v18) (c := .unk) rfl rfl rfl rfl rfl rfl rfl lLeg (by decide) hv19 ?_
              iterate 2 refine Wg.li rfl rfl rfl rfl (fun _ => rfl) ?_
              obtain ⟨v20, hv20, ho⟩ := ob ho
              refine Wg.bin (k := .i64) (k2 := .i64) (a := 1) (b := v19.train) rfl rfl rfl rfl rfl (bShl hv20) ?_
              refine Wg.bin (k := .i64) (k2 := .i64) (a := s10.2.1) (b := v20) rfl rfl rfl rfl rfl bOr ?_
              refine Wg.li rfl rfl rfl rfl (fun _ => rfl) ?_
              refine Wg.nil ?_
              refine ⟨fun _ => ?_, fun h => absurd (by decide) h⟩
              refine Wp.reg rfl ?_
              refine Wg.li rfl rfl rfl rfl (fun _ => rfl) ?_
              obtain ⟨v21, hv21, ho⟩ := ob ho
              refine Wg.bin (k := .i64) (k2 := .i64) (a := s10.2.2) (b := 1) rfl rfl rfl rfl rfl (bAdd hv21) ?_
              refine Wg.li rfl rfl rfl rfl (fun _ => rfl) ?_
              refine Wg.nil ?_
              have ho := Option.some.inj ho
              subst ho
              exact ⟨by decide, (Sub.canon [some 0, some 1] [ownT s2.1, ownT s6.1] [(1, .int .i64 a1), (2, .ro (eTable a0)), (5, lst eLeg v1 .unk), (6, lst (eLs eLeg) s2.1 (capT s2.1 0)), (7, lst (eLs eLeg) s2.2.1 .unk), (8, .int .i64 s2.2.2), (9, lst (eLs eLeg) s6.1 (capT s6.1 1)), (10, .int .i64 s6.2), (11, .int .i64 v17.station), (12, .int .i64 (orC s10.2.1 v20)), (13, .int .i64 v21)] rfl (by decide) ⟨.grow rfl, .grow rfl, trivial⟩ (.pure rfl (.int _ _) (.pure rfl (.ro (pTab _)) (.pure rfl (Pure.lst pLeg _ pUnk) (.grow rfl (pLs pLeg) rfl (.pure rfl (Pure.lst (pLs pLeg) _ pUnk) (.pure rfl (.int _ _) (.grow rfl (pLs pLeg) rfl (.pure rfl (.int _ _) (.pure rfl (.int _ _) (.pure rfl (.int _ _) (.pure rfl (.int _ _) .nil))))))))))))⟩
            · have ho := iF ho hb14
              refine Wp.exit ?_
              refine ⟨fun h => absurd h (by decide), fun _ => ?_⟩
              have ho := Option.some.inj ho
              subst ho
              exact ⟨by decide, by decide, (Sub.canon [some 0, some 1] [ownT s2.1, ownT s6.1] [(1, .int .i64 a1), (2, .ro (eTable a0)), (5, lst eLeg v1 .unk), (6, lst (eLs eLeg) s2.1 (capT s2.1 0)), (7, lst (eLs eLeg) s2.2.1 .unk), (8, .int .i64 s2.2.2), (9, lst (eLs eLeg) s6.1 (capT s6.1 1)), (10, .int .i64 s6.2), (11, .int .i64 s10.1), (12, .int .i64 s10.2.1)] rfl (by decide) ⟨.grow rfl, .grow rfl, trivial⟩ (.pure rfl (.int _ _) (.pure rfl (.ro (pTab _)) (.pure rfl (Pure.lst pLeg _ pUnk) (.grow rfl (pLs pLeg) rfl (.pure rfl (Pure.lst (pLs pLeg) _ pUnk) (.pure rfl (.int _ _) (.grow rfl (pLs pLeg) rfl (.pure rfl (.int _ _) (.pure rfl (.int _ _) (.pure rfl (.int _ _) .nil)))))))))))⟩
          · intro x e' H' hP
            obtain ⟨hPx, hP2⟩ := hP
            subst hPx
            have hP := And.intro (True.intro) hP2
            refine ⟨fun _ => ?_, fun h => absurd (by decide) h⟩
            refine Sub.use hP.2 ?_
            refine Wp.seq ?_
            refine Wp.reg rfl ?_
            refine Wg.li rfl rfl rfl rfl (fun _ => rfl) ?_
            refine Wg.nil ?_
            refine ⟨fun _ => ?_, fun h => absurd (by decide) h⟩
            refine Wp.block ?_
            obtain ⟨o24, hx25, ho⟩ := ob ho
            refine Sub.use (Sub.canon [some 0, some 1] [ownT s2.1, ownT s6.1] [(1, .int .i64 a1), (2, .ro (eTable a0)), (5, lst eLeg v1 .unk), (6, lst (eLs eLeg) s2.1 (capT s2.1 0)), (7, lst (eLs eLeg) s2.2.1 .unk), (8, .int .i64 s2.2.2), (9, lst (eLs eLeg) s6.1 (capT s6.1 1)), (10, .int .i64 s6.2), (11, .int .i64 o11.1), (12, .int .i64 o11.2), (14, .int .i64 0)] rfl (by decide) ⟨.grow rfl, .grow rfl, trivial⟩ (.pure rfl (.int _ _) (.pure rfl (.ro (pTab _)) (.pure rfl (Pure.lst pLeg _ pUnk) (.grow rfl (pLs pLeg) rfl (.pure rfl (Pure.lst (pLs pLeg) _ pUnk) (.pure rfl (.int _ _) (.grow rfl (pLs pLeg) rfl (.pure rfl (.int _ _) (.pure rfl (.int _ _) (.pure rfl (.int _ _) (.pure rfl (.int _ _) .nil)))))))))))) ?_
            refine Wp.after (Wp.iterS (s102_l49 N a0 v1 s2 s6 o11) (fun s23 => Env.ofList [(1, .int .i64 a1), (2, .ro (eTable a0)), (5, lst eLeg v1 .unk), (6, lst (eLs eLeg) s2.1 (capT s2.1 0)), (7, lst (eLs eLeg) s2.2.1 .unk), (8, .int .i64 s2.2.2), (9, lst (eLs eLeg) s23.1 (capT s23.1 1)), (10, .int .i64 s6.2), (11, .int .i64 o11.1), (12, .int .i64 o11.2), (14, .int .i64 s23.2)]) (fun s23 => hp [ownT s2.1, ownT s23.1]) (fun o24 x e' H' => x = .exit 6 ∧ Sub ctx F102 (Env.ofList [(1, .int .i64 a1), (2, .ro (eTable a0)), (5, lst eLeg v1 .unk), (6, lst (eLs eLeg) s2.1 (capT s2.1 0)), (7, lst (eLs eLeg) s2.2.1 .unk), (8, .int .i64 s2.2.2), (9, lst (eLs eLeg) o24 (capT o24 1)), (10, .int .i64 s6.2)]) (hp [ownT s2.1, ownT o24]) e' H') ?_ N (s6.1, 0) _ hx25) ?_
            · intro s23 o ho
              unfold s102_l49 at ho
              refine Wp.seq ?_
              refine Wp.seq ?_
              refine Wp.reg rfl ?_
              iterate 4 refine Wg.li rfl rfl rfl rfl (fun _ => rfl) ?_
              refine Wg.nil ?_
              refine ⟨fun _ => ?_, fun h => absurd (by decide) h⟩
              refine Wp.cond (decide (s23.2 < (v1.length : Int))) rfl (fun hb26 => ?_) (fun hb26 => ?_)
              · have ho := iT ho hb26
                refine Wp.skip ?_
                refine ⟨fun _ => ?_, fun h => absurd (by decide) h⟩
                refine Wp.seq ?_
                refine Wp.block ?_
                refine Wp.seq ?_
                refine Wp.drw _ [5, 9, 13] rfl (by kernel_rfl) (Nat.le_refl _) ?_
                iterate 3 refine Wg.li rfl rfl rfl rfl (fun _ => rfl) ?_
                obtain ⟨v27, hv27, ho⟩ := ob ho
                refine Wg.idx (f := eLeg) (xs := v1) (c := .unk) rfl rfl rfl rfl rfl rfl rfl lLeg (by decide) hv27 ?_
                iterate 2 refine Wg.li rfl rfl rfl rfl (fun _ => rfl) ?_
                obtain ⟨v28, hv28, ho⟩ := ob ho
                refine Wg.call rfl rfl rfl rfl (s87_ev hv28 _) ?_
                iterate 2 refine Wg.li rfl rfl rfl rfl (fun _ => rfl) ?_
                obtain ⟨v33, hv29, ho⟩ := ob ho
                refine Wg.grp 10 83 73 v33 (!v28) rfl rfl (Nat.le_of_ble_eq_true rfl) (fun hb30 => ?_) (fun hb30 => ?_) ?_
                · have hv29 := iT hv29 hb30
                  iterate 3 refine Wg.li rfl rfl rfl rfl (fun _ => rfl) ?_
                  obtain ⟨v31, hv31, hv29⟩ := ob hv29
                  refine Wg.idx (f := eLeg) (xs := v1) (c := .unk) rfl rfl rfl rfl rfl rfl rfl lLeg (by decide) hv31 ?_
                  refine Wg.li rfl rfl rfl rfl (fun _ => rfl) ?_
                  obtain ⟨v32, hv32, hv29⟩ := ob hv29
                  refine Wg.call rfl rfl rfl rfl (s72_ev hv32 _) ?_
                  iterate 4 refine Wg.li rfl rfl rfl rfl (fun _ => rfl) ?_
                  refine Wg.nil ⟨some_b hv29, ?_, rfl⟩
                  repeat (first | exact Env.le_refl _ | refine Env.le_put rfl ?_)
                · have hv29 := iF hv29 hb30
                  iterate 9 refine Wg.skip rfl rfl ?_
                  refine Wg.li rfl rfl rfl rfl (fun _ => rfl) ?_
                  refine Wg.nil ⟨some_b hv29, ?_, rfl⟩
                  repeat (first | exact Env.le_refl _ | refine Env.le_put rfl ?_)
                refine Wg.nil ?_
                refine ⟨fun _ => ?_, fun h => absurd (by decide) h⟩
                obtain ⟨o34, hx35, ho⟩ := ob ho
                refine Wp.after (Q' := fun x e' H' => x = .normal ∧ Sub ctx F102 (Env.ofList [(1, .int .i64 a1), (2, .ro (eTable a0)), (5, lst eLeg v1 .unk), (6, lst (eLs eLeg) s2.1 (capT s2.1 0)), (7, lst (eLs eLeg) s2.2.1 .unk), (8, .int .i64 s2.2.2), (9, lst (eLs eLeg) o34 (capT o34 1)), (10, .int .i64 s6.2), (11, .int .i64 o11.1), (12, .int .i64 o11.2), (14, .int .i64 s23.2)]) (hp [ownT s2.1, ownT o34]) e' H') ?_ ?_
                · refine Wp.cond v33 rfl (fun hb36 => ?_) (fun hb36 => ?_)
                  · have hx35 := iT hx35 hb36
                    obtain ⟨o37, hx38, hx35⟩ := ob hx35
                    refine Wp.after (Q' := fun x e' H' => x = .normal ∧ Sub ctx F102 (Env.ofList [(1, .int .i64 a1), (2, .ro (eTable a0)), (5, lst eLeg v1 .unk), (6, lst (eLs eLeg) s2.1 (capT s2.1 0)), (7, lst (eLs eLeg) s2.2.1 .unk), (8, .int .i64 s2.2.2), (9, lst (eLs eLeg) o37 (capT o37 1)), (10, .int .i64 s6.2), (11, .int .i64 o11.1), (12, .int .i64 o11.2), (14, .int .i64 s23.2)]) (hp [ownT s2.1, ownT o37]) e' H') ?_ ?_
                    · refine Wp.drw _ [5, 10] rfl (by kernel_rfl) (Nat.le_refl _) ?_
                      iterate 4 refine Wg.li rfl rfl rfl rfl (fun _ => rfl) ?_
                      obtain ⟨v39, hv39, hx38⟩ := ob hx38
                      refine Wg.idx (f := (eLs eLeg)) (xs := s2.2.1) (c := .unk) rfl rfl rfl rfl rfl rfl rfl lLs (by decide) hv39 ?_
                      refine Wg.li rfl rfl rfl rfl (fun _ => rfl) ?_
                      obtain ⟨v40, hv40, hx38⟩ := ob hx38
                      rcases Bool.eq_false_or_eq_true (v39.isEmpty) with hb41 | hb41
                      · have hx38 := iT hx38 hb41
                        refine Wg.app0 (f := eLeg) (xs := []) (ys := v39) (c := .full) (c2 := .unk) rfl rfl rfl rfl rfl rfl rfl rfl rfl lLeg (by decide) (by decide) hb41 hv40 ?_
                        iterate 2 refine Wg.li rfl rfl rfl rfl (fun _ => rfl) ?_
                        obtain ⟨v42, hv42, hx38⟩ := ob hx38
                        refine Wg.idx (f := eLeg) (xs := v1) (c := .unk) rfl rfl rfl rfl rfl rfl rfl lLeg (by decide) hv42 ?_
                        iterate 2 refine Wg.li rfl rfl rfl rfl (fun _ => rfl) ?_
                        obtain ⟨v43, hv43, hx38⟩ := ob hx38
                        refine Wg.appF (f := eLeg) (xs := []) (ys := [v42]) (c2 := .full) (Nat.le_of_ble_eq_true rfl) rfl rfl rfl rfl rfl rfl rfl rfl rfl lLeg (by decide) (by decide) (by simp) hv43 ?_
                        refine Wg.li rfl rfl rfl rfl (fun _ => rfl) ?_
                        obtain ⟨v44, hv44, hx38⟩ := ob hx38
                        refine Wg.appGR (k := 1) (g := eLeg) (xs := s23.1) (ys := v43) (c' := (capT v43 2)) (c2 := .full) (Nat.le_of_ble_eq_true rfl) rfl rfl rfl rfl rfl rfl rfl rfl rfl (by decide) rfl hv44 ?_
                        refine Wg.li rfl rfl rfl rfl (fun _ => rfl) ?_
                        refine Wg.nil ?_
                        have hx38 := Option.some.inj hx38
                        subst hx38
                        exact ⟨by decide, (Sub.canon [some 0, some 3] [ownT s2.1, ownT v44] [(1, .int .i64 a1), (2, .ro (eTable a0)), (5, lst eLeg v1 .unk), (6, lst (eLs eLeg) s2.1 (capT s2.1 0)), (7, lst (eLs eLeg) s2.2.1 .unk), (8, .int .i64 s2.2.2), (9, lst (eLs eLeg) v44 (capT v44 1)), (10, .int .i64 s6.2), (11, .int .i64 o11.1), (12, .int .i64 o11.2), (14, .int .i64 s23.2)] rfl (by decide) ⟨.grow rfl, .grow rfl, trivial⟩ (.pure rfl (.int _ _) (.pure rfl (.ro (pTab _)) (.pure rfl (Pure.lst pLeg _ pUnk) (.grow rfl (pLs pLeg) rfl (.pure rfl (Pure.lst (pLs pLeg) _ pUnk) (.pure rfl (.int _ _) (.growR (g := eLeg) (ys := v43) (c' := (capT v43 2)) rfl (ap_some hv44).1 pLeg rfl (.pure rfl (.int _ _) (.pure rfl (.int _ _) (.pure rfl (.int _ _) (.pure rfl (.int _ _) .nil))))))))))))⟩
                      · have hx38 := iF hx38 hb41
                        refine Wg.appF (f := eLeg) (xs := []) (ys := v39) (c2 := .unk) (Nat.le_of_ble_eq_true rfl) rfl rfl rfl rfl rfl rfl rfl rfl rfl lLeg (by decide) (by decide) (ne_len hb41) hv40 ?_
                        iterate 2 refine Wg.li rfl rfl rfl rfl (fun _ => rfl) ?_
                        obtain ⟨v45, hv45, hx38⟩ := ob hx38
                        refine Wg.idx (f := eLeg) (xs := v1) (c := .unk) rfl rfl rfl rfl rfl rfl rfl lLeg (by decide) hv45 ?_
                        iterate 2 refine Wg.li rfl rfl rfl rfl (fun _ => rfl) ?_
                        obtain ⟨v46, hv46, hx38⟩ := ob hx38
                        refine Wg.appG (k := 2) (f := eLeg) (xs := v40) (ys := [v45]) (c2 := .full) (Nat.le_of_ble_eq_true rfl) rfl rfl rfl rfl rfl rfl rfl rfl rfl lLeg (by decide) (by decide) (by simp) rfl hv46 ?_
                        refine Wg.li rfl rfl rfl rfl (fun _ => rfl) ?_
                        obtain ⟨v47, hv47, hx38⟩ := ob hx38
                        refine Wg.appGR (k := 1) (g := eLeg) (xs := s23.1) (ys := v46) (c' := (capT v46 3)) (c2 := .full) (Nat.le_of_ble_eq_true rfl) rfl rfl rfl rfl rfl rfl rfl rfl rfl (by decide) rfl hv47 ?_
                        refine Wg.li rfl rfl rfl rfl (fun _ => rfl) ?_
                        refine Wg.nil ?_
                        have hx38 := Option.some.inj hx38
                        subst hx38
                        exact ⟨by decide, (Sub.canon [some 0, some 4] [ownT s2.1, ownT v47] [(1, .int .i64 a1), (2, .ro (eTable a0)), (5, lst eLeg v1 .unk), (6, lst (eLs eLeg) s2.1 (capT s2.1 0)), (7, lst (eLs eLeg) s2.2.1 .unk), (8, .int .i64 s2.2.2), (9, lst (eLs eLeg) v47 (capT v47 1)), (10, .int .i64 s6.2), (11, .int .i64 o11.1), (12, .int .i64 o11.2), (14, .int .i64 s23.2)] rfl (by decide) ⟨.grow rfl, .grow rfl, trivial⟩ (.pure rfl (.int _ _) (.pure rfl (.ro (pTab _)) (.pure rfl (Pure.lst pLeg _ pUnk) (.grow rfl (pLs pLeg) rfl (.pure rfl (Pure.lst (pLs pLeg) _ pUnk) (.pure rfl (.int _ _) (.growR (g := eLeg) (ys := v46) (c' := (capT v46 3)) rfl (ap_some hv47).1 pLeg rfl (.pure rfl (.int _ _) (.pure rfl (.int _ _) (.pure rfl (.int _ _) (.pure rfl (.int _ _) .nil))))))))))))⟩
                    · intro x e' H' hP
                      obtain ⟨hPx, hP2⟩ := hP
                      subst hPx
                      have hP := And.intro (True.intro) hP2
                      have hx35 := Option.some.inj hx35
                      subst hx35
                      exact ⟨by decide, (Sub.trans hP.2 (Sub.canon [some 0, some 1] [ownT s2.1, ownT o37] [(1, .int .i64 a1), (2, .ro (eTable a0)), (5, lst eLeg v1 .unk), (6, lst (eLs eLeg) s2.1 (capT s2.1 0)), (7, lst (eLs eLeg) s2.2.1 .unk), (8, .int .i64 s2.2.2), (9, lst (eLs eLeg) o37 (capT o37 1)), (10, .int .i64 s6.2), (11, .int .i64 o11.1), (12, .int .i64 o11.2), (14, .int .i64 s23.2)] rfl (by decide) ⟨.grow rfl, .grow rfl, trivial⟩ (.pure rfl (.int _ _) (.pure rfl (.ro (pTab _)) (.pure rfl (Pure.lst pLeg _ pUnk) (.grow rfl (pLs pLeg) rfl (.pure rfl (Pure.lst (pLs pLeg) _ pUnk) (.pure rfl (.int _ _) (.grow rfl (pLs pLeg) rfl (.pure rfl (.int _ _) (.pure rfl (.int _ _) (.pure rfl (.int _ _) (.pure rfl (.int _ _) .nil)))))))))))))⟩
                  · have hx35 := iF hx35 hb36
                    refine Wp.skip ?_
                    have hx35 := Option.some.inj hx35
                    subst hx35
                    exact ⟨by decide, (Sub.canon [some 0, some 1] [ownT s2.1, ownT s23.1] [(1, .int .i64 a1), (2, .ro (eTable a0)), (5, lst eLeg v1 .unk), (6, lst (eLs eLeg) s2.1 (capT s2.1 0)), (7, lst (eLs eLeg) s2.2.1 .unk), (8, .int .i64 s2.2.2), (9, lst (eLs eLeg) s23.1 (capT s23.1 1)), (10, .int .i64 s6.2), (11, .int .i64 o11.1), (12, .int .i64 o11.2), (14, .int .i64 s23.2)] rfl (by decide) ⟨.grow rfl, .grow rfl, trivial⟩ (.pure rfl (.int _ _) (.pure rfl (.ro (pTab _)) (.pure rfl (Pure.lst pLeg _ pUnk) (.grow rfl (pLs pLeg) rfl (.pure rfl (Pure.lst (pLs pLeg) _ pUnk) (.pure rfl (.int _ _) (.grow rfl (pLs pLeg) rfl (.pure rfl (.int _ _) (.pure rfl (.int _ _) (.pure rfl (.int _ _) (.pure rfl (.int _ _) .nil))))))))))))⟩
                · intro x e' H' hP
                  obtain ⟨hPx, hP2⟩ := hP
                  subst hPx
                  have hP := And.intro (True.intro) hP2
                  refine ⟨fun _ => ?_, fun h => absurd (by decide) h⟩
                  refine Sub.use hP.2 ?_
                  refine Wp.reg rfl ?_
                  refine Wg.li rfl rfl rfl rfl (fun _ => rfl) ?_
                  obtain ⟨v48, hv48, ho⟩ := ob ho
                  refine Wg.bin (k := .i64) (k2 := .i64) (a := s23.2) (b := 1) rfl rfl rfl rfl rfl (bAdd hv48) ?_
                  refine Wg.li rfl rfl rfl rfl (fun _ => rfl) ?_
                  refine Wg.nil ?_
                  have ho := Option.some.inj ho
                  subst ho
                  exact ⟨by decide, (Sub.canon [some 0, some 1] [ownT s2.1, ownT o34] [(1, .int .i64 a1), (2, .ro (eTable a0)), (5, lst eLeg v1 .unk), (6, lst (eLs eLeg) s2.1 (capT s2.1 0)), (7, lst (eLs eLeg) s2.2.1 .unk), (8, .int .i64 s2.2.2), (9, lst (eLs eLeg) o34 (capT o34 1)), (10, .int .i64 s6.2), (11, .int .i64 o11.1), (12, .int .i64 o11.2), (14, .int .i64 v48)] rfl (by decide) ⟨.grow rfl, .grow rfl, trivial⟩ (.pure rfl (.int _ _) (.pure rfl (.ro (pTab _)) (.pure rfl (Pure.lst pLeg _ pUnk) (.grow rfl (pLs pLeg) rfl (.pure rfl (Pure.lst (pLs pLeg) _ pUnk) (.pure rfl (.int _ _) (.grow rfl (pLs pLeg) rfl (.pure rfl (.int _ _) (.pure rfl (.int _ _) (.pure rfl (.int _ _) (.pure rfl (.int _ _) .nil))))))))))))⟩
              · have ho := iF ho hb26
                refine Wp.exit ?_
                refine ⟨fun h => absurd h (by decide), fun _ => ?_⟩
                have ho := Option.some.inj ho
                subst ho
                exact ⟨by decide, by decide, (Sub.canon [some 0, some 1] [ownT s2.1, ownT s23.1] [(1, .int .i64 a1), (2, .ro (eTable a0)), (5, lst eLeg v1 .unk), (6, lst (eLs eLeg) s2.1 (capT s2.1 0)), (7, lst (eLs eLeg) s2.2.1 .unk), (8, .int .i64 s2.2.2), (9, lst (eLs eLeg) s23.1 (capT s23.1 1)), (10, .int .i64 s6.2)] rfl (by decide) ⟨.grow rfl, .grow rfl, trivial⟩ (.pure rfl (.int _ _) (.pure rfl (.ro (pTab _)) (.pure rfl (Pure.lst pLeg _ pUnk) (.grow rfl (pLs pLeg) rfl (.pure rfl (Pure.lst (pLs pLeg) _ pUnk) (.pure rfl (.int _ _) (.grow rfl (pLs pLeg) rfl (.pure rfl (.int _ _) .nil)))))))))⟩
            · intro x e' H' hP
              obtain ⟨hPx, hP2⟩ := hP
              subst hPx
              have hP := And.intro (True.intro) hP2
              refine ⟨fun _ => ?_, fun h => absurd (by decide) h⟩
              refine Sub.use hP.2 ?_
              refine Wp.reg rfl ?_
              refine Wg.li rfl rfl rfl rfl (fun _ => rfl) ?_
              obtain ⟨v50, hv50, ho⟩ := ob ho
              refine Wg.bin (k := .i64) (k2 := .i64) (a := s6.2) (b := 1) rfl rfl rfl rfl rfl (bAdd hv50) ?_
              refine Wg.li rfl rfl rfl rfl (fun _ => rfl) ?_
              refine Wg.nil ?_
              have ho := Option.some.inj ho
              subst ho
              exact ⟨by decide, (Sub.canon [some 0, some 1] [ownT s2.1, ownT o24] [(1, .int .i64 a1), (2, .ro (eTable a0)), (5, lst eLeg v1 .unk), (6, lst (eLs eLeg) s2.1 (capT s2.1 0)), (7, lst (eLs eLeg) s2.2.1 .unk), (8, .int .i64 s2.2.2), (9, lst (eLs eLeg) o24 (capT o24 1)), (10, .int .i64 v50)] rfl (by decide) ⟨.grow rfl, .grow rfl, trivial⟩ (.pure rfl (.int _ _) (.pure rfl (.ro (pTab _)) (.pure rfl (Pure.lst pLeg _ pUnk) (.grow rfl (pLs pLeg) rfl (.pure rfl (Pure.lst (pLs pLeg) _ pUnk) (.pure rfl (.int _ _) (.grow rfl (pLs pLeg) rfl (.pure rfl (.int _ _) .nil)))))))))⟩
        · have ho := iF ho hb9
          refine Wp.exit ?_
          refine ⟨fun h => absurd h (by decide), fun _ => ?_⟩
          have ho := Option.some.inj ho
          subst ho
          exact ⟨by decide, by decide, (Sub.canon [some 0, some 1] [ownT s2.1, ownT s6.1] [(1, .int .i64 a1), (2, .ro (eTable a0)), (5, lst eLeg v1 .unk), (6, lst (eLs eLeg) s2.1 (capT s2.1 0)), (8, .int .i64 s2.2.2), (9, lst (eLs eLeg) s6.1 (capT s6.1 1))] rfl (by decide) ⟨.grow rfl, .grow rfl, trivial⟩ (.pure rfl (.int _ _) (.pure rfl (.ro (pTab _)) (.pure rfl (Pure.lst pLeg _ pUnk) (.grow rfl (pLs pLeg) rfl (.pure rfl (.int _ _) (.grow rfl (pLs pLeg) rfl .nil)))))))⟩
      · intro x e' H' hP
        obtain ⟨hPx, hP2⟩ := hP
        subst hPx
        have hP := And.intro (True.intro) hP2
        refine ⟨fun _ => ?_, fun h => absurd (by decide) h⟩
        refine Sub.use hP.2 ?_
        refine Wp.seq ?_
        obtain ⟨o52, hx53, ho⟩ := ob ho
        refine Wp.after (Q' := fun x e' H' => x = .normal ∧ Sub ctx F102 (Env.ofList [(1, .int .i64 a1), (2, .ro (eTable a0)), (5, lst eLeg v1 .unk), (6, lst (eLs eLeg) o52 (capT o52 0)), (8, .int .i64 s2.2.2), (9, lst (eLs eLeg) o7 (capT o7 1))]) (hp [ownT o52, ownT o7]) e' H') ?_ ?_
        · refine Wp.reg rfl ?_
          iterate 2 refine Wg.li rfl rfl rfl rfl (fun _ => rfl) ?_
          obtain ⟨v54, hv54, hx53⟩ := ob hx53
          rcases Bool.eq_false_or_eq_true (o7.isEmpty) with hb55 | hb55
          · have hx53 := iT hx53 hb55
            refine Wg.app0 (f := (eLs eLeg)) (xs := s2.1) (ys := o7) (c := (capT s2.1 0)) (c2 := (capT o7 1)) rfl rfl rfl rfl rfl rfl rfl rfl rfl lLs (by decide) (by decide) hb55 hv54 ?_
            refine Wg.li rfl rfl rfl rfl (fun _ => rfl) ?_
            refine Wg.nil ?_
            have hx53 := Option.some.inj hx53
            subst hx53
            exact ⟨by decide, (Sub.canon [some 0, some 1] [ownT s2.1, ownT o7] [(1, .int .i64 a1), (2, .ro (eTable a0)), (5, lst eLeg v1 .unk), (6, lst (eLs eLeg) s2.1 (capT s2.1 0)), (8, .int .i64 s2.2.2), (9, lst (eLs eLeg) o7 (capT o7 1))] rfl (by decide) ⟨.grow rfl, .grow rfl, trivial⟩ (.pure rfl (.int _ _) (.pure rfl (.ro (pTab _)) (.pure rfl (Pure.lst pLeg _ pUnk) (.grow rfl (pLs pLeg) rfl (.pure rfl (.int _ _) (.grow rfl (pLs pLeg) rfl .nil)))))))⟩
          · have hx53 := iF hx53 hb55
            refine Wg.appG (k := 0) (f := (eLs eLeg)) (xs := s2.1) (ys := o7) (c2 := (capT o7 1)) (Nat.le_of_ble_eq_true rfl) rfl rfl rfl rfl rfl rfl rfl rfl rfl lLs (by decide) (by decide) (ne_len hb55) rfl hv54 ?_
            refine Wg.li rfl rfl rfl rfl (fun _ => rfl) ?_
            refine Wg.nil ?_
            have hx53 := Option.some.inj hx53
            subst hx53
            exact ⟨by decide, (Sub.canon [some 2, some 1] [ownT v54, ownT o7] [(1, .int .i64 a1), (2, .ro (eTable a0)), (5, lst eLeg v1 .unk), (6, lst (eLs eLeg) v54 (capT v54 0)), (8, .int .i64 s2.2.2), (9, lst (eLs eLeg) o7 (capT o7 1))] rfl (by decide) ⟨.grow rfl, .grow rfl, trivial⟩ (.pure rfl (.int _ _) (.pure rfl (.ro (pTab _)) (.pure rfl (Pure.lst pLeg _ pUnk) (.grow rfl (pLs pLeg) rfl (.pure rfl (.int _ _) (.grow rfl (pLs pLeg) rfl .nil)))))))⟩
        · intro x e' H' hP
          obtain ⟨hPx, hP2⟩ := hP
          subst hPx
          have hP := And.intro (True.intro) hP2
          refine ⟨fun _ => ?_, fun h => absurd (by decide) h⟩
          refine Sub.use hP.2 ?_
          refine Wp.reg rfl ?_
          iterate 2 refine Wg.li rfl rfl rfl rfl (fun _ => rfl) ?_
          refine Wg.nil ?_
          refine ⟨fun _ => ?_, fun h => absurd (by decide) h⟩
          refine Wp.reg rfl ?_
          refine Wg.li rfl rfl rfl rfl (fun _ => rfl) ?_
          obtain ⟨v56, hv56, ho⟩ := ob ho
          refine Wg.bin (k := .i64) (k2 := .i64) (a := s2.2.2) (b := 1) rfl rfl rfl rfl rfl (bAdd hv56) ?_
          refine Wg.li rfl rfl rfl rfl (fun _ => rfl) ?_
          refine Wg.nil ?_
          have ho := Option.some.inj ho
          subst ho
          exact ⟨by decide, (Sub.canon [some 0, none] [ownT o52, .gone] [(1, .int .i64 a1), (2, .ro (eTable a0)), (5, lst eLeg v1 .unk), (6, lst (eLs eLeg) o52 (capT o52 0)), (7, lst (eLs eLeg) o7 .unk), (8, .int .i64 v56)] rfl (by decide) ⟨.grow rfl, trivial⟩ (.pure rfl (.int _ _) (.pure rfl (.ro (pTab _)) (.pure rfl (Pure.lst pLeg _ pUnk) (.grow rfl (pLs pLeg) rfl (.unk (c := (capT o7 1)) rfl (pLs pLeg) (.pure rfl (.int _ _) .nil)))))))⟩
    · have ho := iF ho hb5
      refine Wp.exit ?_
      refine ⟨fun h => absurd h (by decide), fun _ => ?_⟩
      have ho := Option.some.inj ho
      subst ho
      exact ⟨by decide, by decide, (Sub.canon [some 0, none] [ownT s2.1, .gone] [(6, lst (eLs eLeg) s2.1 (capT s2.1 0))] rfl (by decide) ⟨.grow rfl, trivial⟩ (.grow rfl (pLs pLeg) rfl .nil))⟩
  · intro x e' H' hP
    obtain ⟨hPx, hP2⟩ := hP
    subst hPx
    have hP := And.intro (True.intro) hP2
    refine ⟨fun _ => ?_, fun h => absurd (by decide) h⟩
    refine Sub.use hP.2 ?_
    refine Wp.seq ?_
    refine Wp.reg rfl ?_
    iterate 2 refine Wg.li rfl rfl rfl rfl (fun _ => rfl) ?_
    refine Wg.nil ?_
    refine ⟨fun _ => ?_, fun h => absurd (by decide) h⟩
    refine Sub.use (Sub.canon [] [] [(4, lst (eLs eLeg) o3 .unk)] rfl (by decide) trivial (.unk (c := (capT o3 0)) rfl (pLs pLeg) .nil)) ?_
    refine Wp.ret ?_
    have h := Option.some.inj h
    subst h
    exact ⟨.inr (by decide), _, rfl, rfl⟩
def s80_l18 (N : Nat) (a0 : Table) (a2 : Int) (v1 : (List (List Leg))) (s2 : (List (List Leg)) × Int) : Option (((List (List Leg)) × Int) ⊕ ((List (List Leg)))) :=
  if (decide (s2.2 < (v1.length : Int))) then
    (ix v1 s2.2).bind fun v6 =>
    (s59 N a0 v6).bind fun v7 =>
    (if (v7.2.2 && (v7.2.1 == a2)) then
      ((ix v1 s2.2).bind fun v15 =>
      (ap 24 s2.1 ([v15])).bind fun v16 =>
      some v16).bind fun o13 =>
      some o13
    else
      some s2.1).bind fun o10 =>
    (ck (s2.2 + 1)).bind fun v17 =>
    some (.inl (o10, v17))
  else
    some (.inr s2.1)
def s80 (N : Nat) (a0 : Table) (a1 : Int) (a2 : Int) : Option ((List (List Leg))) :=
  (s102 N a0 a1).bind fun v1 =>
  (iter (s80_l18 N a0 a2 v1) N ([], 0)).bind fun o3 =>
  some o3
abbrev F80 : Fr := { r := false, N := 46, m := 0 }
theorem at80 : ctx.P.funcs[80]? = some Tryd.f80 := by kernel_rfl
theorem s80_ev {N : Nat} {a0 : Table} {a1 : Int} {a2 : Int} {r : (List (List Leg))} (h : s80 N a0 a1 a2 = some r) : ∀ H, Ev ctx (.call 80 [.agg (eTable a0), .int .i64 a1, .int .i64 a2] H (lst (eLs eLeg) r .unk) H) := by
  refine Ev.of_pure at80 rfl rfl (Nat.le_of_ble_eq_true rfl) (pCons (pv (pTab _)) (pCons (.int _ _) (pCons (.int _ _) pNil))) (Pure.lst (pLs pLeg) _ pUnk) ?_
  unfold s80 at h
  refine Wp.seq ?_
  refine Wp.reg rfl ?_
  refine Wg.box rfl rfl rfl rfl ?_
  refine Wg.li rfl rfl rfl rfl (fun _ => rfl) ?_
  refine Wg.nil ?_
  refine ⟨fun _ => ?_, fun h => absurd (by decide) h⟩
  refine Wp.seq ?_
  refine Wp.reg rfl ?_
  iterate 2 refine Wg.li rfl rfl rfl rfl (fun _ => rfl) ?_
  obtain ⟨v1, hv1, h⟩ := ob h
  refine Wg.call rfl rfl rfl rfl (s102_ev hv1 _) ?_
  refine Wg.li rfl rfl rfl rfl (fun _ => rfl) ?_
  refine Wg.nil ?_
  refine ⟨fun _ => ?_, fun h => absurd (by decide) h⟩
  refine Wp.seq ?_
  refine Wp.reg rfl ?_
  refine Wg.li rfl rfl rfl rfl (fun _ => rfl) ?_
  refine Wg.nil ?_
  refine ⟨fun _ => ?_, fun h => absurd (by decide) h⟩
  refine Wp.seq ?_
  refine Wp.seq ?_
  refine Wp.reg rfl ?_
  refine Wg.li rfl rfl rfl rfl (fun _ => rfl) ?_
  refine Wg.nil ?_
  refine ⟨fun _ => ?_, fun h => absurd (by decide) h⟩
  refine Wp.block ?_
  obtain ⟨o3, hx4, h⟩ := ob h
  refine Sub.use (Sub.canon [none] [.gone] [(2, .int .i64 a2), (3, .ro (eTable a0)), (7, lst (eLs eLeg) v1 .unk), (8, lst (eLs eLeg) [] (capT [] 0)), (9, .int .i64 0)] rfl (by decide) trivial (.pure rfl (.int _ _) (.pure rfl (.ro (pTab _)) (.pure rfl (Pure.lst (pLs pLeg) _ pUnk) (.grow0 rfl (.pure rfl (.int _ _) .nil)))))) ?_
  refine Wp.after (Wp.iterS (s80_l18 N a0 a2 v1) (fun s2 => Env.ofList [(2, .int .i64 a2), (3, .ro (eTable a0)), (7, lst (eLs eLeg) v1 .unk), (8, lst (eLs eLeg) s2.1 (capT s2.1 0)), (9, .int .i64 s2.2)]) (fun s2 => hp [ownT s2.1]) (fun o3 x e' H' => x = .exit 0 ∧ Sub ctx F80 (Env.ofList [(8, lst (eLs eLeg) o3 (capT o3 0))]) (hp [ownT o3]) e' H') ?_ N ([], 0) _ hx4) ?_
  · intro s2 o ho
    unfold s80_l18 at ho
    refine Wp.seq ?_
    refine Wp.seq ?_
    refine Wp.reg rfl ?_
    iterate 4 refine Wg.li rfl rfl rfl rfl (fun _ => rfl) ?_
    refine Wg.nil ?_
    refine ⟨fun _ => ?_, fun h => absurd (by decide) h⟩
    refine Wp.cond (decide (s2.2 < (v1.length : Int))) rfl (fun hb5 => ?_) (fun hb5 => ?_)
    · have ho := iT ho hb5
      refine Wp.skip ?_
      refine ⟨fun _ => ?_, fun h => absurd (by decide) h⟩
      refine Wp.seq ?_
      refine Wp.block ?_
      refine Wp.seq ?_
      refine Wp.drw _ [0, 4] rfl (by kernel_rfl) (Nat.le_refl _) ?_
      iterate 3 refine Wg.li rfl rfl rfl rfl (fun _ => rfl) ?_
      obtain ⟨v6, hv6, ho⟩ := ob ho
      refine Wg.idx (f := (eLs eLeg)) (xs := v1) (c := .unk) rfl rfl rfl rfl rfl rfl rfl lLs (by decide) hv6 ?_
      refine Wg.li rfl rfl rfl rfl (fun _ => rfl) ?_
      obtain ⟨v7, hv7, ho⟩ := ob ho
      refine Wg.call rfl rfl rfl rfl (s59_ev hv7 _) ?_
      iterate 7 refine Wg.li rfl rfl rfl rfl (fun _ => rfl) ?_
      refine Wg.nil ?_
      refine ⟨fun _ => ?_, fun h => absurd (by decide) h⟩
      refine Wp.seq ?_
      refine Wp.reg rfl ?_
      iterate 2 refine Wg.li rfl rfl rfl rfl (fun _ => rfl) ?_
      have hv8 := ifAnd v7.2.2 (v7.2.1 == a2)
      refine Wg.grp 4 37 33 (v7.2.2 && (v7.2.1 == a2)) v7.2.2 rfl rfl (Nat.le_of_ble_eq_true rfl) (fun hb9 => ?_) (fun hb9 => ?_) ?_
      · have hv8 := iT hv8 hb9
        iterate 4 refine Wg.li rfl rfl rfl rfl (fun _ => rfl) ?_
        refine Wg.nil ⟨some_b hv8, ?_, rfl⟩
        repeat (first | exact Env.le_refl _ | refine Env.le_put rfl ?_)
      · have hv8 := iF hv8 hb9
        iterate 3 refine Wg.skip rfl rfl ?_
        refine Wg.li rfl rfl rfl rfl (fun _ => rfl) ?_
        refine Wg.nil ⟨some_b hv8, ?_, rfl⟩
        repeat (first | exact Env.le_refl _ | refine Env.le_put rfl ?_)
      refine Wg.nil ?_
      refine ⟨fun _ => ?_, fun h => absurd (by decide) h⟩
      obtain ⟨o10, hx11, ho⟩ := ob ho
      refine Wp.after (Q' := fun x e' H' => x = .normal ∧ Sub ctx F80 (Env.ofList [(2, .int .i64 a2), (3, .ro (eTable a0)), (7, lst (eLs eLeg) v1 .unk), (8, lst (eLs eLeg) o10 (capT o10 0)), (9, .int .i64 s2.2)]) (hp [ownT o10]) e' H') ?_ ?_
      · refine Wp.cond (v7.2.2 && (v7.2.1 == a2)) rfl (fun hb12 => ?_) (fun hb12 => ?_)
        · have hx11 := iT hx11 hb12
          obtain ⟨o13, hx14, hx11⟩ := ob hx11
          refine Wp.after (Q' := fun x e' H' => x = .normal ∧ Sub ctx F80 (Env.ofList [(2, .int .i64 a2), (3, .ro (eTable a0)), (7, lst (eLs eLeg) v1 .unk), (8, lst (eLs eLeg) o13 (capT o13 0)), (9, .int .i64 s2.2)]) (hp [ownT o13]) e' H') ?_ ?_
          · refine Wp.reg rfl ?_
            iterate 3 refine Wg.li rfl rfl rfl rfl (fun _ => rfl) ?_
            obtain ⟨v15, hv15, hx14⟩ := ob hx14
            refine Wg.idx (f := (eLs eLeg)) (xs := v1) (c := .unk) rfl rfl rfl rfl rfl rfl rfl lLs (by decide) hv15 ?_
            iterate 2 refine Wg.li rfl rfl rfl rfl (fun _ => rfl) ?_
            obtain ⟨v16, hv16, hx14⟩ := ob hx14
            refine Wg.appG (k := 0) (f := (eLs eLeg)) (xs := s2.1) (ys := [v15]) (c2 := .full) (Nat.le_of_ble_eq_true rfl) rfl rfl rfl rfl rfl rfl rfl rfl rfl lLs (by decide) (by decide) (by simp) rfl hv16 ?_
            refine Wg.li rfl rfl rfl rfl (fun _ => rfl) ?_
            refine Wg.nil ?_
            have hx14 := Option.some.inj hx14
            subst hx14
            exact ⟨by decide, (Sub.canon [some 1] [ownT v16] [(2, .int .i64 a2), (3, .ro (eTable a0)), (7, lst (eLs eLeg) v1 .unk), (8, lst (eLs eLeg) v16 (capT v16 0)), (9, .int .i64 s2.2)] rfl (by decide) ⟨.grow rfl, trivial⟩ (.pure rfl (.int _ _) (.pure rfl (.ro (pTab _)) (.pure rfl (Pure.lst (pLs pLeg) _ pUnk) (.grow rfl (pLs pLeg) rfl (.pure rfl (.int _ _) .nil))))))⟩
          · intro x e' H' hP
            obtain ⟨hPx, hP2⟩ := hP
            subst hPx
            have hP := And.intro (True.intro) hP2
            have hx11 := Option.some.inj hx11
            subst hx11
            exact ⟨by decide, (Sub.trans hP.2 (Sub.canon [some 0] [ownT o13] [(2, .int .i64 a2), (3, .ro (eTable a0)), (7, lst (eLs eLeg) v1 .unk), (8, lst (eLs eLeg) o13 (capT o13 0)), (9, .int .i64 s2.2)] rfl (by decide) ⟨.grow rfl, trivial⟩ (.pure rfl (.int _ _) (.pure rfl (.ro (pTab _)) (.pure rfl (Pure.lst (pLs pLeg) _ pUnk) (.grow rfl (pLs pLeg) rfl (.pure rfl (.int _ _) .nil)))))))⟩
        · have hx11 := iF hx11 hb12
          refine Wp.skip ?_
          have hx11 := Option.some.inj hx11
          subst hx11
          exact ⟨by decide, (Sub.canon [some 0] [ownT s2.1] [(2, .int .i64 a2), (3, .ro (eTable a0)), (7, lst (eLs eLeg) v1 .unk), (8, lst (eLs eLeg) s2.1 (capT s2.1 0)), (9, .int .i64 s2.2)] rfl (by decide) ⟨.grow rfl, trivial⟩ (.pure rfl (.int _ _) (.pure rfl (.ro (pTab _)) (.pure rfl (Pure.lst (pLs pLeg) _ pUnk) (.grow rfl (pLs pLeg) rfl (.pure rfl (.int _ _) .nil))))))⟩
      · intro x e' H' hP
        obtain ⟨hPx, hP2⟩ := hP
        subst hPx
        have hP := And.intro (True.intro) hP2
        refine ⟨fun _ => ?_, fun h => absurd (by decide) h⟩
        refine Sub.use hP.2 ?_
        refine Wp.reg rfl ?_
        refine Wg.li rfl rfl rfl rfl (fun _ => rfl) ?_
        obtain ⟨v17, hv17, ho⟩ := ob ho
        refine Wg.bin (k := .i64) (k2 := .i64) (a := s2.2) (b := 1) rfl rfl rfl rfl rfl (bAdd hv17) ?_
        refine Wg.li rfl rfl rfl rfl (fun _ => rfl) ?_
        refine Wg.nil ?_
        have ho := Option.some.inj ho
        subst ho
        exact ⟨by decide, (Sub.canon [some 0] [ownT o10] [(2, .int .i64 a2), (3, .ro (eTable a0)), (7, lst (eLs eLeg) v1 .unk), (8, lst (eLs eLeg) o10 (capT o10 0)), (9, .int .i64 v17)] rfl (by decide) ⟨.grow rfl, trivial⟩ (.pure rfl (.int _ _) (.pure rfl (.ro (pTab _)) (.pure rfl (Pure.lst (pLs pLeg) _ pUnk) (.grow rfl (pLs pLeg) rfl (.pure rfl (.int _ _) .nil))))))⟩
    · have ho := iF ho hb5
      refine Wp.exit ?_
      refine ⟨fun h => absurd h (by decide), fun _ => ?_⟩
      have ho := Option.some.inj ho
      subst ho
      exact ⟨by decide, by decide, (Sub.canon [some 0] [ownT s2.1] [(8, lst (eLs eLeg) s2.1 (capT s2.1 0))] rfl (by decide) ⟨.grow rfl, trivial⟩ (.grow rfl (pLs pLeg) rfl .nil))⟩
  · intro x e' H' hP
    obtain ⟨hPx, hP2⟩ := hP
    subst hPx
    have hP := And.intro (True.intro) hP2
    refine ⟨fun _ => ?_, fun h => absurd (by decide) h⟩
    refine Sub.use hP.2 ?_
    refine Wp.seq ?_
    refine Wp.reg rfl ?_
    iterate 2 refine Wg.li rfl rfl rfl rfl (fun _ => rfl) ?_
    refine Wg.nil ?_
    refine ⟨fun _ => ?_, fun h => absurd (by decide) h⟩
    refine Sub.use (Sub.canon [] [] [(6, lst (eLs eLeg) o3 .unk)] rfl (by decide) trivial (.unk (c := (capT o3 0)) rfl (pLs pLeg) .nil)) ?_
    refine Wp.ret ?_
    have h := Option.some.inj h
    subst h
    exact ⟨.inr (by decide), _, rfl, rfl⟩
def s79_l15 (N : Nat) (a0 : Table) (a1 : (List (List Leg))) (a2 : Int) (s1 : (List Leg) × Int × Int) : Option (((List Leg) × Int × Int) ⊕ (((List Leg) × Int))) :=
  if (decide (s1.2.2 < (a1.length : Int))) then
    ((ix a1 s1.2.2).bind fun v7 =>
    (s68 N a0 v7 a2).bind fun v8 =>
    if (!v8.2.1) then
      some (s1.1, s1.2.1)
    else
      (ix a1 s1.2.2).bind fun v10 =>
      (s76 N a0 v10 a2).bind fun v11 =>
      if (decide (v11.high < s1.2.1)) then
        (ix a1 s1.2.2).bind fun v13 =>
        some (v13, v11.high)
      else
        some (s1.1, s1.2.1)).bind fun o5 =>
    (ck (s1.2.2 + 1)).bind fun v14 =>
    some (.inl (o5.1, o5.2, v14))
  else
    some (.inr (s1.1, s1.2.1))
def s79 (N : Nat) (a0 : Table) (a1 : (List (List Leg))) (a2 : Int) : Option ((List Leg) × Int) :=
  (iter (s79_l15 N a0 a1 a2) N ([], 2880, 0)).bind fun o2 =>
  some (o2.1, o2.2)
abbrev F79 : Fr := { r := false, N := 52, m := 0 }
theorem at79 : ctx.P.funcs[79]? = some Tryd.f79 := by kernel_rfl
theorem s79_ev {N : Nat} {a0 : Table} {a1 : (List (List Leg))} {a2 : Int} {r : (List Leg) × Int} (h : s79 N a0 a1 a2 = some r) : ∀ H, Ev ctx (.call 79 [.agg (eTable a0), lst (eLs eLeg) a1 .unk, .int .i64 a2] H (.tuple [lst eLeg r.1 .unk, .int .i64 r.2]) H) := by
  refine Ev.of_pure at79 rfl rfl (Nat.le_of_ble_eq_true rfl) (pCons (pv (pTab _)) (pCons (Pure.lst (pLs pLeg) _ pUnk) (pCons (.int _ _) pNil))) (.tuple (pCons (Pure.lst pLeg _ pUnk) (pCons (.int _ _) pNil))) ?_
  unfold s79 at h
  refine Wp.seq ?_
  refine Wp.reg rfl ?_
  refine Wg.box rfl rfl rfl rfl ?_
  iterate 2 refine Wg.li rfl rfl rfl rfl (fun _ => rfl) ?_
  refine Wg.nil ?_
  refine ⟨fun _ => ?_, fun h => absurd (by decide) h⟩
  refine Wp.seq ?_
  refine Wp.reg rfl ?_
  refine Wg.li rfl rfl rfl rfl (fun _ => rfl) ?_
  refine Wg.nil ?_
  refine ⟨fun _ => ?_, fun h => absurd (by decide) h⟩
  refine Wp.seq ?_
  refine Wp.reg rfl ?_
  refine Wg.li rfl rfl rfl rfl (fun _ => rfl) ?_
  refine Wg.nil ?_
  refine ⟨fun _ => ?_, fun h => absurd (by decide) h⟩
  refine Wp.seq ?_
  refine Wp.seq ?_
  refine Wp.reg rfl ?_
  refine Wg.li rfl rfl rfl rfl (fun _ => rfl) ?_
  refine Wg.nil ?_
  refine ⟨fun _ => ?_, fun h => absurd (by decide) h⟩
  refine Wp.block ?_
  obtain ⟨o2, hx3, h⟩ := ob h
  refine Sub.use (Sub.canon [] [] [(1, lst (eLs eLeg) a1 .unk), (2, .int .i64 a2), (3, .ro (eTable a0)), (8, lst eLeg [] .unk), (9, .int .i64 2880), (10, .int .i64 0)] rfl (by decide) trivial (.pure rfl (Pure.lst (pLs pLeg) _ pUnk) (.pure rfl (.int _ _) (.pure rfl (.ro (pTab _)) (.unk (c := .full) rfl pLeg (.pure rfl (.int _ _) (.pure rfl (.int _ _) .nil))))))) ?_
  refine Wp.after (Wp.iterS (s79_l15 N a0 a1 a2) (fun s1 => Env.ofList [(1, lst (eLs eLeg) a1 .unk), (2, .int .i64 a2), (3, .ro (eTable a0)), (8, lst eLeg s1.1 .unk), (9, .int .i64 s1.2.1), (10, .int .i64 s1.2.2)]) (fun s1 => hp []) (fun o2 x e' H' => x = .exit 0 ∧ Sub ctx F79 (Env.ofList [(8, lst eLeg o2.1 .unk), (9, .int .i64 o2.2)]) (hp []) e' H') ?_ N ([], 2880, 0) _ hx3) ?_
  · intro s1 o ho
    unfold s79_l15 at ho
    refine Wp.seq ?_
    refine Wp.seq ?_
    refine Wp.reg rfl ?_
    iterate 4 refine Wg.li rfl rfl rfl rfl (fun _ => rfl) ?_
    refine Wg.nil ?_
    refine ⟨fun _ => ?_, fun h => absurd (by decide) h⟩
    refine Wp.cond (decide (s1.2.2 < (a1.length : Int))) rfl (fun hb4 => ?_) (fun hb4 => ?_)
    · have ho := iT ho hb4
      refine Wp.skip ?_
      refine ⟨fun _ => ?_, fun h => absurd (by decide) h⟩
      refine Wp.seq ?_
      obtain ⟨o5, hx6, ho⟩ := ob ho
      refine Wp.after (Q' := fun x e' H' => x = .normal ∧ Sub ctx F79 (Env.ofList [(1, lst (eLs eLeg) a1 .unk), (2, .int .i64 a2), (3, .ro (eTable a0)), (8, lst eLeg o5.1 .unk), (9, .int .i64 o5.2), (10, .int .i64 s1.2.2)]) (hp []) e' H') ?_ ?_
      · refine Wp.block ?_
        refine Wp.seq ?_
        refine Wp.seq ?_
        refine Wp.drw _ [0, 4] rfl (by kernel_rfl) (Nat.le_refl _) ?_
        iterate 3 refine Wg.li rfl rfl rfl rfl (fun _ => rfl) ?_
        obtain ⟨v7, hv7, hx6⟩ := ob hx6
        refine Wg.idx (f := (eLs eLeg)) (xs := a1) (c := .unk) rfl rfl rfl rfl rfl rfl rfl lLs (by decide) hv7 ?_
        iterate 2 refine Wg.li rfl rfl rfl rfl (fun _ => rfl) ?_
        obtain ⟨v8, hv8, hx6⟩ := ob hx6
        refine Wg.call rfl rfl rfl rfl (s68_ev hv8 _) ?_
        iterate 4 refine Wg.li rfl rfl rfl rfl (fun _ => rfl) ?_
        refine Wg.alloc rfl rfl rfl rfl ?_
        refine Wg.heavy true (Nat.le_of_ble_eq_true rfl) rfl rfl rfl rfl ?_
        iterate 2 refine Wg.li rfl rfl rfl rfl (fun _ => rfl) ?_
        refine Wg.nil ?_
        refine ⟨fun _ => ?_, fun h => absurd (by decide) h⟩
        refine Wp.seq ?_
        refine Wp.reg rfl ?_
        iterate 2 refine Wg.li rfl rfl rfl rfl (fun _ => rfl) ?_
        refine Wg.nil ?_
        refine ⟨fun _ => ?_, fun h => absurd (by decide) h⟩
        refine Wp.cond (!v8.2.1) rfl (fun hb9 => ?_) (fun hb9 => ?_)
        · have hx6 := iT hx6 hb9
          refine Wp.exit ?_
          refine ⟨fun h => absurd h (by decide), fun _ => ?_⟩
          have hx6 := Option.some.inj hx6
          subst hx6
          exact ⟨by decide, (Sub.canon [] [] [(1, lst (eLs eLeg) a1 .unk), (2, .int .i64 a2), (3, .ro (eTable a0)), (8, lst eLeg s1.1 .unk), (9, .int .i64 s1.2.1), (10, .int .i64 s1.2.2)] rfl (by decide) trivial (.pure rfl (Pure.lst (pLs pLeg) _ pUnk) (.pure rfl (.int _ _) (.pure rfl (.ro (pTab _)) (.pure rfl (Pure.lst pLeg _ pUnk) (.pure rfl (.int _ _) (.pure rfl (.int _ _) .nil)))))))⟩
        · have hx6 := iF hx6 hb9
          refine Wp.skip ?_
          refine ⟨fun _ => ?_, fun h => absurd (by decide) h⟩
          refine Wp.seq ?_
          refine Wp.drw _ [0, 4] rfl (by kernel_rfl) (Nat.le_refl _) ?_
          iterate 3 refine Wg.li rfl rfl rfl rfl (fun _ => rfl) ?_
          obtain ⟨v10, hv10, hx6⟩ := ob hx6
          refine Wg.idx (f := (eLs eLeg)) (xs := a1) (c := .unk) rfl rfl rfl rfl rfl rfl rfl lLs (by decide) hv10 ?_
          iterate 2 refine Wg.li rfl rfl rfl rfl (fun _ => rfl) ?_
          obtain ⟨v11, hv11, hx6⟩ := ob hx6
          refine Wg.call rfl rfl rfl rfl (s76_ev hv11 _) ?_
          iterate 2 refine Wg.li rfl rfl rfl rfl (fun _ => rfl) ?_
          refine Wg.nil ?_
          refine ⟨fun _ => ?_, fun h => absurd (by decide) h⟩
          refine Wp.seq ?_
          refine Wp.reg rfl ?_
          iterate 3 refine Wg.li rfl rfl rfl rfl (fun _ => rfl) ?_
          refine Wg.nil ?_
          refine ⟨fun _ => ?_, fun h => absurd (by decide) h⟩
          refine Wp.cond (decide (v11.high < s1.2.1)) rfl (fun hb12 => ?_) (fun hb12 => ?_)
          · have hx6 := iT hx6 hb12
            refine Wp.reg rfl ?_
            iterate 2 refine Wg.li rfl rfl rfl rfl (fun _ => rfl) ?_
            obtain ⟨v13, hv13, hx6⟩ := ob hx6
            refine Wg.idx (f := (eLs eLeg)) (xs := a1) (c := .unk) rfl rfl rfl rfl rfl rfl rfl lLs (by decide) hv13 ?_
            iterate 4 refine Wg.li rfl rfl rfl rfl (fun _ => rfl) ?_
            refine Wg.nil ?_
            have hx6 := Option.some.inj hx6
            subst hx6
            exact ⟨by decide, (Sub.canon [] [] [(1, lst (eLs eLeg) a1 .unk), (2, .int .i64 a2), (3, .ro (eTable a0)), (8, lst eLeg v13 .unk), (9, .int .i64 v11.high), (10, .int .i64 s1.2.2)] rfl (by decide) trivial (.pure rfl (Pure.lst (pLs pLeg) _ pUnk) (.pure rfl (.int _ _) (.pure rfl (.ro (pTab _)) (.pure rfl (Pure.lst pLeg _ pUnk) (.pure rfl (.int _ _) (.pure rfl (.int _ _) .nil)))))))⟩
          · have hx6 := iF hx6 hb12
            refine Wp.skip ?_
            have hx6 := Option.some.inj hx6
            subst hx6
            exact ⟨by decide, (Sub.canon [] [] [(1, lst (eLs eLeg) a1 .unk), (2, .int .i64 a2), (3, .ro (eTable a0)), (8, lst eLeg s1.1 .unk), (9, .int .i64 s1.2.1), (10, .int .i64 s1.2.2)] rfl (by decide) trivial (.pure rfl (Pure.lst (pLs pLeg) _ pUnk) (.pure rfl (.int _ _) (.pure rfl (.ro (pTab _)) (.pure rfl (Pure.lst pLeg _ pUnk) (.pure rfl (.int _ _) (.pure rfl (.int _ _) .nil)))))))⟩
      · intro x e' H' hP
        obtain ⟨hPx, hP2⟩ := hP
        subst hPx
        have hP := And.intro (True.intro) hP2
        refine ⟨fun _ => ?_, fun h => absurd (by decide) h⟩
        refine Sub.use hP.2 ?_
        refine Wp.reg rfl ?_
        refine Wg.li rfl rfl rfl rfl (fun _ => rfl) ?_
        obtain ⟨v14, hv14, ho⟩ := ob ho
        refine Wg.bin (k := .i64) (k2 := .i64) (a := s1.2.2) (b := 1) rfl rfl rfl rfl rfl (bAdd hv14) ?_
        refine Wg.li rfl rfl rfl rfl (fun _ => rfl) ?_
        refine Wg.nil ?_
        have ho := Option.some.inj ho
        subst ho
        exact ⟨by decide, (Sub.canon [] [] [(1, lst (eLs eLeg) a1 .unk), (2, .int .i64 a2), (3, .ro (eTable a0)), (8, lst eLeg o5.1 .unk), (9, .int .i64 o5.2), (10, .int .i64 v14)] rfl (by decide) trivial (.pure rfl (Pure.lst (pLs pLeg) _ pUnk) (.pure rfl (.int _ _) (.pure rfl (.ro (pTab _)) (.pure rfl (Pure.lst pLeg _ pUnk) (.pure rfl (.int _ _) (.pure rfl (.int _ _) .nil)))))))⟩
    · have ho := iF ho hb4
      refine Wp.exit ?_
      refine ⟨fun h => absurd h (by decide), fun _ => ?_⟩
      have ho := Option.some.inj ho
      subst ho
      exact ⟨by decide, by decide, (Sub.canon [] [] [(8, lst eLeg s1.1 .unk), (9, .int .i64 s1.2.1)] rfl (by decide) trivial (.pure rfl (Pure.lst pLeg _ pUnk) (.pure rfl (.int _ _) .nil)))⟩
  · intro x e' H' hP
    obtain ⟨hPx, hP2⟩ := hP
    subst hPx
    have hP := And.intro (True.intro) hP2
    refine ⟨fun _ => ?_, fun h => absurd (by decide) h⟩
    refine Sub.use hP.2 ?_
    refine Wp.seq ?_
    refine Wp.reg rfl ?_
    iterate 4 refine Wg.li rfl rfl rfl rfl (fun _ => rfl) ?_
    refine Wg.nil ?_
    refine ⟨fun _ => ?_, fun h => absurd (by decide) h⟩
    refine Wp.ret ?_
    have h := Option.some.inj h
    subst h
    exact ⟨.inr (by decide), _, rfl, rfl⟩
def s25 (N : Nat) (a0 : Table) (a1 : Int) (a2 : Int) (a3 : Int) : Option ((List Leg) × Int) :=
  (s58 N a0 a1 a2).bind fun v1 =>
  (if v1 then 
    (s67 N a3).bind fun v4 =>
    some v4
   else some false).bind fun v5 =>
  (s57 N a0 v5).bind fun v6 =>
  if (!(v6 == 0)) then
    some ([], v6)
  else
    (s80 N a0 a1 a2).bind fun v8 =>
    (s79 N a0 v8 a3).bind fun v9 =>
    if (v9.2 == 2880) then
      some ([], 4)
    else
      some (v9.1, 0)
abbrev F25 : Fr := { r := false, N := 39, m := 0 }
theorem at25 : ctx.P.funcs[25]? = some Tryd.f25 := by kernel_rfl
theorem s25_ev {N : Nat} {a0 : Table} {a1 : Int} {a2 : Int} {a3 : Int} {r : (List Leg) × Int} (h : s25 N a0 a1 a2 a3 = some r) : ∀ H, Ev ctx (.call 25 [.agg (eTable a0), .int .i64 a1, .int .i64 a2, .int .i64 a3] H (.tuple [lst eLeg r.1 .unk, .int .i64 r.2]) H) := by
  refine Ev.of_pure at25 rfl rfl (Nat.le_of_ble_eq_true rfl) (pCons (pv (pTab _)) (pCons (.int _ _) (pCons (.int _ _) (pCons (.int _ _) pNil)))) (.tuple (pCons (Pure.lst pLeg _ pUnk) (pCons (.int _ _) pNil))) ?_
  unfold s25 at h
  refine Wp.seq ?_
  refine Wp.reg rfl ?_
  refine Wg.box rfl rfl rfl rfl ?_
  iterate 2 refine Wg.li rfl rfl rfl rfl (fun _ => rfl) ?_
  refine Wg.nil ?_
  refine ⟨fun _ => ?_, fun h => absurd (by decide) h⟩
  refine Wp.seq ?_
  refine Wp.seq ?_
  refine Wp.drw _ [0, 1] rfl (by kernel_rfl) (Nat.le_refl _) ?_
  iterate 4 refine Wg.li rfl rfl rfl rfl (fun _ => rfl) ?_
  obtain ⟨v1, hv1, h⟩ := ob h
  refine Wg.call rfl rfl rfl rfl (s58_ev hv1 _) ?_
  refine Wg.li rfl rfl rfl rfl (fun _ => rfl) ?_
  obtain ⟨v5, hv2, h⟩ := ob h
  refine Wg.grp 3 21 18 v5 v1 rfl rfl (Nat.le_of_ble_eq_true rfl) (fun hb3 => ?_) (fun hb3 => ?_) ?_
  · have hv2 := iT hv2 hb3
    refine Wg.li rfl rfl rfl rfl (fun _ => rfl) ?_
    obtain ⟨v4, hv4, hv2⟩ := ob hv2
    refine Wg.call rfl rfl rfl rfl (s67_ev hv4 _) ?_
    refine Wg.li rfl rfl rfl rfl (fun _ => rfl) ?_
    refine Wg.nil ⟨some_b hv2, ?_, rfl⟩
    repeat (first | exact Env.le_refl _ | refine Env.le_put rfl ?_)
  · have hv2 := iF hv2 hb3
    iterate 2 refine Wg.skip rfl rfl ?_
    refine Wg.li rfl rfl rfl rfl (fun _ => rfl) ?_
    refine Wg.nil ⟨some_b hv2, ?_, rfl⟩
    repeat (first | exact Env.le_refl _ | refine Env.le_put rfl ?_)
  obtain ⟨v6, hv6, h⟩ := ob h
  refine Wg.call rfl rfl rfl rfl (s57_ev hv6 _) ?_
  refine Wg.li rfl rfl rfl rfl (fun _ => rfl) ?_
  refine Wg.nil ?_
  refine ⟨fun _ => ?_, fun h => absurd (by decide) h⟩
  refine Wp.seq ?_
  refine Wp.reg rfl ?_
  iterate 2 refine Wg.li rfl rfl rfl rfl (fun _ => rfl) ?_
  refine Wg.nil ?_
  refine ⟨fun _ => ?_, fun h => absurd (by decide) h⟩
  refine Wp.cond (!(v6 == 0)) rfl (fun hb7 => ?_) (fun hb7 => ?_)
  · have h := iT h hb7
    refine Wp.seq ?_
    refine Wp.reg rfl ?_
    iterate 3 refine Wg.li rfl rfl rfl rfl (fun _ => rfl) ?_
    refine Wg.nil ?_
    refine ⟨fun _ => ?_, fun h => absurd (by decide) h⟩
    refine Sub.use (Sub.canon [] [] [(8, lst eLeg [] .unk), (9, .int .i64 v6)] rfl (by decide) trivial (.unk (c := .full) rfl pLeg (.pure rfl (.int _ _) .nil))) ?_
    refine Wp.ret ?_
    refine ⟨fun h => absurd h (by decide), fun _ => ?_⟩
    have h := Option.some.inj h
    subst h
    exact ⟨.inr (by decide), _, rfl, rfl⟩
  · have h := iF h hb7
    refine Wp.skip ?_
    refine ⟨fun _ => ?_, fun h => absurd (by decide) h⟩
    refine Wp.seq ?_
    refine Wp.drw _ [0, 1] rfl (by kernel_rfl) (Nat.le_refl _) ?_
    iterate 4 refine Wg.li rfl rfl rfl rfl (fun _ => rfl) ?_
    obtain ⟨v8, hv8, h⟩ := ob h
    refine Wg.call rfl rfl rfl rfl (s80_ev hv8 _) ?_
    refine Wg.li rfl rfl rfl rfl (fun _ => rfl) ?_
    obtain ⟨v9, hv9, h⟩ := ob h
    refine Wg.call rfl rfl rfl rfl (s79_ev hv9 _) ?_
    iterate 5 refine Wg.li rfl rfl rfl rfl (fun _ => rfl) ?_
    refine Wg.nil ?_
    refine ⟨fun _ => ?_, fun h => absurd (by decide) h⟩
    refine Wp.seq ?_
    refine Wp.seq ?_
    refine Wp.reg rfl ?_
    iterate 2 refine Wg.li rfl rfl rfl rfl (fun _ => rfl) ?_
    refine Wg.nil ?_
    refine ⟨fun _ => ?_, fun h => absurd (by decide) h⟩
    refine Wp.cond (v9.2 == 2880) rfl (fun hb10 => ?_) (fun hb10 => ?_)
    · have h := iT h hb10
      refine Wp.seq ?_
      refine Wp.reg rfl ?_
      iterate 2 refine Wg.li rfl rfl rfl rfl (fun _ => rfl) ?_
      refine Wg.nil ?_
      refine ⟨fun _ => ?_, fun h => absurd (by decide) h⟩
      refine Sub.use (Sub.canon [] [] [(8, lst eLeg [] .unk), (9, .int .i64 4)] rfl (by decide) trivial (.unk (c := .full) rfl pLeg (.pure rfl (.int _ _) .nil))) ?_
      refine Wp.ret ?_
      refine ⟨fun h => absurd h (by decide), fun _ => ?_⟩
      have h := Option.some.inj h
      subst h
      exact ⟨.inr (by decide), _, rfl, rfl⟩
    · have h := iF h hb10
      refine Wp.skip ?_
      refine ⟨fun _ => ?_, fun h => absurd (by decide) h⟩
      refine Wp.seq ?_
      refine Wp.reg rfl ?_
      iterate 3 refine Wg.li rfl rfl rfl rfl (fun _ => rfl) ?_
      refine Wg.nil ?_
      refine ⟨fun _ => ?_, fun h => absurd (by decide) h⟩
      refine Wp.ret ?_
      have h := Option.some.inj h
      subst h
      exact ⟨.inr (by decide), _, rfl, rfl⟩
def s28 (N : Nat) (a0 : Table) (a1 : Int) (a2 : Int) (a3 : Int) : Option (Int × Int) :=
  (s58 N a0 a1 a2).bind fun v1 =>
  (if v1 then 
    (s67 N a3).bind fun v4 =>
    some v4
   else some false).bind fun v5 =>
  (s57 N a0 v5).bind fun v6 =>
  if (!(v6 == 0)) then
    some (0, v6)
  else
    (s80 N a0 a1 a2).bind fun v8 =>
    (s79 N a0 v8 a3).bind fun v9 =>
    if (v9.2 == 2880) then
      some (0, 4)
    else
      some (v9.2, 0)
abbrev F28 : Fr := { r := false, N := 39, m := 0 }
theorem at28 : ctx.P.funcs[28]? = some Tryd.f28 := by kernel_rfl
theorem s28_ev {N : Nat} {a0 : Table} {a1 : Int} {a2 : Int} {a3 : Int} {r : Int × Int} (h : s28 N a0 a1 a2 a3 = some r) : ∀ H, Ev ctx (.call 28 [.agg (eTable a0), .int .i64 a1, .int .i64 a2, .int .i64 a3] H (.tuple [.int .i64 r.1, .int .i64 r.2]) H) := by
  refine Ev.of_pure at28 rfl rfl (Nat.le_of_ble_eq_true rfl) (pCons (pv (pTab _)) (pCons (.int _ _) (pCons (.int _ _) (pCons (.int _ _) pNil)))) (.tuple (pCons (.int _ _) (pCons (.int _ _) pNil))) ?_
  unfold s28 at h
  refine Wp.seq ?_
  refine Wp.reg rfl ?_
  refine Wg.box rfl rfl rfl rfl ?_
  iterate 2 refine Wg.li rfl rfl rfl rfl (fun _ => rfl) ?_
  refine Wg.nil ?_
  refine ⟨fun _ => ?_, fun h => absurd (by decide) h⟩
  refine Wp.seq ?_
  refine Wp.seq ?_
  refine Wp.drw _ [0, 1] rfl (by kernel_rfl) (Nat.le_refl _) ?_
  iterate 4 refine Wg.li rfl rfl rfl rfl (fun _ => rfl) ?_
  obtain ⟨v1, hv1, h⟩ := ob h
  refine Wg.call rfl rfl rfl rfl (s58_ev hv1 _) ?_
  refine Wg.li rfl rfl rfl rfl (fun _ => rfl) ?_
  obtain ⟨v5, hv2, h⟩ := ob h
  refine Wg.grp 3 21 18 v5 v1 rfl rfl (Nat.le_of_ble_eq_true rfl) (fun hb3 => ?_) (fun hb3 => ?_) ?_
  · have hv2 := iT hv2 hb3
    refine Wg.li rfl rfl rfl rfl (fun _ => rfl) ?_
    obtain ⟨v4, hv4, hv2⟩ := ob hv2
    refine Wg.call rfl rfl rfl rfl (s67_ev hv4 _) ?_
    refine Wg.li rfl rfl rfl rfl (fun _ => rfl) ?_
    refine Wg.nil ⟨some_b hv2, ?_, rfl⟩
    repeat (first | exact Env.le_refl _ | refine Env.le_put rfl ?_)
  · have hv2 := iF hv2 hb3
    iterate 2 refine Wg.skip rfl rfl ?_
    refine Wg.li rfl rfl rfl rfl (fun _ => rfl) ?_
    refine Wg.nil ⟨some_b hv2, ?_, rfl⟩
    repeat (first | exact Env.le_refl _ | refine Env.le_put rfl ?_)
  obtain ⟨v6, hv6, h⟩ := ob h
  refine Wg.call rfl rfl rfl rfl (s57_ev hv6 _) ?_
  refine Wg.li rfl rfl rfl rfl (fun _ => rfl) ?_
  refine Wg.nil ?_
  refine ⟨fun _ => ?_, fun h => absurd (by decide) h⟩
  refine Wp.seq ?_
  refine Wp.reg rfl ?_
  iterate 2 refine Wg.li rfl rfl rfl rfl (fun _ => rfl) ?_
  refine Wg.nil ?_
  refine ⟨fun _ => ?_, fun h => absurd (by decide) h⟩
  refine Wp.cond (!(v6 == 0)) rfl (fun hb7 => ?_) (fun hb7 => ?_)
  · have h := iT h hb7
    refine Wp.seq ?_
    refine Wp.reg rfl ?_
    iterate 3 refine Wg.li rfl rfl rfl rfl (fun _ => rfl) ?_
    refine Wg.nil ?_
    refine ⟨fun _ => ?_, fun h => absurd (by decide) h⟩
    refine Wp.ret ?_
    refine ⟨fun h => absurd h (by decide), fun _ => ?_⟩
    have h := Option.some.inj h
    subst h
    exact ⟨.inr (by decide), _, rfl, rfl⟩
  · have h := iF h hb7
    refine Wp.skip ?_
    refine ⟨fun _ => ?_, fun h => absurd (by decide) h⟩
    refine Wp.seq ?_
    refine Wp.drw _ [0, 1] rfl (by kernel_rfl) (Nat.le_refl _) ?_
    iterate 4 refine Wg.li rfl rfl rfl rfl (fun _ => rfl) ?_
    obtain ⟨v8, hv8, h⟩ := ob h
    refine Wg.call rfl rfl rfl rfl (s80_ev hv8 _) ?_
    refine Wg.li rfl rfl rfl rfl (fun _ => rfl) ?_
    obtain ⟨v9, hv9, h⟩ := ob h
    refine Wg.call rfl rfl rfl rfl (s79_ev hv9 _) ?_
    iterate 5 refine Wg.li rfl rfl rfl rfl (fun _ => rfl) ?_
    refine Wg.nil ?_
    refine ⟨fun _ => ?_, fun h => absurd (by decide) h⟩
    refine Wp.seq ?_
    refine Wp.seq ?_
    refine Wp.reg rfl ?_
    iterate 2 refine Wg.li rfl rfl rfl rfl (fun _ => rfl) ?_
    refine Wg.nil ?_
    refine ⟨fun _ => ?_, fun h => absurd (by decide) h⟩
    refine Wp.cond (v9.2 == 2880) rfl (fun hb10 => ?_) (fun hb10 => ?_)
    · have h := iT h hb10
      refine Wp.seq ?_
      refine Wp.reg rfl ?_
      iterate 2 refine Wg.li rfl rfl rfl rfl (fun _ => rfl) ?_
      refine Wg.nil ?_
      refine ⟨fun _ => ?_, fun h => absurd (by decide) h⟩
      refine Wp.ret ?_
      refine ⟨fun h => absurd h (by decide), fun _ => ?_⟩
      have h := Option.some.inj h
      subst h
      exact ⟨.inr (by decide), _, rfl, rfl⟩
    · have h := iF h hb10
      refine Wp.skip ?_
      refine ⟨fun _ => ?_, fun h => absurd (by decide) h⟩
      refine Wp.seq ?_
      refine Wp.reg rfl ?_
      iterate 3 refine Wg.li rfl rfl rfl rfl (fun _ => rfl) ?_
      refine Wg.nil ?_
      refine ⟨fun _ => ?_, fun h => absurd (by decide) h⟩
      refine Wp.ret ?_
      have h := Option.some.inj h
      subst h
      exact ⟨.inr (by decide), _, rfl, rfl⟩
def s30_l21 (N : Nat) (a0 : Table) (a3 : Int) (v8 : (List (List Leg))) (s9 : Int × Int) : Option ((Int × Int) ⊕ (Int)) :=
  if (decide (s9.2 < (v8.length : Int))) then
    (ix v8 s9.2).bind fun v13 =>
    (s68 N a0 v13 a3).bind fun v14 =>
    (if v14.2.2 then
      (ix v8 s9.2).bind fun v18 =>
      (s76 N a0 v18 a3).bind fun v19 =>
      some (mn s9.1 v19.low)
    else
      some s9.1).bind fun o15 =>
    (ck (s9.2 + 1)).bind fun v20 =>
    some (.inl (o15, v20))
  else
    some (.inr s9.1)
def s30 (N : Nat) (a0 : Table) (a1 : Int) (a2 : Int) (a3 : Int) : Option (Int × Int) :=
  (s58 N a0 a1 a2).bind fun v1 =>
  (if v1 then 
    (s67 N a3).bind fun v4 =>
    some v4
   else some false).bind fun v5 =>
  (s57 N a0 v5).bind fun v6 =>
  if (!(v6 == 0)) then
    some (0, v6)
  else
    (s80 N a0 a1 a2).bind fun v8 =>
    (iter (s30_l21 N a0 a3 v8) N (2880, 0)).bind fun o10 =>
    if (o10 == 2880) then
      some (0, 4)
    else
      some (o10, 0)
abbrev F30 : Fr := { r := false, N := 65, m := 0 }
theorem at30 : ctx.P.funcs[30]? = some Tryd.f30 := by kernel_rfl
theorem s30_ev {N : Nat} {a0 : Table} {a1 : Int} {a2 : Int} {a3 : Int} {r : Int × Int} (h : s30 N a0 a1 a2 a3 = some r) : ∀ H, Ev ctx (.call 30 [.agg (eTable a0), .int .i64 a1, .int .i64 a2, .int .i64 a3] H (.tuple [.int .i64 r.1, .int .i64 r.2]) H) := by
  refine Ev.of_pure at30 rfl rfl (Nat.le_of_ble_eq_true rfl) (pCons (pv (pTab _)) (pCons (.int _ _) (pCons (.int _ _) (pCons (.int _ _) pNil)))) (.tuple (pCons (.int _ _) (pCons (.int _ _) pNil))) ?_
  unfold s30 at h
  refine Wp.seq ?_
  refine Wp.reg rfl ?_
  refine Wg.box rfl rfl rfl rfl ?_
  iterate 2 refine Wg.li rfl rfl rfl rfl (fun _ => rfl) ?_
  refine Wg.nil ?_
  refine ⟨fun _ => ?_, fun h => absurd (by decide) h⟩
  refine Wp.seq ?_
  refine Wp.seq ?_
  refine Wp.drw _ [0, 1] rfl (by kernel_rfl) (Nat.le_refl _) ?_
  iterate 4 refine Wg.li rfl rfl rfl rfl (fun _ => rfl) ?_
  obtain ⟨v1, hv1, h⟩ := ob h
  refine Wg.call rfl rfl rfl rfl (s58_ev hv1 _) ?_
  refine Wg.li rfl rfl rfl rfl (fun _ => rfl) ?_
  obtain ⟨v5, hv2, h⟩ := ob h
  refine Wg.grp 3 25 22 v5 v1 rfl rfl (Nat.le_of_ble_eq_true rfl) (fun hb3 => ?_) (fun hb3 => ?_) ?_
  · have hv2 := iT hv2 hb3
    refine Wg.li rfl rfl rfl rfl (fun _ => rfl) ?_
    obtain ⟨v4, hv4, hv2⟩ := ob hv2
    refine Wg.call rfl rfl rfl rfl (s67_ev hv4 _) ?_
    refine Wg.li rfl rfl rfl rfl (fun _ => rfl) ?_
    refine Wg.nil ⟨some_b hv2, ?_, rfl⟩
    repeat (first | exact Env.le_refl _ | refine Env.le_put rfl ?_)
  · have hv2 := iF hv2 hb3
    iterate 2 refine Wg.skip rfl rfl ?_
    refine Wg.li rfl rfl rfl rfl (fun _ => rfl) ?_
    refine Wg.nil ⟨some_b hv2, ?_, rfl⟩
    repeat (first | exact Env.le_refl _ | refine Env.le_put rfl ?_)
  obtain ⟨v6, hv6, h⟩ := ob h
  refine Wg.call rfl rfl rfl rfl (s57_ev hv6 _) ?_
  refine Wg.li rfl rfl rfl rfl (fun _ => rfl) ?_
  refine Wg.nil ?_
  refine ⟨fun _ => ?_, fun h => absurd (by decide) h⟩
  refine Wp.seq ?_
  refine Wp.reg rfl ?_
  iterate 2 refine Wg.li rfl rfl rfl rfl (fun _ => rfl) ?_
  refine Wg.nil ?_
  refine ⟨fun _ => ?_, fun h => absurd (by decide) h⟩
  refine Wp.cond (!(v6 == 0)) rfl (fun hb7 => ?_) (fun hb7 => ?_)
  · have h := iT h hb7
    refine Wp.seq ?_
    refine Wp.reg rfl ?_
    iterate 3 refine Wg.li rfl rfl rfl rfl (fun _ => rfl) ?_
    refine Wg.nil ?_
    refine ⟨fun _ => ?_, fun h => absurd (by decide) h⟩
    refine Wp.ret ?_
    refine ⟨fun h => absurd h (by decide), fun _ => ?_⟩
    have h := Option.some.inj h
    subst h
    exact ⟨.inr (by decide), _, rfl, rfl⟩
  · have h := iF h hb7
    refine Wp.skip ?_
    refine ⟨fun _ => ?_, fun h => absurd (by decide) h⟩
    refine Wp.seq ?_
    refine Wp.reg rfl ?_
    refine Wg.li rfl rfl rfl rfl (fun _ => rfl) ?_
    refine Wg.nil ?_
    refine ⟨fun _ => ?_, fun h => absurd (by decide) h⟩
    refine Wp.seq ?_
    refine Wp.reg rfl ?_
    iterate 3 refine Wg.li rfl rfl rfl rfl (fun _ => rfl) ?_
    obtain ⟨v8, hv8, h⟩ := ob h
    refine Wg.call rfl rfl rfl rfl (s80_ev hv8 _) ?_
    refine Wg.li rfl rfl rfl rfl (fun _ => rfl) ?_
    refine Wg.nil ?_
    refine ⟨fun _ => ?_, fun h => absurd (by decide) h⟩
    refine Wp.seq ?_
    refine Wp.seq ?_
    refine Wp.reg rfl ?_
    refine Wg.li rfl rfl rfl rfl (fun _ => rfl) ?_
    refine Wg.nil ?_
    refine ⟨fun _ => ?_, fun h => absurd (by decide) h⟩
    refine Wp.block ?_
    obtain ⟨o10, hx11, h⟩ := ob h
    refine Sub.use (Sub.canon [] [] [(3, .int .i64 a3), (4, .ro (eTable a0)), (11, .int .i64 2880), (12, lst (eLs eLeg) v8 .unk), (13, .int .i64 0)] rfl (by decide) trivial (.pure rfl (.int _ _) (.pure rfl (.ro (pTab _)) (.pure rfl (.int _ _) (.pure rfl (Pure.lst (pLs pLeg) _ pUnk) (.pure rfl (.int _ _) .nil)))))) ?_
    refine Wp.after (Wp.iterS (s30_l21 N a0 a3 v8) (fun s9 => Env.ofList [(3, .int .i64 a3), (4, .ro (eTable a0)), (11, .int .i64 s9.1), (12, lst (eLs eLeg) v8 .unk), (13, .int .i64 s9.2)]) (fun s9 => hp []) (fun o10 x e' H' => x = .exit 0 ∧ Sub ctx F30 (Env.ofList [(11, .int .i64 o10)]) (hp []) e' H') ?_ N (2880, 0) _ hx11) ?_
    · intro s9 o ho
      unfold s30_l21 at ho
      refine Wp.seq ?_
      refine Wp.seq ?_
      refine Wp.reg rfl ?_
      iterate 4 refine Wg.li rfl rfl rfl rfl (fun _ => rfl) ?_
      refine Wg.nil ?_
      refine ⟨fun _ => ?_, fun h => absurd (by decide) h⟩
      refine Wp.cond (decide (s9.2 < (v8.length : Int))) rfl (fun hb12 => ?_) (fun hb12 => ?_)
      · have ho := iT ho hb12
        refine Wp.skip ?_
        refine ⟨fun _ => ?_, fun h => absurd (by decide) h⟩
        refine Wp.seq ?_
        refine Wp.block ?_
        refine Wp.seq ?_
        refine Wp.drw _ [0, 4] rfl (by kernel_rfl) (Nat.le_refl _) ?_
        iterate 3 refine Wg.li rfl rfl rfl rfl (fun _ => rfl) ?_
        obtain ⟨v13, hv13, ho⟩ := ob ho
        refine Wg.idx (f := (eLs eLeg)) (xs := v8) (c := .unk) rfl rfl rfl rfl rfl rfl rfl lLs (by decide) hv13 ?_
        iterate 2 refine Wg.li rfl rfl rfl rfl (fun _ => rfl) ?_
        obtain ⟨v14, hv14, ho⟩ := ob ho
        refine Wg.call rfl rfl rfl rfl (s68_ev hv14 _) ?_
        iterate 4 refine Wg.li rfl rfl rfl rfl (fun _ => rfl) ?_
        refine Wg.alloc rfl rfl rfl rfl ?_
        refine Wg.heavy true (Nat.le_of_ble_eq_true rfl) rfl rfl rfl rfl ?_
        iterate 2 refine Wg.li rfl rfl rfl rfl (fun _ => rfl) ?_
        refine Wg.nil ?_
        refine ⟨fun _ => ?_, fun h => absurd (by decide) h⟩
        refine Wp.seq ?_
        refine Wp.reg rfl ?_
        refine Wg.li rfl rfl rfl rfl (fun _ => rfl) ?_
        refine Wg.nil ?_
        refine ⟨fun _ => ?_, fun h => absurd (by decide) h⟩
        obtain ⟨o15, hx16, ho⟩ := ob ho
        refine Wp.after (Q' := fun x e' H' => x = .normal ∧ Sub ctx F30 (Env.ofList [(3, .int .i64 a3), (4, .ro (eTable a0)), (11, .int .i64 o15), (12, lst (eLs eLeg) v8 .unk), (13, .int .i64 s9.2)]) (hp []) e' H') ?_ ?_
        · refine Wp.cond v14.2.2 rfl (fun hb17 => ?_) (fun hb17 => ?_)
          · have hx16 := iT hx16 hb17
            refine Wp.drw _ [1, 5] rfl (by kernel_rfl) (Nat.le_refl _) ?_
            iterate 4 refine Wg.li rfl rfl rfl rfl (fun _ => rfl) ?_
            obtain ⟨v18, hv18, hx16⟩ := ob hx16
            refine Wg.idx (f := (eLs eLeg)) (xs := v8) (c := .unk) rfl rfl rfl rfl rfl rfl rfl lLs (by decide) hv18 ?_
            iterate 2 refine Wg.li rfl rfl rfl rfl (fun _ => rfl) ?_
            obtain ⟨v19, hv19, hx16⟩ := ob hx16
            refine Wg.call rfl rfl rfl rfl (s76_ev hv19 _) ?_
            iterate 3 refine Wg.li rfl rfl rfl rfl (fun _ => rfl) ?_
            refine Wg.nil ?_
            have hx16 := Option.some.inj hx16
            subst hx16
            exact ⟨by decide, (Sub.canon [] [] [(3, .int .i64 a3), (4, .ro (eTable a0)), (11, .int .i64 (mn s9.1 v19.low)), (12, lst (eLs eLeg) v8 .unk), (13, .int .i64 s9.2)] rfl (by decide) trivial (.pure rfl (.int _ _) (.pure rfl (.ro (pTab _)) (.pure rfl (.int _ _) (.pure rfl (Pure.lst (pLs pLeg) _ pUnk) (.pure rfl (.int _ _) .nil))))))⟩
          · have hx16 := iF hx16 hb17
            refine Wp.skip ?_
            have hx16 := Option.some.inj hx16
            subst hx16
            exact ⟨by decide, (Sub.canon [] [] [(3, .int .i64 a3), (4, .ro (eTable a0)), (11, .int .i64 s9.1), (12, lst (eLs eLeg) v8 .unk), (13, .int .i64 s9.2)] rfl (by decide) trivial (.pure rfl (.int _ _) (.pure rfl (.ro (pTab _)) (.pure rfl (.int _ _) (.pure rfl (Pure.lst (pLs pLeg) _ pUnk) (.pure rfl (.int _ _) .nil))))))⟩
        · intro x e' H' hP
          obtain ⟨hPx, hP2⟩ := hP
          subst hPx
          have hP := And.intro (True.intro) hP2
          refine ⟨fun _ => ?_, fun h => absurd (by decide) h⟩
          refine Sub.use hP.2 ?_
          refine Wp.reg rfl ?_
          refine Wg.li rfl rfl rfl rfl (fun _ => rfl) ?_
          obtain ⟨v20, hv20, ho⟩ := ob ho
          refine Wg.bin (k := .i64) (k2 := .i64) (a := s9.2) (b := 1) rfl rfl rfl rfl rfl (bAdd hv20) ?_
          refine Wg.li rfl rfl rfl rfl (fun _ => rfl) ?_
          refine Wg.nil ?_
          have ho := Option.some.inj ho
          subst ho
          exact ⟨by decide, (Sub.canon [] [] [(3, .int .i64 a3), (4, .ro (eTable a0)), (11, .int .i64 o15), (12, lst (eLs eLeg) v8 .unk), (13, .int .i64 v20)] rfl (by decide) trivial (.pure rfl (.int _ _) (.pure rfl (.ro (pTab _)) (.pure rfl (.int _ _) (.pure rfl (Pure.lst (pLs pLeg) _ pUnk) (.pure rfl (.int _ _) .nil))))))⟩
      · have ho := iF ho hb12
        refine Wp.exit ?_
        refine ⟨fun h => absurd h (by decide), fun _ => ?_⟩
        have ho := Option.some.inj ho
        subst ho
        exact ⟨by decide, by decide, (Sub.canon [] [] [(11, .int .i64 s9.1)] rfl (by decide) trivial (.pure rfl (.int _ _) .nil))⟩
    · intro x e' H' hP
      obtain ⟨hPx, hP2⟩ := hP
      subst hPx
      have hP := And.intro (True.intro) hP2
      refine ⟨fun _ => ?_, fun h => absurd (by decide) h⟩
      refine Sub.use hP.2 ?_
      refine Wp.seq ?_
      refine Wp.seq ?_
      refine Wp.reg rfl ?_
      iterate 2 refine Wg.li rfl rfl rfl rfl (fun _ => rfl) ?_
      refine Wg.nil ?_
      refine ⟨fun _ => ?_, fun h => absurd (by decide) h⟩
      refine Wp.cond (o10 == 2880) rfl (fun hb22 => ?_) (fun hb22 => ?_)
      · have h := iT h hb22
        refine Wp.seq ?_
        refine Wp.reg rfl ?_
        iterate 2 refine Wg.li rfl rfl rfl rfl (fun _ => rfl) ?_
        refine Wg.nil ?_
        refine ⟨fun _ => ?_, fun h => absurd (by decide) h⟩
        refine Wp.ret ?_
        refine ⟨fun h => absurd h (by decide), fun _ => ?_⟩
        have h := Option.some.inj h
        subst h
        exact ⟨.inr (by decide), _, rfl, rfl⟩
      · have h := iF h hb22
        refine Wp.skip ?_
        refine ⟨fun _ => ?_, fun h => absurd (by decide) h⟩
        refine Wp.seq ?_
        refine Wp.reg rfl ?_
        iterate 3 refine Wg.li rfl rfl rfl rfl (fun _ => rfl) ?_
        refine Wg.nil ?_
        refine ⟨fun _ => ?_, fun h => absurd (by decide) h⟩
        refine Wp.ret ?_
        have h := Option.some.inj h
        subst h
        exact ⟨.inr (by decide), _, rfl, rfl⟩
def s32_l32 (N : Nat) (a0 : Table) (a1 : Int) (s23 : Int) : Option ((Int) ⊕ (Int)) :=
  (if (decide (s23 ≥ 0)) then 
    (s71 N a0 a1 s23).bind fun v28 =>
    some (!(v28 == s23))
   else some false).bind fun v29 =>
  if v29 then
    (ck (s23 - 1)).bind fun v31 =>
    some (.inl v31)
  else
    some (.inr s23)
def s32_l43 (N : Nat) (a0 : Table) (a1 : Int) (a3 : Int) (v8 : (List (List Leg))) (s9 : Int × Int) : Option ((Int × Int) ⊕ (Int)) :=
  if (decide (s9.2 < (v8.length : Int))) then
    ((ix v8 s9.2).bind fun v15 =>
    (ix v15 0).bind fun v16 =>
    (s72 N a0 v16).bind fun v17 =>
    (ix v8 s9.2).bind fun v18 =>
    (ix v18 0).bind fun v19 =>
    (s73 N a0 v19).bind fun v20 =>
    (ck (v17.leave + v20.low)).bind fun v21 =>
    (ck (v21 - a0.load)).bind fun v22 =>
    (iter (s32_l32 N a0 a1) N (mn 2879 v22)).bind fun o24 =>
    if (decide (o24 ≤ s9.1)) then
      some s9.1
    else
      (ix v8 s9.2).bind fun v34 =>
      (s68 N a0 v34 o24).bind fun v35 =>
      (if v35.2.1 then 
        (ix v8 s9.2).bind fun v38 =>
        (s76 N a0 v38 o24).bind fun v39 =>
        some (decide (v39.high ≤ a3))
       else some false).bind fun v40 =>
      if v40 then
        some o24
      else
        some s9.1).bind fun o13 =>
    (ck (s9.2 + 1)).bind fun v42 =>
    some (.inl (o13, v42))
  else
    some (.inr s9.1)
def s32 (N : Nat) (a0 : Table) (a1 : Int) (a2 : Int) (a3 : Int) : Option (Int × Int) :=
  (s58 N a0 a1 a2).bind fun v1 =>
  (if v1 then 
    (s67 N a3).bind fun v4 =>
    some v4
   else some false).bind fun v5 =>
  (s57 N a0 v5).bind fun v6 =>
  if (!(v6 == 0)) then
    some (0, v6)
  else
    (s80 N a0 a1 a2).bind fun v8 =>
    (iter (s32_l43 N a0 a1 a3 v8) N ((-1), 0)).bind fun o10 =>
    if (decide (o10 < 0)) then
      some (0, 4)
    else
      some (o10, 0)
abbrev F32 : Fr := { r := false, N := 107, m := 0 }
theorem at32 : ctx.P.funcs[32]? = some Tryd.f32 := by kernel_rfl
theorem s32_ev {N : Nat} {a0 : Table} {a1 : Int} {a2 : Int} {a3 : Int} {r : Int × Int} (h : s32 N a0 a1 a2 a3 = some r) : ∀ H, Ev ctx (.call 32 [.agg (eTable a0), .int .i64 a1, .int .i64 a2, .int .i64 a3] H (.tuple [.int .i64 r.1, .int .i64 r.2]) H) := by
  refine Ev.of_pure at32 rfl rfl (Nat.le_of_ble_eq_true rfl) (pCons (pv (pTab _)) (pCons (.int _ _) (pCons (.int _ _) (pCons (.int _ _) pNil)))) (.tuple (pCons (.int _ _) (pCons (.int _ _) pNil))) ?_
  unfold s32 at h
  refine Wp.seq ?_
  refine Wp.reg rfl ?_
  refine Wg.box rfl rfl rfl rfl ?_
  iterate 2 refine Wg.li rfl rfl rfl rfl (fun _ => rfl) ?_
  refine Wg.nil ?_
  refine ⟨fun _ => ?_, fun h => absurd (by decide) h⟩
  refine Wp.seq ?_
  refine Wp.seq ?_
  refine Wp.drw _ [0, 1] rfl (by kernel_rfl) (Nat.le_refl _) ?_
  iterate 4 refine Wg.li rfl rfl rfl rfl (fun _ => rfl) ?_
  obtain ⟨v1, hv1, h⟩ := ob h
  refine Wg.call rfl rfl rfl rfl (s58_ev hv1 _) ?_
  refine Wg.li rfl rfl rfl rfl (fun _ => rfl) ?_
  obtain ⟨v5, hv2, h⟩ := ob h
  refine Wg.grp 3 26 23 v5 v1 rfl rfl (Nat.le_of_ble_eq_true rfl) (fun hb3 => ?_) (fun hb3 => ?_) ?_
  · have hv2 := iT hv2 hb3
    refine Wg.li rfl rfl rfl rfl (fun _ => rfl) ?_
    obtain ⟨v4, hv4, hv2⟩ := ob hv2
    refine Wg.call rfl rfl rfl rfl (s67_ev hv4 _) ?_
    refine Wg.li rfl rfl rfl rfl (fun _ => rfl) ?_
    refine Wg.nil ⟨some_b hv2, ?_, rfl⟩
    repeat (first | exact Env.le_refl _ | refine Env.le_put rfl ?_)
  · have hv2 := iF hv2 hb3
    iterate 2 refine Wg.skip rfl rfl ?_
    refine Wg.li rfl rfl rfl rfl (fun _ => rfl) ?_
    refine Wg.nil ⟨some_b hv2, ?_, rfl⟩
    repeat (first | exact Env.le_refl _ | refine Env.le_put rfl ?_)
  obtain ⟨v6, hv6, h⟩ := ob h
  refine Wg.call rfl rfl rfl rfl (s57_ev hv6 _) ?_
  refine Wg.li rfl rfl rfl rfl (fun _ => rfl) ?_
  refine Wg.nil ?_
  refine ⟨fun _ => ?_, fun h => absurd (by decide) h⟩
  refine Wp.seq ?_
  refine Wp.reg rfl ?_
  iterate 2 refine Wg.li rfl rfl rfl rfl (fun _ => rfl) ?_
  refine Wg.nil ?_
  refine ⟨fun _ => ?_, fun h => absurd (by decide) h⟩
  refine Wp.cond (!(v6 == 0)) rfl (fun hb7 => ?_) (fun hb7 => ?_)
  · have h := iT h hb7
    refine Wp.seq ?_
    refine Wp.reg rfl ?_
    iterate 3 refine Wg.li rfl rfl rfl rfl (fun _ => rfl) ?_
    refine Wg.nil ?_
    refine ⟨fun _ => ?_, fun h => absurd (by decide) h⟩
    refine Wp.ret ?_
    refine ⟨fun h => absurd h (by decide), fun _ => ?_⟩
    have h := Option.some.inj h
    subst h
    exact ⟨.inr (by decide), _, rfl, rfl⟩
  · have h := iF h hb7
    refine Wp.skip ?_
    refine ⟨fun _ => ?_, fun h => absurd (by decide) h⟩
    refine Wp.seq ?_
    refine Wp.reg rfl ?_
    refine Wg.li rfl rfl rfl rfl (fun _ => rfl) ?_
    refine Wg.nil ?_
    refine ⟨fun _ => ?_, fun h => absurd (by decide) h⟩
    refine Wp.seq ?_
    refine Wp.reg rfl ?_
    iterate 3 refine Wg.li rfl rfl rfl rfl (fun _ => rfl) ?_
    obtain ⟨v8, hv8, h⟩ := ob h
    refine Wg.call rfl rfl rfl rfl (s80_ev hv8 _) ?_
    refine Wg.li rfl rfl rfl rfl (fun _ => rfl) ?_
    refine Wg.nil ?_
    refine ⟨fun _ => ?_, fun h => absurd (by decide) h⟩
    refine Wp.seq ?_
    refine Wp.seq ?_
    refine Wp.reg rfl ?_
    refine Wg.li rfl rfl rfl rfl (fun _ => rfl) ?_
    refine Wg.nil ?_
    refine ⟨fun _ => ?_, fun h => absurd (by decide) h⟩
    refine Wp.block ?_
    obtain ⟨o10, hx11, h⟩ := ob h
    refine Sub.use (Sub.canon [] [] [(1, .int .i64 a1), (3, .int .i64 a3), (4, .ro (eTable a0)), (11, .int .i64 (-1)), (12, lst (eLs eLeg) v8 .unk), (13, .int .i64 0)] rfl (by decide) trivial (.pure rfl (.int _ _) (.pure rfl (.int _ _) (.pure rfl (.ro (pTab _)) (.pure rfl (.int _ _) (.pure rfl (Pure.lst (pLs pLeg) _ pUnk) (.pure rfl (.int _ _) .nil))))))) ?_
    refine Wp.after (Wp.iterS (s32_l43 N a0 a1 a3 v8) (fun s9 => Env.ofList [(1, .int .i64 a1), (3, .int .i64 a3), (4, .ro (eTable a0)), (11, .int .i64 s9.1), (12, lst (eLs eLeg) v8 .unk), (13, .int .i64 s9.2)]) (fun s9 => hp []) (fun o10 x e' H' => x = .exit 0 ∧ Sub ctx F32 (Env.ofList [(11, .int .i64 o10)]) (hp []) e' H') ?_ N ((-1), 0) _ hx11) ?_
    · intro s9 o ho
      unfold s32_l43 at ho
      refine Wp.seq ?_
      refine Wp.seq ?_
      refine Wp.reg rfl ?_
      iterate 4 refine Wg.li rfl rfl rfl rfl (fun _ => rfl) ?_
      refine Wg.nil ?_
      refine ⟨fun _ => ?_, fun h => absurd (by decide) h⟩
      refine Wp.cond (decide (s9.2 < (v8.length : Int))) rfl (fun hb12 => ?_) (fun hb12 => ?_)
      · have ho := iT ho hb12
        refine Wp.skip ?_
        refine ⟨fun _ => ?_, fun h => absurd (by decide) h⟩
        refine Wp.seq ?_
        obtain ⟨o13, hx14, ho⟩ := ob ho
        refine Wp.after (Q' := fun x e' H' => x = .normal ∧ Sub ctx F32 (Env.ofList [(1, .int .i64 a1), (3, .int .i64 a3), (4, .ro (eTable a0)), (11, .int .i64 o13), (12, lst (eLs eLeg) v8 .unk), (13, .int .i64 s9.2)]) (hp []) e' H') ?_ ?_
        · refine Wp.block ?_
          refine Wp.seq ?_
          refine Wp.drw _ [0, 4, 6, 9, 13, 15, 20] rfl (by kernel_rfl) (Nat.le_refl _) ?_
          iterate 3 refine Wg.li rfl rfl rfl rfl (fun _ => rfl) ?_
          obtain ⟨v15, hv15, hx14⟩ := ob hx14
          refine Wg.idx (f := (eLs eLeg)) (xs := v8) (c := .unk) rfl rfl rfl rfl rfl rfl rfl lLs (by decide) hv15 ?_
          refine Wg.li rfl rfl rfl rfl (fun _ => rfl) ?_
          obtain ⟨v16, hv16, hx14⟩ := ob hx14
          refine Wg.idx (f := eLeg) (xs := v15) (c := .unk) rfl rfl rfl rfl rfl rfl rfl lLeg (by decide) hv16 ?_
          refine Wg.li rfl rfl rfl rfl (fun _ => rfl) ?_
          obtain ⟨v17, hv17, hx14⟩ := ob hx14
          refine Wg.call rfl rfl rfl rfl (s72_ev hv17 _) ?_
          iterate 4 refine Wg.li rfl rfl rfl rfl (fun _ => rfl) ?_
          obtain ⟨v18, hv18, hx14⟩ := ob hx14
          refine Wg.idx (f := (eLs eLeg)) (xs := v8) (c := .unk) rfl rfl rfl rfl rfl rfl rfl lLs (by decide) hv18 ?_
          refine Wg.li rfl rfl rfl rfl (fun _ => rfl) ?_
          obtain ⟨v19, hv19, hx14⟩ := ob hx14
          refine Wg.idx (f := eLeg) (xs := v18) (c := .unk) rfl rfl rfl rfl rfl rfl rfl lLeg (by decide) hv19 ?_
          refine Wg.li rfl rfl rfl rfl (fun _ => rfl) ?_
          obtain ⟨v20, hv20, hx14⟩ := ob hx14
          refine Wg.call rfl rfl rfl rfl (s73_ev hv20 _) ?_
          refine Wg.li rfl rfl rfl rfl (fun _ => rfl) ?_
          obtain ⟨v21, hv21, hx14⟩ := ob hx14
          refine Wg.bin (k := .i64) (k2 := .i64) (a := v17.leave) (b := v20.low) rfl rfl rfl rfl rfl (bAdd hv21) ?_
          iterate 2 refine Wg.li rfl rfl rfl rfl (fun _ => rfl) ?_
          obtain ⟨v22, hv22, hx14⟩ := ob hx14
          refine Wg.bin (k := .i64) (k2 := .i64) (a := v21) (b := a0.load) rfl rfl rfl rfl rfl (bSub hv22) ?_
          iterate 2 refine Wg.li rfl rfl rfl rfl (fun _ => rfl) ?_
          refine Wg.nil ?_
          refine ⟨fun _ => ?_, fun h => absurd (by decide) h⟩
          refine Wp.seq ?_
          refine Wp.block ?_
          obtain ⟨o24, hx25, hx14⟩ := ob hx14
          refine Sub.use (Sub.canon [] [] [(1, .int .i64 a1), (3, .int .i64 a3), (4, .ro (eTable a0)), (11, .int .i64 s9.1), (12, lst (eLs eLeg) v8 .unk), (13, .int .i64 s9.2), (14, .int .i64 (mn 2879 v22))] rfl (by decide) trivial (.pure rfl (.int _ _) (.pure rfl (.int _ _) (.pure rfl (.ro (pTab _)) (.pure rfl (.int _ _) (.pure rfl (Pure.lst (pLs pLeg) _ pUnk) (.pure rfl (.int _ _) (.pure rfl (.int _ _) .nil)))))))) ?_
          refine Wp.after (Wp.iterS (s32_l32 N a0 a1) (fun s23 => Env.ofList [(1, .int .i64 a1), (3, .int .i64 a3), (4, .ro (eTable a0)), (11, .int .i64 s9.1), (12, lst (eLs eLeg) v8 .unk), (13, .int .i64 s9.2), (14, .int .i64 s23)]) (fun s23 => hp []) (fun o24 x e' H' => x = .exit 2 ∧ Sub ctx F32 (Env.ofList [(1, .int .i64 a1), (3, .int .i64 a3), (4, .ro (eTable a0)), (11, .int .i64 s9.1), (12, lst (eLs eLeg) v8 .unk), (13, .int .i64 s9.2), (14, .int .i64 o24)]) (hp []) e' H') ?_ N (mn 2879 v22) _ hx25) ?_
          · intro s23 o ho
            unfold s32_l32 at ho
            refine Wp.seq ?_
            refine Wp.seq ?_
            refine Wp.reg rfl ?_
            iterate 3 refine Wg.li rfl rfl rfl rfl (fun _ => rfl) ?_
            obtain ⟨v29, hv26, ho⟩ := ob ho
            refine Wg.grp 7 73 66 v29 (decide (s23 ≥ 0)) rfl rfl (Nat.le_of_ble_eq_true rfl) (fun hb27 => ?_) (fun hb27 => ?_) ?_
            · have hv26 := iT hv26 hb27
              iterate 3 refine Wg.li rfl rfl rfl rfl (fun _ => rfl) ?_
              obtain ⟨v28, hv28, hv26⟩ := ob hv26
              refine Wg.call rfl rfl rfl rfl (s71_ev hv28 _) ?_
              iterate 3 refine Wg.li rfl rfl rfl rfl (fun _ => rfl) ?_
              refine Wg.nil ⟨some_b hv26, ?_, rfl⟩
              repeat (first | exact Env.le_refl _ | refine Env.le_put rfl ?_)
            · have hv26 := iF hv26 hb27
              iterate 6 refine Wg.skip rfl rfl ?_
              refine Wg.li rfl rfl rfl rfl (fun _ => rfl) ?_
              refine Wg.nil ⟨some_b hv26, ?_, rfl⟩
              repeat (first | exact Env.le_refl _ | refine Env.le_put rfl ?_)
            refine Wg.nil ?_
            refine ⟨fun _ => ?_, fun h => absurd (by decide) h⟩
            refine Wp.cond v29 rfl (fun hb30 => ?_) (fun hb30 => ?_)
            · have ho := iT ho hb30
              refine Wp.skip ?_
              refine ⟨fun _ => ?_, fun h => absurd (by decide) h⟩
              refine Wp.block ?_
              refine Wp.reg rfl ?_
              refine Wg.li rfl rfl rfl rfl (fun _ => rfl) ?_
              obtain ⟨v31, hv31, ho⟩ := ob ho
              refine Wg.bin (k := .i64) (k2 := .i64) (a := s23) (b := 1) rfl rfl rfl rfl rfl (bSub hv31) ?_
              refine Wg.li rfl rfl rfl rfl (fun _ => rfl) ?_
              refine Wg.nil ?_
              have ho := Option.some.inj ho
              subst ho
              exact ⟨by decide, (Sub.canon [] [] [(1, .int .i64 a1), (3, .int .i64 a3), (4, .ro (eTable a0)), (11, .int .i64 s9.1), (12, lst (eLs eLeg) v8 .unk), (13, .int .i64 s9.2), (14, .int .i64 v31)] rfl (by decide) trivial (.pure rfl (.int _ _) (.pure rfl (.int _ _) (.pure rfl (.ro (pTab _)) (.pure rfl (.int _ _) (.pure rfl (Pure.lst (pLs pLeg) _ pUnk) (.pure rfl (.int _ _) (.pure rfl (.int _ _) .nil))))))))⟩
            · have ho := iF ho hb30
              refine Wp.exit ?_
              refine ⟨fun h => absurd h (by decide), fun _ => ?_⟩
              have ho := Option.some.inj ho
              subst ho
              exact ⟨by decide, by decide, (Sub.canon [] [] [(1, .int .i64 a1), (3, .int .i64 a3), (4, .ro (eTable a0)), (11, .int .i64 s9.1), (12, lst (eLs eLeg) v8 .unk), (13, .int .i64 s9.2), (14, .int .i64 s23)] rfl (by decide) trivial (.pure rfl (.int _ _) (.pure rfl (.int _ _) (.pure rfl (.ro (pTab _)) (.pure rfl (.int _ _) (.pure rfl (Pure.lst (pLs pLeg) _ pUnk) (.pure rfl (.int _ _) (.pure rfl (.int _ _) .nil))))))))⟩
          · intro x e' H' hP
            obtain ⟨hPx, hP2⟩ := hP
            subst hPx
            have hP := And.intro (True.intro) hP2
            refine ⟨fun _ => ?_, fun h => absurd (by decide) h⟩
            refine Sub.use hP.2 ?_
            refine Wp.seq ?_
            refine Wp.seq ?_
            refine Wp.reg rfl ?_
            iterate 3 refine Wg.li rfl rfl rfl rfl (fun _ => rfl) ?_
            refine Wg.nil ?_
            refine ⟨fun _ => ?_, fun h => absurd (by decide) h⟩
            refine Wp.cond (decide (o24 ≤ s9.1)) rfl (fun hb33 => ?_) (fun hb33 => ?_)
            · have hx14 := iT hx14 hb33
              refine Wp.exit ?_
              refine ⟨fun h => absurd h (by decide), fun _ => ?_⟩
              have hx14 := Option.some.inj hx14
              subst hx14
              exact ⟨by decide, (Sub.canon [] [] [(1, .int .i64 a1), (3, .int .i64 a3), (4, .ro (eTable a0)), (11, .int .i64 s9.1), (12, lst (eLs eLeg) v8 .unk), (13, .int .i64 s9.2)] rfl (by decide) trivial (.pure rfl (.int _ _) (.pure rfl (.int _ _) (.pure rfl (.ro (pTab _)) (.pure rfl (.int _ _) (.pure rfl (Pure.lst (pLs pLeg) _ pUnk) (.pure rfl (.int _ _) .nil)))))))⟩
            · have hx14 := iF hx14 hb33
              refine Wp.skip ?_
              refine ⟨fun _ => ?_, fun h => absurd (by decide) h⟩
              refine Wp.seq ?_
              refine Wp.drw _ [0, 4] rfl (by kernel_rfl) (Nat.le_refl _) ?_
              iterate 3 refine Wg.li rfl rfl rfl rfl (fun _ => rfl) ?_
              obtain ⟨v34, hv34, hx14⟩ := ob hx14
              refine Wg.idx (f := (eLs eLeg)) (xs := v8) (c := .unk) rfl rfl rfl rfl rfl rfl rfl lLs (by decide) hv34 ?_
              iterate 2 refine Wg.li rfl rfl rfl rfl (fun _ => rfl) ?_
              obtain ⟨v35, hv35, hx14⟩ := ob hx14
              refine Wg.call rfl rfl rfl rfl (s68_ev hv35 _) ?_
              iterate 4 refine Wg.li rfl rfl rfl rfl (fun _ => rfl) ?_
              refine Wg.alloc rfl rfl rfl rfl ?_
              refine Wg.heavy true (Nat.le_of_ble_eq_true rfl) rfl rfl rfl rfl ?_
              iterate 2 refine Wg.li rfl rfl rfl rfl (fun _ => rfl) ?_
              refine Wg.nil ?_
              refine ⟨fun _ => ?_, fun h => absurd (by decide) h⟩
              refine Wp.seq ?_
              refine Wp.drw _ [2, 6] rfl (by kernel_rfl) (Nat.le_refl _) ?_
              iterate 2 refine Wg.li rfl rfl rfl rfl (fun _ => rfl) ?_
              obtain ⟨v40, hv36, hx14⟩ := ob hx14
              refine Wg.grp 11 102 91 v40 v35.2.1 rfl rfl (Nat.le_of_ble_eq_true rfl) (fun hb37 => ?_) (fun hb37 => ?_) ?_
              · have hv36 := iT hv36 hb37
                iterate 3 refine Wg.li rfl rfl rfl rfl (fun _ => rfl) ?_
                obtain ⟨v38, hv38, hv36⟩ := ob hv36
                refine Wg.idx (f := (eLs eLeg)) (xs := v8) (c := .unk) rfl rfl rfl rfl rfl rfl rfl lLs (by decide) hv38 ?_
                iterate 2 refine Wg.li rfl rfl rfl rfl (fun _ => rfl) ?_
                obtain ⟨v39, hv39, hv36⟩ := ob hv36
                refine Wg.call rfl rfl rfl rfl (s76_ev hv39 _) ?_
                iterate 4 refine Wg.li rfl rfl rfl rfl (fun _ => rfl) ?_
                refine Wg.nil ⟨some_b hv36, ?_, rfl⟩
                repeat (first | exact Env.le_refl _ | refine Env.le_put rfl ?_)
              · have hv36 := iF hv36 hb37
                iterate 10 refine Wg.skip rfl rfl ?_
                refine Wg.li rfl rfl rfl rfl (fun _ => rfl) ?_
                refine Wg.nil ⟨some_b hv36, ?_, rfl⟩
                repeat (first | exact Env.le_refl _ | refine Env.le_put rfl ?_)
              refine Wg.nil ?_
              refine ⟨fun _ => ?_, fun h => absurd (by decide) h⟩
              refine Wp.cond v40 rfl (fun hb41 => ?_) (fun hb41 => ?_)
              · have hx14 := iT hx14 hb41
                refine Wp.reg rfl ?_
                iterate 2 refine Wg.li rfl rfl rfl rfl (fun _ => rfl) ?_
                refine Wg.nil ?_
                have hx14 := Option.some.inj hx14
                subst hx14
                exact ⟨by decide, (Sub.canon [] [] [(1, .int .i64 a1), (3, .int .i64 a3), (4, .ro (eTable a0)), (11, .int .i64 o24), (12, lst (eLs eLeg) v8 .unk), (13, .int .i64 s9.2)] rfl (by decide) trivial (.pure rfl (.int _ _) (.pure rfl (.int _ _) (.pure rfl (.ro (pTab _)) (.pure rfl (.int _ _) (.pure rfl (Pure.lst (pLs pLeg) _ pUnk) (.pure rfl (.int _ _) .nil)))))))⟩
              · have hx14 := iF hx14 hb41
                refine Wp.skip ?_
                have hx14 := Option.some.inj hx14
                subst hx14
                exact ⟨by decide, (Sub.canon [] [] [(1, .int .i64 a1), (3, .int .i64 a3), (4, .ro (eTable a0)), (11, .int .i64 s9.1), (12, lst (eLs eLeg) v8 .unk), (13, .int .i64 s9.2)] rfl (by decide) trivial (.pure rfl (.int _ _) (.pure rfl (.int _ _) (.pure rfl (.ro (pTab _)) (.pure rfl (.int _ _) (.pure rfl (Pure.lst (pLs pLeg) _ pUnk) (.pure rfl (.int _ _) .nil)))))))⟩
        · intro x e' H' hP
          obtain ⟨hPx, hP2⟩ := hP
          subst hPx
          have hP := And.intro (True.intro) hP2
          refine ⟨fun _ => ?_, fun h => absurd (by decide) h⟩
          refine Sub.use hP.2 ?_
          refine Wp.reg rfl ?_
          refine Wg.li rfl rfl rfl rfl (fun _ => rfl) ?_
          obtain ⟨v42, hv42, ho⟩ := ob ho
          refine Wg.bin (k := .i64) (k2 := .i64) (a := s9.2) (b := 1) rfl rfl rfl rfl rfl (bAdd hv42) ?_
          refine Wg.li rfl rfl rfl rfl (fun _ => rfl) ?_
          refine Wg.nil ?_
          have ho := Option.some.inj ho
          subst ho
          exact ⟨by decide, (Sub.canon [] [] [(1, .int .i64 a1), (3, .int .i64 a3), (4, .ro (eTable a0)), (11, .int .i64 o13), (12, lst (eLs eLeg) v8 .unk), (13, .int .i64 v42)] rfl (by decide) trivial (.pure rfl (.int _ _) (.pure rfl (.int _ _) (.pure rfl (.ro (pTab _)) (.pure rfl (.int _ _) (.pure rfl (Pure.lst (pLs pLeg) _ pUnk) (.pure rfl (.int _ _) .nil)))))))⟩
      · have ho := iF ho hb12
        refine Wp.exit ?_
        refine ⟨fun h => absurd h (by decide), fun _ => ?_⟩
        have ho := Option.some.inj ho
        subst ho
        exact ⟨by decide, by decide, (Sub.canon [] [] [(11, .int .i64 s9.1)] rfl (by decide) trivial (.pure rfl (.int _ _) .nil))⟩
    · intro x e' H' hP
      obtain ⟨hPx, hP2⟩ := hP
      subst hPx
      have hP := And.intro (True.intro) hP2
      refine ⟨fun _ => ?_, fun h => absurd (by decide) h⟩
      refine Sub.use hP.2 ?_
      refine Wp.seq ?_
      refine Wp.seq ?_
      refine Wp.reg rfl ?_
      iterate 2 refine Wg.li rfl rfl rfl rfl (fun _ => rfl) ?_
      refine Wg.nil ?_
      refine ⟨fun _ => ?_, fun h => absurd (by decide) h⟩
      refine Wp.cond (decide (o10 < 0)) rfl (fun hb44 => ?_) (fun hb44 => ?_)
      · have h := iT h hb44
        refine Wp.seq ?_
        refine Wp.reg rfl ?_
        iterate 2 refine Wg.li rfl rfl rfl rfl (fun _ => rfl) ?_
        refine Wg.nil ?_
        refine ⟨fun _ => ?_, fun h => absurd (by decide) h⟩
        refine Wp.ret ?_
        refine ⟨fun h => absurd h (by decide), fun _ => ?_⟩
        have h := Option.some.inj h
        subst h
        exact ⟨.inr (by decide), _, rfl, rfl⟩
      · have h := iF h hb44
        refine Wp.skip ?_
        refine ⟨fun _ => ?_, fun h => absurd (by decide) h⟩
        refine Wp.seq ?_
        refine Wp.reg rfl ?_
        iterate 3 refine Wg.li rfl rfl rfl rfl (fun _ => rfl) ?_
        refine Wg.nil ?_
        refine ⟨fun _ => ?_, fun h => absurd (by decide) h⟩
        refine Wp.ret ?_
        have h := Option.some.inj h
        subst h
        exact ⟨.inr (by decide), _, rfl, rfl⟩
def s34_l22 (N : Nat) (a0 : Table) (a1 : Int) (a2 : Int) (s8 : (List Int) × Int) : Option (((List Int) × Int) ⊕ ((List Int))) :=
  if (decide (s8.2 < (a0.offices.length : Int))) then
    (if (!(s8.2 == a1)) then
      (s80 N a0 a1 s8.2).bind fun v15 =>
      (s79 N a0 v15 a2).bind fun v16 =>
      some v16.2
    else
      some a2).bind fun o12 =>
    (if (o12 == 2880) then
      some (-1)
    else
      some o12).bind fun o17 =>
    (ap 8 s8.1 ([o17])).bind fun v20 =>
    (ck (s8.2 + 1)).bind fun v21 =>
    some (.inl (v20, v21))
  else
    some (.inr s8.1)
def s34 (N : Nat) (a0 : Table) (a1 : Int) (a2 : Int) : Option ((List Int) × Int) :=
  (s86 N a0 a1).bind fun v1 =>
  (if v1 then 
    (s67 N a2).bind fun v4 =>
    some v4
   else some false).bind fun v5 =>
  (s57 N a0 v5).bind fun v6 =>
  if (!(v6 == 0)) then
    some ([], v6)
  else
    (iter (s34_l22 N a0 a1 a2) N ([], 0)).bind fun o9 =>
    some (o9, 0)
abbrev F34 : Fr := { r := false, N := 52, m := 0 }
theorem at34 : ctx.P.funcs[34]? = some Tryd.f34 := by kernel_rfl
theorem s34_ev {N : Nat} {a0 : Table} {a1 : Int} {a2 : Int} {r : (List Int) × Int} (h : s34 N a0 a1 a2 = some r) : ∀ H, Ev ctx (.call 34 [.agg (eTable a0), .int .i64 a1, .int .i64 a2] H (.tuple [lst eInt r.1 .unk, .int .i64 r.2]) H) := by
  refine Ev.of_pure at34 rfl rfl (Nat.le_of_ble_eq_true rfl) (pCons (pv (pTab _)) (pCons (.int _ _) (pCons (.int _ _) pNil))) (.tuple (pCons (Pure.lst pInt _ pUnk) (pCons (.int _ _) pNil))) ?_
  unfold s34 at h
  refine Wp.seq ?_
  refine Wp.reg rfl ?_
  refine Wg.box rfl rfl rfl rfl ?_
  iterate 2 refine Wg.li rfl rfl rfl rfl (fun _ => rfl) ?_
  refine Wg.nil ?_
  refine ⟨fun _ => ?_, fun h => absurd (by decide) h⟩
  refine Wp.seq ?_
  refine Wp.seq ?_
  refine Wp.drw _ [0, 1] rfl (by kernel_rfl) (Nat.le_refl _) ?_
  iterate 3 refine Wg.li rfl rfl rfl rfl (fun _ => rfl) ?_
  obtain ⟨v1, hv1, h⟩ := ob h
  refine Wg.call rfl rfl rfl rfl (s86_ev hv1 _) ?_
  refine Wg.li rfl rfl rfl rfl (fun _ => rfl) ?_
  obtain ⟨v5, hv2, h⟩ := ob h
  refine Wg.grp 3 19 16 v5 v1 rfl rfl (Nat.le_of_ble_eq_true rfl) (fun hb3 => ?_) (fun hb3 => ?_) ?_
  · have hv2 := iT hv2 hb3
    refine Wg.li rfl rfl rfl rfl (fun _ => rfl) ?_
    obtain ⟨v4, hv4, hv2⟩ := ob hv2
    refine Wg.call rfl rfl rfl rfl (s67_ev hv4 _) ?_
    refine Wg.li rfl rfl rfl rfl (fun _ => rfl) ?_
    refine Wg.nil ⟨some_b hv2, ?_, rfl⟩
    repeat (first | exact Env.le_refl _ | refine Env.le_put rfl ?_)
  · have hv2 := iF hv2 hb3
    iterate 2 refine Wg.skip rfl rfl ?_
    refine Wg.li rfl rfl rfl rfl (fun _ => rfl) ?_
    refine Wg.nil ⟨some_b hv2, ?_, rfl⟩
    repeat (first | exact Env.le_refl _ | refine Env.le_put rfl ?_)
  obtain ⟨v6, hv6, h⟩ := ob h
  refine Wg.call rfl rfl rfl rfl (s57_ev hv6 _) ?_
  refine Wg.li rfl rfl rfl rfl (fun _ => rfl) ?_
  refine Wg.nil ?_
  refine ⟨fun _ => ?_, fun h => absurd (by decide) h⟩
  refine Wp.seq ?_
  refine Wp.reg rfl ?_
  iterate 2 refine Wg.li rfl rfl rfl rfl (fun _ => rfl) ?_
  refine Wg.nil ?_
  refine ⟨fun _ => ?_, fun h => absurd (by decide) h⟩
  refine Wp.cond (!(v6 == 0)) rfl (fun hb7 => ?_) (fun hb7 => ?_)
  · have h := iT h hb7
    refine Wp.seq ?_
    refine Wp.reg rfl ?_
    iterate 3 refine Wg.li rfl rfl rfl rfl (fun _ => rfl) ?_
    refine Wg.nil ?_
    refine ⟨fun _ => ?_, fun h => absurd (by decide) h⟩
    refine Sub.use (Sub.canon [] [] [(6, lst eInt [] .unk), (7, .int .i64 v6)] rfl (by decide) trivial (.unk (c := .full) rfl pInt (.pure rfl (.int _ _) .nil))) ?_
    refine Wp.ret ?_
    refine ⟨fun h => absurd h (by decide), fun _ => ?_⟩
    have h := Option.some.inj h
    subst h
    exact ⟨.inr (by decide), _, rfl, rfl⟩
  · have h := iF h hb7
    refine Wp.skip ?_
    refine ⟨fun _ => ?_, fun h => absurd (by decide) h⟩
    refine Wp.seq ?_
    refine Wp.reg rfl ?_
    refine Wg.li rfl rfl rfl rfl (fun _ => rfl) ?_
    refine Wg.nil ?_
    refine ⟨fun _ => ?_, fun h => absurd (by decide) h⟩
    refine Wp.seq ?_
    refine Wp.seq ?_
    refine Wp.reg rfl ?_
    refine Wg.li rfl rfl rfl rfl (fun _ => rfl) ?_
    refine Wg.nil ?_
    refine ⟨fun _ => ?_, fun h => absurd (by decide) h⟩
    refine Wp.block ?_
    obtain ⟨o9, hx10, h⟩ := ob h
    refine Sub.use (Sub.canon [none] [.gone] [(1, .int .i64 a1), (2, .int .i64 a2), (3, .ro (eTable a0)), (9, lst eInt [] (capT [] 0)), (10, .int .i64 0)] rfl (by decide) trivial (.pure rfl (.int _ _) (.pure rfl (.int _ _) (.pure rfl (.ro (pTab _)) (.grow0 rfl (.pure rfl (.int _ _) .nil)))))) ?_
    refine Wp.after (Wp.iterS (s34_l22 N a0 a1 a2) (fun s8 => Env.ofList [(1, .int .i64 a1), (2, .int .i64 a2), (3, .ro (eTable a0)), (9, lst eInt s8.1 (capT s8.1 0)), (10, .int .i64 s8.2)]) (fun s8 => hp [ownT s8.1]) (fun o9 x e' H' => x = .exit 0 ∧ Sub ctx F34 (Env.ofList [(9, lst eInt o9 (capT o9 0))]) (hp [ownT o9]) e' H') ?_ N ([], 0) _ hx10) ?_
    · intro s8 o ho
      unfold s34_l22 at ho
      refine Wp.seq ?_
      refine Wp.seq ?_
      refine Wp.reg rfl ?_
      iterate 5 refine Wg.li rfl rfl rfl rfl (fun _ => rfl) ?_
      refine Wg.nil ?_
      refine ⟨fun _ => ?_, fun h => absurd (by decide) h⟩
      refine Wp.cond (decide (s8.2 < (a0.offices.length : Int))) rfl (fun hb11 => ?_) (fun hb11 => ?_)
      · have ho := iT ho hb11
        refine Wp.skip ?_
        refine ⟨fun _ => ?_, fun h => absurd (by decide) h⟩
        refine Wp.seq ?_
        refine Wp.block ?_
        refine Wp.seq ?_
        refine Wp.reg rfl ?_
        iterate 2 refine Wg.li rfl rfl rfl rfl (fun _ => rfl) ?_
        refine Wg.nil ?_
        refine ⟨fun _ => ?_, fun h => absurd (by decide) h⟩
        refine Wp.seq ?_
        refine Wp.seq ?_
        refine Wp.reg rfl ?_
        iterate 3 refine Wg.li rfl rfl rfl rfl (fun _ => rfl) ?_
        refine Wg.nil ?_
        refine ⟨fun _ => ?_, fun h => absurd (by decide) h⟩
        obtain ⟨o12, hx13, ho⟩ := ob ho
        refine Wp.after (Q' := fun x e' H' => x = .normal ∧ Sub ctx F34 (Env.ofList [(1, .int .i64 a1), (2, .int .i64 a2), (3, .ro (eTable a0)), (9, lst eInt s8.1 (capT s8.1 0)), (10, .int .i64 s8.2), (11, .int .i64 o12)]) (hp [ownT s8.1]) e' H') ?_ ?_
        · refine Wp.cond (!(s8.2 == a1)) rfl (fun hb14 => ?_) (fun hb14 => ?_)
          · have hx13 := iT hx13 hb14
            refine Wp.drw _ [0, 1] rfl (by kernel_rfl) (Nat.le_refl _) ?_
            iterate 4 refine Wg.li rfl rfl rfl rfl (fun _ => rfl) ?_
            obtain ⟨v15, hv15, hx13⟩ := ob hx13
            refine Wg.call rfl rfl rfl rfl (s80_ev hv15 _) ?_
            refine Wg.li rfl rfl rfl rfl (fun _ => rfl) ?_
            obtain ⟨v16, hv16, hx13⟩ := ob hx13
            refine Wg.call rfl rfl rfl rfl (s79_ev hv16 _) ?_
            iterate 4 refine Wg.li rfl rfl rfl rfl (fun _ => rfl) ?_
            refine Wg.nil ?_
            have hx13 := Option.some.inj hx13
            subst hx13
            exact ⟨by decide, (Sub.canon [some 0] [ownT s8.1] [(1, .int .i64 a1), (2, .int .i64 a2), (3, .ro (eTable a0)), (9, lst eInt s8.1 (capT s8.1 0)), (10, .int .i64 s8.2), (11, .int .i64 v16.2)] rfl (by decide) ⟨.grow rfl, trivial⟩ (.pure rfl (.int _ _) (.pure rfl (.int _ _) (.pure rfl (.ro (pTab _)) (.grow rfl pInt rfl (.pure rfl (.int _ _) (.pure rfl (.int _ _) .nil)))))))⟩
          · have hx13 := iF hx13 hb14
            refine Wp.skip ?_
            have hx13 := Option.some.inj hx13
            subst hx13
            exact ⟨by decide, (Sub.canon [some 0] [ownT s8.1] [(1, .int .i64 a1), (2, .int .i64 a2), (3, .ro (eTable a0)), (9, lst eInt s8.1 (capT s8.1 0)), (10, .int .i64 s8.2), (11, .int .i64 a2)] rfl (by decide) ⟨.grow rfl, trivial⟩ (.pure rfl (.int _ _) (.pure rfl (.int _ _) (.pure rfl (.ro (pTab _)) (.grow rfl pInt rfl (.pure rfl (.int _ _) (.pure rfl (.int _ _) .nil)))))))⟩
        · intro x e' H' hP
          obtain ⟨hPx, hP2⟩ := hP
          subst hPx
          have hP := And.intro (True.intro) hP2
          refine ⟨fun _ => ?_, fun h => absurd (by decide) h⟩
          refine Sub.use hP.2 ?_
          refine Wp.seq ?_
          refine Wp.seq ?_
          refine Wp.reg rfl ?_
          iterate 2 refine Wg.li rfl rfl rfl rfl (fun _ => rfl) ?_
          refine Wg.nil ?_
          refine ⟨fun _ => ?_, fun h => absurd (by decide) h⟩
          obtain ⟨o17, hx18, ho⟩ := ob ho
          refine Wp.after (Q' := fun x e' H' => x = .normal ∧ Sub ctx F34 (Env.ofList [(1, .int .i64 a1), (2, .int .i64 a2), (3, .ro (eTable a0)), (9, lst eInt s8.1 (capT s8.1 0)), (10, .int .i64 s8.2), (11, .int .i64 o17)]) (hp [ownT s8.1]) e' H') ?_ ?_
          · refine Wp.cond (o12 == 2880) rfl (fun hb19 => ?_) (fun hb19 => ?_)
            · have hx18 := iT hx18 hb19
              refine Wp.reg rfl ?_
              refine Wg.li rfl rfl rfl rfl (fun _ => rfl) ?_
              refine Wg.nil ?_
              have hx18 := Option.some.inj hx18
              subst hx18
              exact ⟨by decide, (Sub.canon [some 0] [ownT s8.1] [(1, .int .i64 a1), (2, .int .i64 a2), (3, .ro (eTable a0)), (9, lst eInt s8.1 (capT s8.1 0)), (10, .int .i64 s8.2), (11, .int .i64 (-1))] rfl (by decide) ⟨.grow rfl, trivial⟩ (.pure rfl (.int _ _) (.pure rfl (.int _ _) (.pure rfl (.ro (pTab _)) (.grow rfl pInt rfl (.pure rfl (.int _ _) (.pure rfl (.int _ _) .nil)))))))⟩
            · have hx18 := iF hx18 hb19
              refine Wp.skip ?_
              have hx18 := Option.some.inj hx18
              subst hx18
              exact ⟨by decide, (Sub.canon [some 0] [ownT s8.1] [(1, .int .i64 a1), (2, .int .i64 a2), (3, .ro (eTable a0)), (9, lst eInt s8.1 (capT s8.1 0)), (10, .int .i64 s8.2), (11, .int .i64 o12)] rfl (by decide) ⟨.grow rfl, trivial⟩ (.pure rfl (.int _ _) (.pure rfl (.int _ _) (.pure rfl (.ro (pTab _)) (.grow rfl pInt rfl (.pure rfl (.int _ _) (.pure rfl (.int _ _) .nil)))))))⟩
          · intro x e' H' hP
            obtain ⟨hPx, hP2⟩ := hP
            subst hPx
            have hP := And.intro (True.intro) hP2
            refine ⟨fun _ => ?_, fun h => absurd (by decide) h⟩
            refine Sub.use hP.2 ?_
            refine Wp.reg rfl ?_
            iterate 3 refine Wg.li rfl rfl rfl rfl (fun _ => rfl) ?_
            obtain ⟨v20, hv20, ho⟩ := ob ho
            refine Wg.appG (k := 0) (f := eInt) (xs := s8.1) (ys := [o17]) (c2 := .full) (Nat.le_of_ble_eq_true rfl) rfl rfl rfl rfl rfl rfl rfl rfl rfl lInt (by decide) (by decide) (by simp) rfl hv20 ?_
            refine Wg.li rfl rfl rfl rfl (fun _ => rfl) ?_
            refine Wg.nil ?_
            refine ⟨fun _ => ?_, fun h => absurd (by decide) h⟩
            refine Wp.reg rfl ?_
            refine Wg.li rfl rfl rfl rfl (fun _ => rfl) ?_
            obtain ⟨v21, hv21, ho⟩ := ob ho
            refine Wg.bin (k := .i64) (k2 := .i64) (a := s8.2) (b := 1) rfl rfl rfl rfl rfl (bAdd hv21) ?_
            refine Wg.li rfl rfl rfl rfl (fun _ => rfl) ?_
            refine Wg.nil ?_
            have ho := Option.some.inj ho
            subst ho
            exact ⟨by decide, (Sub.canon [some 1] [ownT v20] [(1, .int .i64 a1), (2, .int .i64 a2), (3, .ro (eTable a0)), (9, lst eInt v20 (capT v20 0)), (10, .int .i64 v21)] rfl (by decide) ⟨.grow rfl, trivial⟩ (.pure rfl (.int _ _) (.pure rfl (.int _ _) (.pure rfl (.ro (pTab _)) (.grow rfl pInt rfl (.pure rfl (.int _ _) .nil))))))⟩
      · have ho := iF ho hb11
        refine Wp.exit ?_
        refine ⟨fun h => absurd h (by decide), fun _ => ?_⟩
        have ho := Option.some.inj ho
        subst ho
        exact ⟨by decide, by decide, (Sub.canon [some 0] [ownT s8.1] [(9, lst eInt s8.1 (capT s8.1 0))] rfl (by decide) ⟨.grow rfl, trivial⟩ (.grow rfl pInt rfl .nil))⟩
    · intro x e' H' hP
      obtain ⟨hPx, hP2⟩ := hP
      subst hPx
      have hP := And.intro (True.intro) hP2
      refine ⟨fun _ => ?_, fun h => absurd (by decide) h⟩
      refine Sub.use hP.2 ?_
      refine Wp.seq ?_
      refine Wp.reg rfl ?_
      iterate 3 refine Wg.li rfl rfl rfl rfl (fun _ => rfl) ?_
      refine Wg.nil ?_
      refine ⟨fun _ => ?_, fun h => absurd (by decide) h⟩
      refine Sub.use (Sub.canon [] [] [(6, lst eInt o9 .unk), (7, .int .i64 0)] rfl (by decide) trivial (.unk (c := (capT o9 0)) rfl pInt (.pure rfl (.int _ _) .nil))) ?_
      refine Wp.ret ?_
      have h := Option.some.inj h
      subst h
      exact ⟨.inr (by decide), _, rfl, rfl⟩
end Go.Abs.Tr
