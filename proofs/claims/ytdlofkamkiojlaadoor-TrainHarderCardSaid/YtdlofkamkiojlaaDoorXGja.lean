/- Printed walk: the statement TrainHarder. Conditions: none. -/
import Derived.Test.YtdlofkamkiojlaaDoorXGl
import Derived.Test.YtdlofkamkiojlaaDoorXGs
set_option maxRecDepth 100000
set_option maxHeartbeats 1000000
set_option linter.unusedVariables false
namespace Go.Abs.Tr
open Go Go.Abs Go.Proofs
def s10 (N : Nat) (a0 : Table) (a1_0 : Int) (a1_1 : Int) (a1_2 : Int) (a1_3 : Int) (a1_4 : Int) (a1_5 : Int) (a2 : (List Int)) : Option (Bool) :=
  (s35 N a0).bind fun v1 =>
  if ((!v1) || (decide ((a0.offices.length : Int) < 2))) then
    (s23 4000).bind fun v5 =>
    some v5
  else
    (s36 N a1_2 30).bind fun v6 =>
    (if (decide ((a0.trains.length : Int) > 0)) then
      (s36 N a1_1 (a0.trains.length : Int)).bind fun v11 =>
      (ap 40 ([]) a0.trains).bind fun v12 =>
      if a0.trains.isEmpty then
        none
      else
        (ix a0.trains v11).bind fun v14 =>
        (s36 N a1_3 9).bind fun v15 =>
        (ck (v14.late.low - v15)).bind fun v16 =>
        (ix a0.trains v11).bind fun v17 =>
        (ck (v17.late.high + v6)).bind fun v18 =>
        (s46 N (mx 0 v16) (mn 90 v18)).bind fun v19 =>
        (inA v12.length v11).bind fun v20 =>
        (ix v12 v11).bind fun v21 =>
        (setA v12 v11 (Train.mk v21.stops v19)).bind fun v22 =>
        (lenC v12.length v22).bind fun v23 =>
        some ((Table.mk a0.offices v22 a0.load), a0)
    else
      some (a0, a0)).bind fun o8 =>
    (s36 N a1_0 2).bind fun v24 =>
    (if (v24 == 0) then
      (ck (a0.load - v6)).bind fun v30 =>
      some (o8.1, (Table.mk o8.2.offices o8.2.trains (mx 0 v30)))
    else
      (s36 N a1_1 (a0.offices.length : Int)).bind fun v31 =>
      (ix a0.offices v31).bind fun v32 =>
      (ap 16 ([]) v32).bind fun v33 =>
      if v32.isEmpty then
        (if (decide ((0 : Int) > 0)) then
          (ck ((0 : Int) - 1)).bind fun v38 =>
          (ck ((0 : Int) - 1)).bind fun v39 =>
          (ix ([] : List Span) v39).bind fun v40 =>
          (ck ((0 : Int) - 1)).bind fun v41 =>
          (ix ([] : List Span) v41).bind fun v42 =>
          (ck (v42.high + v6)).bind fun v43 =>
          (s46 N v40.low (mn 2879 v43)).bind fun v44 =>
          (ix ([] : List Span) v38).bind fun v45 =>
          none
        else
          some (([] : List Span), o8.1, o8.2)).bind fun o35 =>
        (ap 24 ([]) a0.offices).bind fun v46 =>
        if a0.offices.isEmpty then
          none
        else
          (inA v46.length v31).bind fun v48 =>
          (setA v46 v31 o35.1).bind fun v49 =>
          (lenC v46.length v49).bind fun v50 =>
          some (o35.2.1, (Table.mk v49 o35.2.2.trains o35.2.2.load))
      else
        (if (decide (((v33.length : Nat) : Int) > 0)) then
          (ck (((v33.length : Nat) : Int) - 1)).bind fun v56 =>
          (ck (((v33.length : Nat) : Int) - 1)).bind fun v57 =>
          (inA v33.length v57).bind fun v58 =>
          (ix v33 v57).bind fun v59 =>
          (ck (((v33.length : Nat) : Int) - 1)).bind fun v60 =>
          (inA v33.length v60).bind fun v61 =>
          (ix v33 v60).bind fun v62 =>
          (ck (v62.high + v6)).bind fun v63 =>
          (s46 N v59.low (mn 2879 v63)).bind fun v64 =>
          (inA v33.length v56).bind fun v65 =>
          (ix v33 v56).bind fun v66 =>
          (setA v33 v56 v64).bind fun v67 =>
          (lenC v33.length v67).bind fun v68 =>
          some (v67, o8.1, o8.2)
        else
          (lenC v33.length v33).bind fun v69 =>
          some (v33, o8.1, o8.2)).bind fun o53 =>
        (ap 24 ([]) a0.offices).bind fun v70 =>
        if a0.offices.isEmpty then
          none
        else
          (inA v70.length v31).bind fun v72 =>
          (setA v70 v31 o53.1).bind fun v73 =>
          (lenC v70.length v73).bind fun v74 =>
          some (o53.2.1, (Table.mk v73 o53.2.2.trains o53.2.2.load))).bind fun o27 =>
    (s36 N a1_4 (a0.offices.length : Int)).bind fun v75 =>
    (ck (v75 + 1)).bind fun v76 =>
    (ck ((a0.offices.length : Int) - 1)).bind fun v77 =>
    (s36 N a1_3 v77).bind fun v78 =>
    (ck (v76 + v78)).bind fun v79 =>
    (s36 N v79 (a0.offices.length : Int)).bind fun v80 =>
    (s36 N a1_5 2880).bind fun v81 =>
    (s27 N a0 v75 v80 v81).bind fun v82 =>
    (s27 N o27.1 v75 v80 v81).bind fun v83 =>
    (s27 N o27.2 v75 v80 v81).bind fun v84 =>
    if (((((v82.2 == 0) && ((!(v84.2 == 0)) || (decide (v84.1 > v82.1)))) || ((v83.2 == 0) && ((!(v82.2 == 0)) || (decide (v83.1 < v82.1))))) || (v84.2 == 30)) || (v83.2 == 30)) then
      some false
    else
      (s42 N a0 a2).bind fun v100 =>
      if (((v100.1.length : Int) == 0) || (v100.2.1 == v100.2.2)) then
        (s23 4000).bind fun v104 =>
        some v104
      else
        (s16 N a0 v100.1 v81).bind fun v105 =>
        (s16 N o27.1 v100.1 v81).bind fun v106 =>
        (s16 N o27.2 v100.1 v81).bind fun v107 =>
        (if (((((v105.2 == 0) && (v106.2 == 0)) && (v107.2 == 0)) && ((!(v106.1 == 2)) || (v105.1 == 2))) && (decide (v107.1 ≥ v105.1))) then 
          (s23 4000).bind fun v120 =>
          some v120
         else some false).bind fun v121 =>
        some v121
abbrev F10 : Fr := { r := false, N := 287, m := 0 }
theorem at10 : ctx.P.funcs[10]? = some Tryd.f10 := by kernel_rfl
theorem s10_ev {N : Nat} {a0 : Table} {a1_0 : Int} {a1_1 : Int} {a1_2 : Int} {a1_3 : Int} {a1_4 : Int} {a1_5 : Int} {a2 : (List Int)} {r : Bool} (h : s10 N a0 a1_0 a1_1 a1_2 a1_3 a1_4 a1_5 a2 = some r) : ∀ H, Ev ctx (.call 10 [.agg (eTable a0), .agg [.int .i64 a1_0, .int .i64 a1_1, .int .i64 a1_2, .int .i64 a1_3, .int .i64 a1_4, .int .i64 a1_5], lst eInt a2 .unk] H (.bool r) H) := by
  refine Ev.of_pure at10 rfl rfl (Nat.le_of_ble_eq_true rfl) (pCons (pv (pTab _)) (pCons (pv (pCons (.int _ _) (pCons (.int _ _) (pCons (.int _ _) (pCons (.int _ _) (pCons (.int _ _) (pCons (.int _ _) pNil))))))) (pCons (Pure.lst pInt _ pUnk) pNil))) (.bool _) ?_
  unfold s10 at h
  refine Wp.seq ?_
  refine Wp.reg rfl ?_
  refine Wg.box rfl rfl rfl rfl ?_
  refine Wg.box rfl rfl rfl rfl ?_
  refine Wg.li rfl rfl rfl rfl (fun _ => rfl) ?_
  refine Wg.nil ?_
  refine ⟨fun _ => ?_, fun h => absurd (by decide) h⟩
  refine Wp.seq ?_
  refine Wp.seq ?_
  refine Wp.reg rfl ?_
  refine Wg.li rfl rfl rfl rfl (fun _ => rfl) ?_
  obtain ⟨v1, hv1, h⟩ := ob h
  refine Wg.call rfl rfl rfl rfl (s35_ev hv1 _) ?_
  iterate 2 refine Wg.li rfl rfl rfl rfl (fun _ => rfl) ?_
  have hv2 := ifOr (!v1) (decide ((a0.offices.length : Int) < 2))
  refine Wg.grp 5 36 31 ((!v1) || (decide ((a0.offices.length : Int) < 2))) (!v1) rfl rfl (Nat.le_of_ble_eq_true rfl) (fun hb3 => ?_) (fun hb3 => ?_) ?_
  · have hv2 := iT hv2 hb3
    iterate 4 refine Wg.skip rfl rfl ?_
    refine Wg.li rfl rfl rfl rfl (fun _ => rfl) ?_
    refine Wg.nil ⟨some_b hv2, ?_, rfl⟩
    repeat (first | exact Env.le_refl _ | refine Env.le_put rfl ?_)
  · have hv2 := iF hv2 hb3
    iterate 5 refine Wg.li rfl rfl rfl rfl (fun _ => rfl) ?_
    refine Wg.nil ⟨some_b hv2, ?_, rfl⟩
    repeat (first | exact Env.le_refl _ | refine Env.le_put rfl ?_)
  refine Wg.nil ?_
  refine ⟨fun _ => ?_, fun h => absurd (by decide) h⟩
  refine Wp.cond ((!v1) || (decide ((a0.offices.length : Int) < 2))) rfl (fun hb4 => ?_) (fun hb4 => ?_)
  · have h := iT h hb4
    refine Wp.seq ?_
    refine Wp.reg rfl ?_
    obtain ⟨v5, hv5, h⟩ := ob h
    refine Wg.call rfl rfl rfl rfl (s23_ev hv5 _) ?_
    refine Wg.li rfl rfl rfl rfl (fun _ => rfl) ?_
    refine Wg.nil ?_
    refine ⟨fun _ => ?_, fun h => absurd (by decide) h⟩
    refine Wp.ret ?_
    refine ⟨fun h => absurd h (by decide), fun _ => ?_⟩
    have h := Option.some.inj h
    subst h
    exact ⟨.inr (by decide), _, rfl, rfl⟩
  · have h := iF h hb4
    refine Wp.skip ?_
    refine ⟨fun _ => ?_, fun h => absurd (by decide) h⟩
    refine Wp.seq ?_
    refine Wp.drw _ [0, 1] rfl (by kernel_rfl) (Nat.le_refl _) ?_
    iterate 2 refine Wg.li rfl rfl rfl rfl (fun _ => rfl) ?_
    refine Wg.alloc rfl rfl rfl rfl ?_
    refine Wg.alloc rfl rfl rfl rfl ?_
    refine Wg.heavy true (Nat.le_of_ble_eq_true rfl) rfl rfl rfl rfl ?_
    refine Wg.heavy true (Nat.le_of_ble_eq_true rfl) rfl rfl rfl rfl ?_
    refine Wg.nil ?_
    refine ⟨fun _ => ?_, fun h => absurd (by decide) h⟩
    refine Wp.seq ?_
    refine Wp.reg rfl ?_
    iterate 2 refine Wg.li rfl rfl rfl rfl (fun _ => rfl) ?_
    obtain ⟨v6, hv6, h⟩ := ob h
    refine Wg.call rfl rfl rfl rfl (s36_ev hv6 _) ?_
    refine Wg.li rfl rfl rfl rfl (fun _ => rfl) ?_
    refine Wg.nil ?_
    refine ⟨fun _ => ?_, fun h => absurd (by decide) h⟩
    refine Wp.seq ?_
    refine Wp.seq ?_
    refine Wp.reg rfl ?_
    iterate 4 refine Wg.li rfl rfl rfl rfl (fun _ => rfl) ?_
    refine Wg.nil ?_
    refine ⟨fun _ => ?_, fun h => absurd (by decide) h⟩
    obtain ⟨o8, hx9, h⟩ := ob h
    refine Wp.after (Q' := fun x e' H' => x = .normal ∧ Sub ctx F10 (Env.ofList [(2, lst eInt a2 .unk), (3, .ro (eTable a0)), (4, .ro [.int .i64 a1_0, .int .i64 a1_1, .int .i64 a1_2, .int .i64 a1_3, .int .i64 a1_4, .int .i64 a1_5]), (7, .ptr 0 0), (8, .ptr 1 0), (9, .int .i64 v6)]) (hp [.cells (eTable o8.1), .cells (eTable o8.2)]) e' H') ?_ ?_
    · refine Wp.cond (decide ((a0.trains.length : Int) > 0)) rfl (fun hb10 => ?_) (fun hb10 => ?_)
      · have hx9 := iT hx9 hb10
        refine Wp.seq ?_
        refine Wp.reg rfl ?_
        iterate 5 refine Wg.li rfl rfl rfl rfl (fun _ => rfl) ?_
        obtain ⟨v11, hv11, hx9⟩ := ob hx9
        refine Wg.call rfl rfl rfl rfl (s36_ev hv11 _) ?_
        refine Wg.li rfl rfl rfl rfl (fun _ => rfl) ?_
        refine Wg.nil ?_
        refine ⟨fun _ => ?_, fun h => absurd (by decide) h⟩
        refine Wp.seq ?_
        refine Wp.reg rfl ?_
        iterate 3 refine Wg.li rfl rfl rfl rfl (fun _ => rfl) ?_
        obtain ⟨v12, hv12, hx9⟩ := ob hx9
        rcases Bool.eq_false_or_eq_true (a0.trains.isEmpty) with hb13 | hb13
        · have hx9 := iT hx9 hb13
          cases hx9
        · have hx9 := iF hx9 hb13
          refine Wg.appM (f := eTrain) (xs := []) (ys := a0.trains) (c2 := .unk) (Nat.le_of_ble_eq_true rfl) rfl rfl rfl rfl rfl rfl rfl rfl rfl lTrain (by decide) (by decide) (ne_len hb13) hv12 ?_
          refine Wg.li rfl rfl rfl rfl (fun _ => rfl) ?_
          refine Wg.heavy true (Nat.le_of_ble_eq_true rfl) rfl rfl rfl rfl ?_
          refine Wg.nil ?_
          refine ⟨fun _ => ?_, fun h => absurd (by decide) h⟩
          refine Wp.drw _ [4, 9, 11, 16, 21] rfl (by kernel_rfl) (Nat.le_refl _) ?_
          refine Wg.li rfl rfl rfl rfl (fun _ => rfl) ?_
          refine Wg.ld rfl rfl rfl rfl rfl rfl ?_
          iterate 4 refine Wg.li rfl rfl rfl rfl (fun _ => rfl) ?_
          obtain ⟨v14, hv14, hx9⟩ := ob hx9
          refine Wg.idx (f := eTrain) (xs := a0.trains) (c := .unk) rfl rfl rfl rfl rfl rfl rfl lTrain (by decide) hv14 ?_
          iterate 5 refine Wg.li rfl rfl rfl rfl (fun _ => rfl) ?_
          obtain ⟨v15, hv15, hx9⟩ := ob hx9
          refine Wg.call rfl rfl rfl rfl (s36_ev hv15 _) ?_
          obtain ⟨v16, hv16, hx9⟩ := ob hx9
          refine Wg.bin (k := .i64) (k2 := .i64) (a := v14.late.low) (b := v15) rfl rfl rfl rfl rfl (bSub hv16) ?_
          iterate 4 refine Wg.li rfl rfl rfl rfl (fun _ => rfl) ?_
          obtain ⟨v17, hv17, hx9⟩ := ob hx9
          refine Wg.idx (f := eTrain) (xs := a0.trains) (c := .unk) rfl rfl rfl rfl rfl rfl rfl lTrain (by decide) hv17 ?_
          iterate 4 refine Wg.li rfl rfl rfl rfl (fun _ => rfl) ?_
          obtain ⟨v18, hv18, hx9⟩ := ob hx9
          refine Wg.bin (k := .i64) (k2 := .i64) (a := v17.late.high) (b := v6) rfl rfl rfl rfl rfl (bAdd hv18) ?_
          refine Wg.li rfl rfl rfl rfl (fun _ => rfl) ?_
          obtain ⟨v19, hv19, hx9⟩ := ob hx9
          refine Wg.call rfl rfl rfl rfl (s46_ev hv19 _) ?_
          obtain ⟨v20, hv20, hx9⟩ := ob hx9
          refine Wg.idxM rfl rfl rfl rfl rfl rfl rfl hv20 ?_
          refine Wg.li rfl rfl rfl rfl (fun _ => rfl) ?_
          obtain ⟨v21, hv21, hx9⟩ := ob hx9
          obtain ⟨v22, hv22, hx9⟩ := ob hx9
          refine Wg.stE (f := eTrain) (xs := v12) (j := v11) (k := 3) (q := 1) (a := v21) (a' := (Train.mk v21.stops v19)) (Nat.le_of_ble_eq_true rfl) rfl rfl rfl rfl rfl rfl rfl rfl (by omega) (by decide) rfl lTrain hv21 rfl hv22 ?_
          refine Wg.nil ?_
          obtain ⟨v23, hv23, hx9⟩ := ob hx9
          have hx9 := Option.some.inj hx9
          subst hx9
          exact ⟨by decide, (Sub.trans (Sub.frz [2] [(2, lst eInt a2 .unk), (3, .ro (eTable a0)), (4, .ro [.int .i64 a1_0, .int .i64 a1_1, .int .i64 a1_2, .int .i64 a1_3, .int .i64 a1_4, .int .i64 a1_5]), (7, .ptr 0 0), (8, .ptr 1 0), (9, .int .i64 v6)] [.cells (eTable (Table.mk a0.offices v22 a0.load)), .cells (eTable a0), .gone] rfl rfl (.cells rfl rfl (.cons (.refl _) (.cons (.msl (frzS_in rfl) rfl (lenC_some hv23)) (.cons (.refl _) .nil))) (.same rfl rfl (.gone rfl .nil))) (.cons rfl (.refl _) (.cons rfl (.refl _) (.cons rfl (.refl _) (.cons rfl (.refl _) (.cons rfl (.refl _) (.cons rfl (.refl _) .nil))))))) (Sub.canon [some 0, some 1] [.cells (eTable (Table.mk a0.offices v22 a0.load)), .cells (eTable a0)] [(2, lst eInt a2 .unk), (3, .ro (eTable a0)), (4, .ro [.int .i64 a1_0, .int .i64 a1_1, .int .i64 a1_2, .int .i64 a1_3, .int .i64 a1_4, .int .i64 a1_5]), (7, .ptr 0 0), (8, .ptr 1 0), (9, .int .i64 v6)] rfl (by decide) ⟨.pure rfl (pTab _), .pure rfl (pTab _), trivial⟩ (.pure rfl (Pure.lst pInt _ pUnk) (.pure rfl (.ro (pTab _)) (.pure rfl (.ro (pCons (.int _ _) (pCons (.int _ _) (pCons (.int _ _) (pCons (.int _ _) (pCons (.int _ _) (pCons (.int _ _) pNil))))))) (.ptr rfl rfl (.ptr rfl rfl (.pure rfl (.int _ _) .nil))))))))⟩
      · have hx9 := iF hx9 hb10
        refine Wp.skip ?_
        have hx9 := Option.some.inj hx9
        subst hx9
        exact ⟨by decide, (Sub.canon [some 0, some 1] [.cells (eTable a0), .cells (eTable a0)] [(2, lst eInt a2 .unk), (3, .ro (eTable a0)), (4, .ro [.int .i64 a1_0, .int .i64 a1_1, .int .i64 a1_2, .int .i64 a1_3, .int .i64 a1_4, .int .i64 a1_5]), (7, .ptr 0 0), (8, .ptr 1 0), (9, .int .i64 v6)] rfl (by decide) ⟨.pure rfl (pTab _), .pure rfl (pTab _), trivial⟩ (.pure rfl (Pure.lst pInt _ pUnk) (.pure rfl (.ro (pTab _)) (.pure rfl (.ro (pCons (.int _ _) (pCons (.int _ _) (pCons (.int _ _) (pCons (.int _ _) (pCons (.int _ _) (pCons (.int _ _) pNil))))))) (.ptr rfl rfl (.ptr rfl rfl (.pure rfl (.int _ _) .nil)))))))⟩
    · intro x e' H' hP
      obtain ⟨hPx, hP2⟩ := hP
      subst hPx
      have hP := And.intro (True.intro) hP2
      refine ⟨fun _ => ?_, fun h => absurd (by decide) h⟩
      refine Sub.use hP.2 ?_
      refine Wp.seq ?_
      refine Wp.seq ?_
      refine Wp.reg rfl ?_
      iterate 2 refine Wg.li rfl rfl rfl rfl (fun _ => rfl) ?_
      obtain ⟨v24, hv24, h⟩ := ob h
      refine Wg.call rfl rfl rfl rfl (s36_ev hv24 _) ?_
      refine Wg.li rfl rfl rfl rfl (fun _ => rfl) ?_
      refine Wg.nil ?_
      refine ⟨fun _ => ?_, fun h => absurd (by decide) h⟩
      obtain ⟨o27, hx28, h⟩ := ob h
      refine Wp.after (Q' := fun x e' H' => x = .normal ∧ Sub ctx F10 (Env.ofList [(2, lst eInt a2 .unk), (3, .ro (eTable a0)), (4, .ro [.int .i64 a1_0, .int .i64 a1_1, .int .i64 a1_2, .int .i64 a1_3, .int .i64 a1_4, .int .i64 a1_5]), (7, .ptr 0 0), (8, .ptr 1 0)]) (hp [.cells (eTable o27.1), .cells (eTable o27.2)]) e' H') ?_ ?_
      · refine Wp.cond (v24 == 0) rfl (fun hb29 => ?_) (fun hb29 => ?_)
        · have hx28 := iT hx28 hb29
          refine Wp.reg rfl ?_
          iterate 3 refine Wg.li rfl rfl rfl rfl (fun _ => rfl) ?_
          obtain ⟨v30, hv30, hx28⟩ := ob hx28
          refine Wg.bin (k := .i64) (k2 := .i64) (a := a0.load) (b := v6) rfl rfl rfl rfl rfl (bSub hv30) ?_
          iterate 2 refine Wg.li rfl rfl rfl rfl (fun _ => rfl) ?_
          refine Wg.heavy true (Nat.le_of_ble_eq_true rfl) rfl rfl rfl rfl ?_
          refine Wg.nil ?_
          have hx28 := Option.some.inj hx28
          subst hx28
          exact ⟨by decide, (Sub.canon [some 0, some 1] [.cells (eTable o8.1), .cells (eTable (Table.mk o8.2.offices o8.2.trains (mx 0 v30)))] [(2, lst eInt a2 .unk), (3, .ro (eTable a0)), (4, .ro [.int .i64 a1_0, .int .i64 a1_1, .int .i64 a1_2, .int .i64 a1_3, .int .i64 a1_4, .int .i64 a1_5]), (7, .ptr 0 0), (8, .ptr 1 0)] rfl (by decide) ⟨.pure rfl (pTab _), .pure rfl (pTab _), trivial⟩ (.pure rfl (Pure.lst pInt _ pUnk) (.pure rfl (.ro (pTab _)) (.pure rfl (.ro (pCons (.int _ _) (pCons (.int _ _) (pCons (.int _ _) (pCons (.int _ _) (pCons (.int _ _) (pCons (.int _ _) pNil))))))) (.ptr rfl rfl (.ptr rfl rfl .nil))))))⟩
        · have hx28 := iF hx28 hb29
          refine Wp.seq ?_
          refine Wp.reg rfl ?_
          iterate 5 refine Wg.li rfl rfl rfl rfl (fun _ => rfl) ?_
          obtain ⟨v31, hv31, hx28⟩ := ob hx28
          refine Wg.call rfl rfl rfl rfl (s36_ev hv31 _) ?_
          refine Wg.li rfl rfl rfl rfl (fun _ => rfl) ?_
          refine Wg.nil ?_
          refine ⟨fun _ => ?_, fun h => absurd (by decide) h⟩
          refine Wp.seq ?_
          refine Wp.reg rfl ?_
          iterate 4 refine Wg.li rfl rfl rfl rfl (fun _ => rfl) ?_
          obtain ⟨v32, hv32, hx28⟩ := ob hx28
          refine Wg.idx (f := (eLs eSpan)) (xs := a0.offices) (c := .unk) rfl rfl rfl rfl rfl rfl rfl lLs (by decide) hv32 ?_
          refine Wg.li rfl rfl rfl rfl (fun _ => rfl) ?_
          obtain ⟨v33, hv33, hx28⟩ := ob hx28
          rcases Bool.eq_false_or_eq_true (v32.isEmpty) with hb34 | hb34
          · have hx28 := iT hx28 hb34
            refine Wg.app0 (f := eSpan) (xs := []) (ys := v32) (c := .full) (c2 := .unk) rfl rfl rfl rfl rfl rfl rfl rfl rfl lSpan (by decide) (by decide) hb34 hv33 ?_
            refine Wg.li rfl rfl rfl rfl (fun _ => rfl) ?_
            refine Wg.nil ?_
            refine ⟨fun _ => ?_, fun h => absurd (by decide) h⟩
            refine Wp.seq ?_
            refine Wp.seq ?_
            refine Wp.reg rfl ?_
            iterate 3 refine Wg.li rfl rfl rfl rfl (fun _ => rfl) ?_
            refine Wg.nil ?_
            refine ⟨fun _ => ?_, fun h => absurd (by decide) h⟩
            obtain ⟨o35, hx36, hx28⟩ := ob hx28
            refine Wp.after (Q' := fun x e' H' => x = .normal ∧ Sub ctx F10 (Env.ofList [(2, lst eInt a2 .unk), (3, .ro (eTable a0)), (4, .ro [.int .i64 a1_0, .int .i64 a1_1, .int .i64 a1_2, .int .i64 a1_3, .int .i64 a1_4, .int .i64 a1_5]), (7, .ptr 0 0), (8, .ptr 1 0), (11, .int .i64 v31), (12, lst eSpan o35.1 .unk)]) (hp [.cells (eTable o35.2.1), .cells (eTable o35.2.2)]) e' H') ?_ ?_
            · refine Wp.cond (decide ((0 : Int) > 0)) rfl (fun hb37 => ?_) (fun hb37 => ?_)
              · have hx36 := iT hx36 hb37
                refine Wp.drw _ [10, 17] rfl (by kernel_rfl) (Nat.le_refl _) ?_
                iterate 3 refine Wg.li rfl rfl rfl rfl (fun _ => rfl) ?_
                obtain ⟨v38, hv38, hx36⟩ := ob hx36
                refine Wg.bin (k := .i64) (k2 := .i64) (a := (0 : Int)) (b := 1) rfl rfl rfl rfl rfl (bSub hv38) ?_
                iterate 3 refine Wg.li rfl rfl rfl rfl (fun _ => rfl) ?_
                obtain ⟨v39, hv39, hx36⟩ := ob hx36
                refine Wg.bin (k := .i64) (k2 := .i64) (a := (0 : Int)) (b := 1) rfl rfl rfl rfl rfl (bSub hv39) ?_
                obtain ⟨v40, hv40, hx36⟩ := ob hx36
                refine Wg.idx (f := eSpan) (xs := ([] : List Span)) (c := .full) rfl rfl rfl rfl rfl rfl rfl lSpan (by decide) hv40 ?_
                iterate 5 refine Wg.li rfl rfl rfl rfl (fun _ => rfl) ?_
                obtain ⟨v41, hv41, hx36⟩ := ob hx36
                refine Wg.bin (k := .i64) (k2 := .i64) (a := (0 : Int)) (b := 1) rfl rfl rfl rfl rfl (bSub hv41) ?_
                obtain ⟨v42, hv42, hx36⟩ := ob hx36
                refine Wg.idx (f := eSpan) (xs := ([] : List Span)) (c := .full) rfl rfl rfl rfl rfl rfl rfl lSpan (by decide) hv42 ?_
                iterate 3 refine Wg.li rfl rfl rfl rfl (fun _ => rfl) ?_
                obtain ⟨v43, hv43, hx36⟩ := ob hx36
                refine Wg.bin (k := .i64) (k2 := .i64) (a := v42.high) (b := v6) rfl rfl rfl rfl rfl (bAdd hv43) ?_
                refine Wg.li rfl rfl rfl rfl (fun _ => rfl) ?_
                obtain ⟨v44, hv44, hx36⟩ := ob hx36
                refine Wg.call rfl rfl rfl rfl (s46_ev hv44 _) ?_
                obtain ⟨v45, hv45, hx36⟩ := ob hx36
                refine Wg.idx (f := eSpan) (xs := ([] : List Span)) (c := .full) rfl rfl rfl rfl rfl rfl rfl lSpan (by decide) hv45 ?_
                cases hx36
              · have hx36 := iF hx36 hb37
                refine Wp.skip ?_
                have hx36 := Option.some.inj hx36
                subst hx36
                exact ⟨by decide, (Sub.canon [some 0, some 1] [.cells (eTable o8.1), .cells (eTable o8.2)] [(2, lst eInt a2 .unk), (3, .ro (eTable a0)), (4, .ro [.int .i64 a1_0, .int .i64 a1_1, .int .i64 a1_2, .int .i64 a1_3, .int .i64 a1_4, .int .i64 a1_5]), (7, .ptr 0 0), (8, .ptr 1 0), (11, .int .i64 v31), (12, lst eSpan ([] : List Span) .unk)] rfl (by decide) ⟨.pure rfl (pTab _), .pure rfl (pTab _), trivial⟩ (.pure rfl (Pure.lst pInt _ pUnk) (.pure rfl (.ro (pTab _)) (.pure rfl (.ro (pCons (.int _ _) (pCons (.int _ _) (pCons (.int _ _) (pCons (.int _ _) (pCons (.int _ _) (pCons (.int _ _) pNil))))))) (.ptr rfl rfl (.ptr rfl rfl (.pure rfl (.int _ _) (.unk (c := .full) rfl pSpan .nil))))))))⟩
            · intro x e' H' hP
              obtain ⟨hPx, hP2⟩ := hP
              subst hPx
              have hP := And.intro (True.intro) hP2
              refine ⟨fun _ => ?_, fun h => absurd (by decide) h⟩
              refine Sub.use hP.2 ?_
              refine Wp.seq ?_
              refine Wp.reg rfl ?_
              iterate 3 refine Wg.li rfl rfl rfl rfl (fun _ => rfl) ?_
              obtain ⟨v46, hv46, hx28⟩ := ob hx28
              rcases Bool.eq_false_or_eq_true (a0.offices.isEmpty) with hb47 | hb47
              · have hx28 := iT hx28 hb47
                cases hx28
              · have hx28 := iF hx28 hb47
                refine Wg.appM (f := (eLs eSpan)) (xs := []) (ys := a0.offices) (c2 := .unk) (Nat.le_of_ble_eq_true rfl) rfl rfl rfl rfl rfl rfl rfl rfl rfl lLs (by decide) (by decide) (ne_len hb47) hv46 ?_
                refine Wg.li rfl rfl rfl rfl (fun _ => rfl) ?_
                refine Wg.heavy true (Nat.le_of_ble_eq_true rfl) rfl rfl rfl rfl ?_
                refine Wg.nil ?_
                refine ⟨fun _ => ?_, fun h => absurd (by decide) h⟩
                refine Wp.reg rfl ?_
                refine Wg.li rfl rfl rfl rfl (fun _ => rfl) ?_
                refine Wg.ld rfl rfl rfl rfl rfl rfl ?_
                iterate 2 refine Wg.li rfl rfl rfl rfl (fun _ => rfl) ?_
                obtain ⟨v48, hv48, hx28⟩ := ob hx28
                refine Wg.idxM rfl rfl rfl rfl rfl rfl rfl hv48 ?_
                obtain ⟨v49, hv49, hx28⟩ := ob hx28
                refine Wg.stP (f := (eLs eSpan)) (xs := v46) (a := o35.1) (Nat.le_of_ble_eq_true rfl) rfl rfl rfl rfl rfl rfl rfl rfl rfl (by simp) rfl lLs hv49 ?_
                refine Wg.nil ?_
                obtain ⟨v50, hv50, hx28⟩ := ob hx28
                have hx28 := Option.some.inj hx28
                subst hx28
                exact ⟨by decide, (Sub.trans (Sub.frz [2] [(2, lst eInt a2 .unk), (3, .ro (eTable a0)), (4, .ro [.int .i64 a1_0, .int .i64 a1_1, .int .i64 a1_2, .int .i64 a1_3, .int .i64 a1_4, .int .i64 a1_5]), (7, .ptr 0 0), (8, .ptr 1 0)] [.cells (eTable o35.2.1), .cells (eTable (Table.mk v49 o35.2.2.trains o35.2.2.load)), .gone] rfl rfl (.same rfl rfl (.cells rfl rfl (.cons (.msl (frzS_in rfl) rfl (lenC_some hv50)) (.cons (.refl _) (.cons (.refl _) .nil))) (.gone rfl .nil))) (.cons rfl (.refl _) (.cons rfl (.refl _) (.cons rfl (.refl _) (.cons rfl (.refl _) (.cons rfl (.refl _) .nil)))))) (Sub.canon [some 0, some 1] [.cells (eTable o35.2.1), .cells (eTable (Table.mk v49 o35.2.2.trains o35.2.2.load))] [(2, lst eInt a2 .unk), (3, .ro (eTable a0)), (4, .ro [.int .i64 a1_0, .int .i64 a1_1, .int .i64 a1_2, .int .i64 a1_3, .int .i64 a1_4, .int .i64 a1_5]), (7, .ptr 0 0), (8, .ptr 1 0)] rfl (by decide) ⟨.pure rfl (pTab _), .pure rfl (pTab _), trivial⟩ (.pure rfl (Pure.lst pInt _ pUnk) (.pure rfl (.ro (pTab _)) (.pure rfl (.ro (pCons (.int _ _) (pCons (.int _ _) (pCons (.int _ _) (pCons (.int _ _) (pCons (.int _ _) (pCons (.int _ _) pNil))))))) (.ptr rfl rfl (.ptr rfl rfl .nil)))))))⟩
          · have hx28 := iF hx28 hb34
            refine Wg.appM (f := eSpan) (xs := []) (ys := v32) (c2 := .unk) (Nat.le_of_ble_eq_true rfl) rfl rfl rfl rfl rfl rfl rfl rfl rfl lSpan (by decide) (by decide) (ne_len hb34) hv33 ?_
            refine Wg.li rfl rfl rfl rfl (fun _ => rfl) ?_
            refine Wg.nil ?_
            refine ⟨fun _ => ?_, fun h => absurd (by decide) h⟩
            refine Wp.seq ?_
            refine Wp.seq ?_
            refine Wp.reg rfl ?_
            iterate 3 refine Wg.li rfl rfl rfl rfl (fun _ => rfl) ?_
            refine Wg.nil ?_
            refine ⟨fun _ => ?_, fun h => absurd (by decide) h⟩
            obtain ⟨o53, hx54, hx28⟩ := ob hx28
            refine Wp.after (Q' := fun x e' H' => x = .normal ∧ Sub ctx F10 (Env.ofList [(2, lst eInt a2 .unk), (3, .ro (eTable a0)), (4, .ro [.int .i64 a1_0, .int .i64 a1_1, .int .i64 a1_2, .int .i64 a1_3, .int .i64 a1_4, .int .i64 a1_5]), (7, .ptr 0 0), (8, .ptr 1 0), (11, .int .i64 v31), (12, lst eSpan o53.1 .unk)]) (hp [.cells (eTable o53.2.1), .cells (eTable o53.2.2)]) e' H') ?_ ?_
            · refine Wp.cond (decide (((v33.length : Nat) : Int) > 0)) rfl (fun hb55 => ?_) (fun hb55 => ?_)
              · have hx54 := iT hx54 hb55
                refine Wp.drw _ [] rfl (by kernel_rfl) (Nat.le_refl _) ?_
                iterate 3 refine Wg.li rfl rfl rfl rfl (fun _ => rfl) ?_
                obtain ⟨v56, hv56, hx54⟩ := ob hx54
                refine Wg.bin (k := .i64) (k2 := .i64) (a := ((v33.length : Nat) : Int)) (b := 1) rfl rfl rfl rfl rfl (bSub hv56) ?_
                iterate 3 refine Wg.li rfl rfl rfl rfl (fun _ => rfl) ?_
                obtain ⟨v57, hv57, hx54⟩ := ob hx54
                refine Wg.bin (k := .i64) (k2 := .i64) (a := ((v33.length : Nat) : Int)) (b := 1) rfl rfl rfl rfl rfl (bSub hv57) ?_
                obtain ⟨v58, hv58, hx54⟩ := ob hx54
                refine Wg.idxM rfl rfl rfl rfl rfl rfl rfl hv58 ?_
                refine Wg.li rfl rfl rfl rfl (fun _ => rfl) ?_
                obtain ⟨v59, hv59, hx54⟩ := ob hx54
                refine Wg.ldE (f := eSpan) (xs := v33) (j := v57) (k := 2) (q := 0) rfl rfl rfl rfl rfl (by omega) (by decide) rfl lSpan hv59 rfl rfl ?_
                iterate 3 refine Wg.li rfl rfl rfl rfl (fun _ => rfl) ?_
                obtain ⟨v60, hv60, hx54⟩ := ob hx54
                refine Wg.bin (k := .i64) (k2 := .i64) (a := ((v33.length : Nat) : Int)) (b := 1) rfl rfl rfl rfl rfl (bSub hv60) ?_
                obtain ⟨v61, hv61, hx54⟩ := ob hx54
                refine Wg.idxM rfl rfl rfl rfl rfl rfl rfl hv61 ?_
                refine Wg.li rfl rfl rfl rfl (fun _ => rfl) ?_
                obtain ⟨v62, hv62, hx54⟩ := ob hx54
                refine Wg.ldE (f := eSpan) (xs := v33) (j := v60) (k := 2) (q := 1) rfl rfl rfl rfl rfl (by omega) (by decide) rfl lSpan hv62 rfl rfl ?_
                refine Wg.li rfl rfl rfl rfl (fun _ => rfl) ?_
                obtain ⟨v63, hv63, hx54⟩ := ob hx54
                refine Wg.bin (k := .i64) (k2 := .i64) (a := v62.high) (b := v6) rfl rfl rfl rfl rfl (bAdd hv63) ?_
                refine Wg.li rfl rfl rfl rfl (fun _ => rfl) ?_
                obtain ⟨v64, hv64, hx54⟩ := ob hx54
                refine Wg.call rfl rfl rfl rfl (s46_ev hv64 _) ?_
                obtain ⟨v65, hv65, hx54⟩ := ob hx54
                refine Wg.idxM rfl rfl rfl rfl rfl rfl rfl hv65 ?_
                obtain ⟨v66, hv66, hx54⟩ := ob hx54
                obtain ⟨v67, hv67, hx54⟩ := ob hx54
                refine Wg.stE (f := eSpan) (xs := v33) (j := v56) (k := 2) (q := 0) (a := v66) (a' := v64) (Nat.le_of_ble_eq_true rfl) rfl rfl rfl rfl rfl rfl rfl rfl (by omega) (by decide) rfl lSpan hv66 rfl hv67 ?_
                refine Wg.nil ?_
                obtain ⟨v68, hv68, hx54⟩ := ob hx54
                have hx54 := Option.some.inj hx54
                subst hx54
                exact ⟨by decide, (Sub.trans (Sub.frz [2] [(2, lst eInt a2 .unk), (3, .ro (eTable a0)), (4, .ro [.int .i64 a1_0, .int .i64 a1_1, .int .i64 a1_2, .int .i64 a1_3, .int .i64 a1_4, .int .i64 a1_5]), (7, .ptr 0 0), (8, .ptr 1 0), (11, .int .i64 v31), (12, lst eSpan v67 .unk)] [.cells (eTable o8.1), .cells (eTable o8.2), .gone] rfl rfl (.same rfl rfl (.same rfl rfl (.gone rfl .nil))) (.cons rfl (.refl _) (.cons rfl (.refl _) (.cons rfl (.refl _) (.cons rfl (.refl _) (.cons rfl (.refl _) (.cons rfl (.refl _) (.cons rfl (.msl (frzS_in rfl) rfl (lenC_some hv68)) .nil)))))))) (Sub.canon [some 0, some 1] [.cells (eTable o8.1), .cells (eTable o8.2)] [(2, lst eInt a2 .unk), (3, .ro (eTable a0)), (4, .ro [.int .i64 a1_0, .int .i64 a1_1, .int .i64 a1_2, .int .i64 a1_3, .int .i64 a1_4, .int .i64 a1_5]), (7, .ptr 0 0), (8, .ptr 1 0), (11, .int .i64 v31), (12, lst eSpan v67 .unk)] rfl (by decide) ⟨.pure rfl (pTab _), .pure rfl (pTab _), trivial⟩ (.pure rfl (Pure.lst pInt _ pUnk) (.pure rfl (.ro (pTab _)) (.pure rfl (.ro (pCons (.int _ _) (pCons (.int _ _) (pCons (.int _ _) (pCons (.int _ _) (pCons (.int _ _) (pCons (.int _ _) pNil))))))) (.ptr rfl rfl (.ptr rfl rfl (.pure rfl (.int _ _) (.pure rfl (Pure.lst pSpan _ pUnk) .nil)))))))))⟩
              · have hx54 := iF hx54 hb55
                refine Wp.skip ?_
                obtain ⟨v69, hv69, hx54⟩ := ob hx54
                have hx54 := Option.some.inj hx54
                subst hx54
                exact ⟨by decide, (Sub.trans (Sub.frz [2] [(2, lst eInt a2 .unk), (3, .ro (eTable a0)), (4, .ro [.int .i64 a1_0, .int .i64 a1_1, .int .i64 a1_2, .int .i64 a1_3, .int .i64 a1_4, .int .i64 a1_5]), (7, .ptr 0 0), (8, .ptr 1 0), (11, .int .i64 v31), (12, lst eSpan v33 .unk)] [.cells (eTable o8.1), .cells (eTable o8.2), .gone] rfl rfl (.same rfl rfl (.same rfl rfl (.gone rfl .nil))) (.cons rfl (.refl _) (.cons rfl (.refl _) (.cons rfl (.refl _) (.cons rfl (.refl _) (.cons rfl (.refl _) (.cons rfl (.refl _) (.cons rfl (.msl (frzS_in rfl) rfl (lenC_some hv69)) .nil)))))))) (Sub.canon [some 0, some 1] [.cells (eTable o8.1), .cells (eTable o8.2)] [(2, lst eInt a2 .unk), (3, .ro (eTable a0)), (4, .ro [.int .i64 a1_0, .int .i64 a1_1, .int .i64 a1_2, .int .i64 a1_3, .int .i64 a1_4, .int .i64 a1_5]), (7, .ptr 0 0), (8, .ptr 1 0), (11, .int .i64 v31), (12, lst eSpan v33 .unk)] rfl (by decide) ⟨.pure rfl (pTab _), .pure rfl (pTab _), trivial⟩ (.pure rfl (Pure.lst pInt _ pUnk) (.pure rfl (.ro (pTab _)) (.pure rfl (.ro (pCons (.int _ _) (pCons (.int _ _) (pCons (.int _ _) (pCons (.int _ _) (pCons (.int _ _) (pCons (.int _ _) pNil))))))) (.ptr rfl rfl (.ptr rfl rfl (.pure rfl (.int _ _) (.pure rfl (Pure.lst pSpan _ pUnk) .nil)))))))))⟩
            · intro x e' H' hP
              obtain ⟨hPx, hP2⟩ := hP
              subst hPx
              have hP := And.intro (True.intro) hP2
              refine ⟨fun _ => ?_, fun h => absurd (by decide) h⟩
              refine Sub.use hP.2 ?_
              refine Wp.seq ?_
              refine Wp.reg rfl ?_
              iterate 3 refine Wg.li rfl rfl rfl rfl (fun _ => rfl) ?_
              obtain ⟨v70, hv70, hx28⟩ := ob hx28
              rcases Bool.eq_false_or_eq_true (a0.offices.isEmpty) with hb71 | hb71
              · have hx28 := iT hx28 hb71
                cases hx28
              · have hx28 := iF hx28 hb71
                refine Wg.appM (f := (eLs eSpan)) (xs := []) (ys := a0.offices) (c2 := .unk) (Nat.le_of_ble_eq_true rfl) rfl rfl rfl rfl rfl rfl rfl rfl rfl lLs (by decide) (by decide) (ne_len hb71) hv70 ?_
                refine Wg.li rfl rfl rfl rfl (fun _ => rfl) ?_
                refine Wg.heavy true (Nat.le_of_ble_eq_true rfl) rfl rfl rfl rfl ?_
                refine Wg.nil ?_
                refine ⟨fun _ => ?_, fun h => absurd (by decide) h⟩
                refine Wp.reg rfl ?_
                refine Wg.li rfl rfl rfl rfl (fun _ => rfl) ?_
                refine Wg.ld rfl rfl rfl rfl rfl rfl ?_
                iterate 2 refine Wg.li rfl rfl rfl rfl (fun _ => rfl) ?_
                obtain ⟨v72, hv72, hx28⟩ := ob hx28
                refine Wg.idxM rfl rfl rfl rfl rfl rfl rfl hv72 ?_
                obtain ⟨v73, hv73, hx28⟩ := ob hx28
                refine Wg.stP (f := (eLs eSpan)) (xs := v70) (a := o53.1) (Nat.le_of_ble_eq_true rfl) rfl rfl rfl rfl rfl rfl rfl rfl rfl (by simp) rfl lLs hv73 ?_
                refine Wg.nil ?_
                obtain ⟨v74, hv74, hx28⟩ := ob hx28
                have hx28 := Option.some.inj hx28
                subst hx28
                exact ⟨by decide, (Sub.trans (Sub.frz [2] [(2, lst eInt a2 .unk), (3, .ro (eTable a0)), (4, .ro [.int .i64 a1_0, .int .i64 a1_1, .int .i64 a1_2, .int .i64 a1_3, .int .i64 a1_4, .int .i64 a1_5]), (7, .ptr 0 0), (8, .ptr 1 0)] [.cells (eTable o53.2.1), .cells (eTable (Table.mk v73 o53.2.2.trains o53.2.2.load)), .gone] rfl rfl (.same rfl rfl (.cells rfl rfl (.cons (.msl (frzS_in rfl) rfl (lenC_some hv74)) (.cons (.refl _) (.cons (.refl _) .nil))) (.gone rfl .nil))) (.cons rfl (.refl _) (.cons rfl (.refl _) (.cons rfl (.refl _) (.cons rfl (.refl _) (.cons rfl (.refl _) .nil)))))) (Sub.canon [some 0, some 1] [.cells (eTable o53.2.1), .cells (eTable (Table.mk v73 o53.2.2.trains o53.2.2.load))] [(2, lst eInt a2 .unk), (3, .ro (eTable a0)), (4, .ro [.int .i64 a1_0, .int .i64 a1_1, .int .i64 a1_2, .int .i64 a1_3, .int .i64 a1_4, .int .i64 a1_5]), (7, .ptr 0 0), (8, .ptr 1 0)] rfl (by decide) ⟨.pure rfl (pTab _), .pure rfl (pTab _), trivial⟩ (.pure rfl (Pure.lst pInt _ pUnk) (.pure rfl (.ro (pTab _)) (.pure rfl (.ro (pCons (.int _ _) (pCons (.int _ _) (pCons (.int _ _) (pCons (.int _ _) (pCons (.int _ _) (pCons (.int _ _) pNil))))))) (.ptr rfl rfl (.ptr rfl rfl .nil)))))))⟩
      · intro x e' H' hP
        obtain ⟨hPx, hP2⟩ := hP
        subst hPx
        have hP := And.intro (True.intro) hP2
        refine ⟨fun _ => ?_, fun h => absurd (by decide) h⟩
        refine Sub.use hP.2 ?_
        refine Wp.seq ?_
        refine Wp.reg rfl ?_
        iterate 5 refine Wg.li rfl rfl rfl rfl (fun _ => rfl) ?_
        obtain ⟨v75, hv75, h⟩ := ob h
        refine Wg.call rfl rfl rfl rfl (s36_ev hv75 _) ?_
        refine Wg.li rfl rfl rfl rfl (fun _ => rfl) ?_
        refine Wg.nil ?_
        refine ⟨fun _ => ?_, fun h => absurd (by decide) h⟩
        refine Wp.seq ?_
        refine Wp.drw _ [3, 5, 11] rfl (by kernel_rfl) (Nat.le_refl _) ?_
        refine Wg.li rfl rfl rfl rfl (fun _ => rfl) ?_
        obtain ⟨v76, hv76, h⟩ := ob h
        refine Wg.bin (k := .i64) (k2 := .i64) (a := v75) (b := 1) rfl rfl rfl rfl rfl (bAdd hv76) ?_
        iterate 5 refine Wg.li rfl rfl rfl rfl (fun _ => rfl) ?_
        obtain ⟨v77, hv77, h⟩ := ob h
        refine Wg.bin (k := .i64) (k2 := .i64) (a := (a0.offices.length : Int)) (b := 1) rfl rfl rfl rfl rfl (bSub hv77) ?_
        obtain ⟨v78, hv78, h⟩ := ob h
        refine Wg.call rfl rfl rfl rfl (s36_ev hv78 _) ?_
        obtain ⟨v79, hv79, h⟩ := ob h
        refine Wg.bin (k := .i64) (k2 := .i64) (a := v76) (b := v78) rfl rfl rfl rfl rfl (bAdd hv79) ?_
        iterate 3 refine Wg.li rfl rfl rfl rfl (fun _ => rfl) ?_
        obtain ⟨v80, hv80, h⟩ := ob h
        refine Wg.call rfl rfl rfl rfl (s36_ev hv80 _) ?_
        refine Wg.li rfl rfl rfl rfl (fun _ => rfl) ?_
        refine Wg.nil ?_
        refine ⟨fun _ => ?_, fun h => absurd (by decide) h⟩
        refine Wp.seq ?_
        refine Wp.reg rfl ?_
        iterate 2 refine Wg.li rfl rfl rfl rfl (fun _ => rfl) ?_
        obtain ⟨v81, hv81, h⟩ := ob h
        refine Wg.call rfl rfl rfl rfl (s36_ev hv81 _) ?_
        refine Wg.li rfl rfl rfl rfl (fun _ => rfl) ?_
        refine Wg.nil ?_
        refine ⟨fun _ => ?_, fun h => absurd (by decide) h⟩
        refine Wp.seq ?_
        refine Wp.reg rfl ?_
        iterate 4 refine Wg.li rfl rfl rfl rfl (fun _ => rfl) ?_
        obtain ⟨v82, hv82, h⟩ := ob h
        refine Wg.call rfl rfl rfl rfl (s27_ev hv82 _) ?_
        iterate 5 refine Wg.li rfl rfl rfl rfl (fun _ => rfl) ?_
        refine Wg.nil ?_
        refine ⟨fun _ => ?_, fun h => absurd (by decide) h⟩
        refine Wp.seq ?_
        refine Wp.reg rfl ?_
        refine Wg.ld rfl rfl rfl rfl rfl rfl ?_
        iterate 3 refine Wg.li rfl rfl rfl rfl (fun _ => rfl) ?_
        obtain ⟨v83, hv83, h⟩ := ob h
        refine Wg.call rfl rfl rfl rfl (s27_ev hv83 _) ?_
        iterate 5 refine Wg.li rfl rfl rfl rfl (fun _ => rfl) ?_
        refine Wg.nil ?_
        refine ⟨fun _ => ?_, fun h => absurd (by decide) h⟩
        refine Wp.seq ?_
        refine Wp.reg rfl ?_
        refine Wg.ld rfl rfl rfl rfl rfl rfl ?_
        iterate 3 refine Wg.li rfl rfl rfl rfl (fun _ => rfl) ?_
        obtain ⟨v84, hv84, h⟩ := ob h
        refine Wg.call rfl rfl rfl rfl (s27_ev hv84 _) ?_
        iterate 5 refine Wg.li rfl rfl rfl rfl (fun _ => rfl) ?_
        refine Wg.nil ?_
        refine ⟨fun _ => ?_, fun h => absurd (by decide) h⟩
        refine Wp.seq ?_
        refine Wp.seq ?_
        refine Wp.reg rfl ?_
        iterate 3 refine Wg.li rfl rfl rfl rfl (fun _ => rfl) ?_
        have hv85 := ifAnd (v82.2 == 0) ((!(v84.2 == 0)) || (decide (v84.1 > v82.1)))
        refine Wg.grp 8 202 194 ((v82.2 == 0) && ((!(v84.2 == 0)) || (decide (v84.1 > v82.1)))) (v82.2 == 0) rfl rfl (Nat.le_of_ble_eq_true rfl) (fun hb86 => ?_) (fun hb86 => ?_) ?_
        · have hv85 := iT hv85 hb86
          iterate 3 refine Wg.li rfl rfl rfl rfl (fun _ => rfl) ?_
          have hv87 := ifOr (!(v84.2 == 0)) (decide (v84.1 > v82.1))
          refine Wg.grp 4 201 197 ((!(v84.2 == 0)) || (decide (v84.1 > v82.1))) (!(v84.2 == 0)) rfl rfl (Nat.le_of_ble_eq_true rfl) (fun hb88 => ?_) (fun hb88 => ?_) ?_
          · have hv87 := iT hv87 hb88
            iterate 3 refine Wg.skip rfl rfl ?_
            refine Wg.li rfl rfl rfl rfl (fun _ => rfl) ?_
            refine Wg.nil ⟨some_b hv87, ?_, rfl⟩
            repeat (first | exact Env.le_refl _ | refine Env.le_put rfl ?_)
          · have hv87 := iF hv87 hb88
            iterate 4 refine Wg.li rfl rfl rfl rfl (fun _ => rfl) ?_
            refine Wg.nil ⟨some_b hv87, ?_, rfl⟩
            repeat (first | exact Env.le_refl _ | refine Env.le_put rfl ?_)
          refine Wg.li rfl rfl rfl rfl (fun _ => rfl) ?_
          refine Wg.nil ⟨some_b hv85, ?_, rfl⟩
          repeat (first | exact Env.le_refl _ | refine Env.le_put rfl ?_)
        · have hv85 := iF hv85 hb86
          iterate 7 refine Wg.skip rfl rfl ?_
          refine Wg.li rfl rfl rfl rfl (fun _ => rfl) ?_
          refine Wg.nil ⟨some_b hv85, ?_, rfl⟩
          repeat (first | exact Env.le_refl _ | refine Env.le_put rfl ?_)
        refine Wg.li rfl rfl rfl rfl (fun _ => rfl) ?_
        have hv89 := ifOr ((v82.2 == 0) && ((!(v84.2 == 0)) || (decide (v84.1 > v82.1)))) ((v83.2 == 0) && ((!(v82.2 == 0)) || (decide (v83.1 < v82.1))))
        refine Wg.grp 12 215 203 (((v82.2 == 0) && ((!(v84.2 == 0)) || (decide (v84.1 > v82.1)))) || ((v83.2 == 0) && ((!(v82.2 == 0)) || (decide (v83.1 < v82.1))))) ((v82.2 == 0) && ((!(v84.2 == 0)) || (decide (v84.1 > v82.1)))) rfl rfl (Nat.le_of_ble_eq_true rfl) (fun hb90 => ?_) (fun hb90 => ?_) ?_
        · have hv89 := iT hv89 hb90
          iterate 11 refine Wg.skip rfl rfl ?_
          refine Wg.li rfl rfl rfl rfl (fun _ => rfl) ?_
          refine Wg.nil ⟨some_b hv89, ?_, rfl⟩
          repeat (first | exact Env.le_refl _ | refine Env.le_put rfl ?_)
        · have hv89 := iF hv89 hb90
          iterate 3 refine Wg.li rfl rfl rfl rfl (fun _ => rfl) ?_
          have hv91 := ifAnd (v83.2 == 0) ((!(v82.2 == 0)) || (decide (v83.1 < v82.1)))
          refine Wg.grp 8 214 206 ((v83.2 == 0) && ((!(v82.2 == 0)) || (decide (v83.1 < v82.1)))) (v83.2 == 0) rfl rfl (Nat.le_of_ble_eq_true rfl) (fun hb92 => ?_) (fun hb92 => ?_) ?_
          · have hv91 := iT hv91 hb92
            iterate 3 refine Wg.li rfl rfl rfl rfl (fun _ => rfl) ?_
            have hv93 := ifOr (!(v82.2 == 0)) (decide (v83.1 < v82.1))
            refine Wg.grp 4 213 209 ((!(v82.2 == 0)) || (decide (v83.1 < v82.1))) (!(v82.2 == 0)) rfl rfl (Nat.le_of_ble_eq_true rfl) (fun hb94 => ?_) (fun hb94 => ?_) ?_
            · have hv93 := iT hv93 hb94
              iterate 3 refine Wg.skip rfl rfl ?_
              refine Wg.li rfl rfl rfl rfl (fun _ => rfl) ?_
              refine Wg.nil ⟨some_b hv93, ?_, rfl⟩
              repeat (first | exact Env.le_refl _ | refine Env.le_put rfl ?_)
            · have hv93 := iF hv93 hb94
              iterate 4 refine Wg.li rfl rfl rfl rfl (fun _ => rfl) ?_
              refine Wg.nil ⟨some_b hv93, ?_, rfl⟩
              repeat (first | exact Env.le_refl _ | refine Env.le_put rfl ?_)
            refine Wg.li rfl rfl rfl rfl (fun _ => rfl) ?_
            refine Wg.nil ⟨some_b hv91, ?_, rfl⟩
            repeat (first | exact Env.le_refl _ | refine Env.le_put rfl ?_)
          · have hv91 := iF hv91 hb92
            iterate 7 refine Wg.skip rfl rfl ?_
            refine Wg.li rfl rfl rfl rfl (fun _ => rfl) ?_
            refine Wg.nil ⟨some_b hv91, ?_, rfl⟩
            repeat (first | exact Env.le_refl _ | refine Env.le_put rfl ?_)
          refine Wg.li rfl rfl rfl rfl (fun _ => rfl) ?_
          refine Wg.nil ⟨some_b hv89, ?_, rfl⟩
          repeat (first | exact Env.le_refl _ | refine Env.le_put rfl ?_)
        refine Wg.li rfl rfl rfl rfl (fun _ => rfl) ?_
        have hv95 := ifOr (((v82.2 == 0) && ((!(v84.2 == 0)) || (decide (v84.1 > v82.1)))) || ((v83.2 == 0) && ((!(v82.2 == 0)) || (decide (v83.1 < v82.1))))) (v84.2 == 30)
        refine Wg.grp 3 219 216 ((((v82.2 == 0) && ((!(v84.2 == 0)) || (decide (v84.1 > v82.1)))) || ((v83.2 == 0) && ((!(v82.2 == 0)) || (decide (v83.1 < v82.1))))) || (v84.2 == 30)) (((v82.2 == 0) && ((!(v84.2 == 0)) || (decide (v84.1 > v82.1)))) || ((v83.2 == 0) && ((!(v82.2 == 0)) || (decide (v83.1 < v82.1))))) rfl rfl (Nat.le_of_ble_eq_true rfl) (fun hb96 => ?_) (fun hb96 => ?_) ?_
        · have hv95 := iT hv95 hb96
          iterate 2 refine Wg.skip rfl rfl ?_
          refine Wg.li rfl rfl rfl rfl (fun _ => rfl) ?_
          refine Wg.nil ⟨some_b hv95, ?_, rfl⟩
          repeat (first | exact Env.le_refl _ | refine Env.le_put rfl ?_)
        · have hv95 := iF hv95 hb96
          iterate 3 refine Wg.li rfl rfl rfl rfl (fun _ => rfl) ?_
          refine Wg.nil ⟨some_b hv95, ?_, rfl⟩
          repeat (first | exact Env.le_refl _ | refine Env.le_put rfl ?_)
        refine Wg.li rfl rfl rfl rfl (fun _ => rfl) ?_
        have hv97 := ifOr ((((v82.2 == 0) && ((!(v84.2 == 0)) || (decide (v84.1 > v82.1)))) || ((v83.2 == 0) && ((!(v82.2 == 0)) || (decide (v83.1 < v82.1))))) || (v84.2 == 30)) (v83.2 == 30)
        refine Wg.grp 3 223 220 (((((v82.2 == 0) && ((!(v84.2 == 0)) || (decide (v84.1 > v82.1)))) || ((v83.2 == 0) && ((!(v82.2 == 0)) || (decide (v83.1 < v82.1))))) || (v84.2 == 30)) || (v83.2 == 30)) ((((v82.2 == 0) && ((!(v84.2 == 0)) || (decide (v84.1 > v82.1)))) || ((v83.2 == 0) && ((!(v82.2 == 0)) || (decide (v83.1 < v82.1))))) || (v84.2 == 30)) rfl rfl (Nat.le_of_ble_eq_true rfl) (fun hb98 => ?_) (fun hb98 => ?_) ?_
        · have hv97 := iT hv97 hb98
          iterate 2 refine Wg.skip rfl rfl ?_
          refine Wg.li rfl rfl rfl rfl (fun _ => rfl) ?_
          refine Wg.nil ⟨some_b hv97, ?_, rfl⟩
          repeat (first | exact Env.le_refl _ | refine Env.le_put rfl ?_)
        · have hv97 := iF hv97 hb98
          iterate 3 refine Wg.li rfl rfl rfl rfl (fun _ => rfl) ?_
          refine Wg.nil ⟨some_b hv97, ?_, rfl⟩
          repeat (first | exact Env.le_refl _ | refine Env.le_put rfl ?_)
        refine Wg.nil ?_
        refine ⟨fun _ => ?_, fun h => absurd (by decide) h⟩
        refine Wp.cond (((((v82.2 == 0) && ((!(v84.2 == 0)) || (decide (v84.1 > v82.1)))) || ((v83.2 == 0) && ((!(v82.2 == 0)) || (decide (v83.1 < v82.1))))) || (v84.2 == 30)) || (v83.2 == 30)) rfl (fun hb99 => ?_) (fun hb99 => ?_)
        · have h := iT h hb99
          refine Wp.seq ?_
          refine Wp.reg rfl ?_
          refine Wg.li rfl rfl rfl rfl (fun _ => rfl) ?_
          refine Wg.nil ?_
          refine ⟨fun _ => ?_, fun h => absurd (by decide) h⟩
          refine Wp.ret ?_
          refine ⟨fun h => absurd h (by decide), fun _ => ?_⟩
          have h := Option.some.inj h
          subst h
          exact ⟨.inr (by decide), _, rfl, rfl⟩
        · have h := iF h hb99
          refine Wp.skip ?_
          refine ⟨fun _ => ?_, fun h => absurd (by decide) h⟩
          refine Wp.seq ?_
          refine Wp.reg rfl ?_
          iterate 2 refine Wg.li rfl rfl rfl rfl (fun _ => rfl) ?_
          obtain ⟨v100, hv100, h⟩ := ob h
          refine Wg.call rfl rfl rfl rfl (s42_ev hv100 _) ?_
          iterate 7 refine Wg.li rfl rfl rfl rfl (fun _ => rfl) ?_
          refine Wg.nil ?_
          refine ⟨fun _ => ?_, fun h => absurd (by decide) h⟩
          refine Wp.seq ?_
          refine Wp.seq ?_
          refine Wp.reg rfl ?_
          iterate 4 refine Wg.li rfl rfl rfl rfl (fun _ => rfl) ?_
          have hv101 := ifOr ((v100.1.length : Int) == 0) (v100.2.1 == v100.2.2)
          refine Wg.grp 4 238 234 (((v100.1.length : Int) == 0) || (v100.2.1 == v100.2.2)) ((v100.1.length : Int) == 0) rfl rfl (Nat.le_of_ble_eq_true rfl) (fun hb102 => ?_) (fun hb102 => ?_) ?_
          · have hv101 := iT hv101 hb102
            iterate 3 refine Wg.skip rfl rfl ?_
            refine Wg.li rfl rfl rfl rfl (fun _ => rfl) ?_
            refine Wg.nil ⟨some_b hv101, ?_, rfl⟩
            repeat (first | exact Env.le_refl _ | refine Env.le_put rfl ?_)
          · have hv101 := iF hv101 hb102
            iterate 4 refine Wg.li rfl rfl rfl rfl (fun _ => rfl) ?_
            refine Wg.nil ⟨some_b hv101, ?_, rfl⟩
            repeat (first | exact Env.le_refl _ | refine Env.le_put rfl ?_)
          refine Wg.nil ?_
          refine ⟨fun _ => ?_, fun h => absurd (by decide) h⟩
          refine Wp.cond (((v100.1.length : Int) == 0) || (v100.2.1 == v100.2.2)) rfl (fun hb103 => ?_) (fun hb103 => ?_)
          · have h := iT h hb103
            refine Wp.seq ?_
            refine Wp.reg rfl ?_
            obtain ⟨v104, hv104, h⟩ := ob h
            refine Wg.call rfl rfl rfl rfl (s23_ev hv104 _) ?_
            refine Wg.li rfl rfl rfl rfl (fun _ => rfl) ?_
            refine Wg.nil ?_
            refine ⟨fun _ => ?_, fun h => absurd (by decide) h⟩
            refine Wp.ret ?_
            refine ⟨fun h => absurd h (by decide), fun _ => ?_⟩
            have h := Option.some.inj h
            subst h
            exact ⟨.inr (by decide), _, rfl, rfl⟩
          · have h := iF h hb103
            refine Wp.skip ?_
            refine ⟨fun _ => ?_, fun h => absurd (by decide) h⟩
            refine Wp.seq ?_
            refine Wp.reg rfl ?_
            iterate 3 refine Wg.li rfl rfl rfl rfl (fun _ => rfl) ?_
            obtain ⟨v105, hv105, h⟩ := ob h
            refine Wg.call rfl rfl rfl rfl (s16_ev hv105 _) ?_
            iterate 5 refine Wg.li rfl rfl rfl rfl (fun _ => rfl) ?_
            refine Wg.nil ?_
            refine ⟨fun _ => ?_, fun h => absurd (by decide) h⟩
            refine Wp.seq ?_
            refine Wp.reg rfl ?_
            refine Wg.ld rfl rfl rfl rfl rfl rfl ?_
            iterate 2 refine Wg.li rfl rfl rfl rfl (fun _ => rfl) ?_
            obtain ⟨v106, hv106, h⟩ := ob h
            refine Wg.call rfl rfl rfl rfl (s16_ev hv106 _) ?_
            iterate 5 refine Wg.li rfl rfl rfl rfl (fun _ => rfl) ?_
            refine Wg.nil ?_
            refine ⟨fun _ => ?_, fun h => absurd (by decide) h⟩
            refine Wp.seq ?_
            refine Wp.reg rfl ?_
            refine Wg.ld rfl rfl rfl rfl rfl rfl ?_
            iterate 2 refine Wg.li rfl rfl rfl rfl (fun _ => rfl) ?_
            obtain ⟨v107, hv107, h⟩ := ob h
            refine Wg.call rfl rfl rfl rfl (s16_ev hv107 _) ?_
            iterate 5 refine Wg.li rfl rfl rfl rfl (fun _ => rfl) ?_
            refine Wg.nil ?_
            refine ⟨fun _ => ?_, fun h => absurd (by decide) h⟩
            refine Wp.seq ?_
            refine Wp.reg rfl ?_
            iterate 3 refine Wg.li rfl rfl rfl rfl (fun _ => rfl) ?_
            have hv108 := ifAnd (v105.2 == 0) (v106.2 == 0)
            refine Wg.grp 3 266 263 ((v105.2 == 0) && (v106.2 == 0)) (v105.2 == 0) rfl rfl (Nat.le_of_ble_eq_true rfl) (fun hb109 => ?_) (fun hb109 => ?_) ?_
            · have hv108 := iT hv108 hb109
              iterate 3 refine Wg.li rfl rfl rfl rfl (fun _ => rfl) ?_
              refine Wg.nil ⟨some_b hv108, ?_, rfl⟩
              repeat (first | exact Env.le_refl _ | refine Env.le_put rfl ?_)
            · have hv108 := iF hv108 hb109
              iterate 2 refine Wg.skip rfl rfl ?_
              refine Wg.li rfl rfl rfl rfl (fun _ => rfl) ?_
              refine Wg.nil ⟨some_b hv108, ?_, rfl⟩
              repeat (first | exact Env.le_refl _ | refine Env.le_put rfl ?_)
            refine Wg.li rfl rfl rfl rfl (fun _ => rfl) ?_
            have hv110 := ifAnd ((v105.2 == 0) && (v106.2 == 0)) (v107.2 == 0)
            refine Wg.grp 3 270 267 (((v105.2 == 0) && (v106.2 == 0)) && (v107.2 == 0)) ((v105.2 == 0) && (v106.2 == 0)) rfl rfl (Nat.le_of_ble_eq_true rfl) (fun hb111 => ?_) (fun hb111 => ?_) ?_
            · have hv110 := iT hv110 hb111
              iterate 3 refine Wg.li rfl rfl rfl rfl (fun _ => rfl) ?_
              refine Wg.nil ⟨some_b hv110, ?_, rfl⟩
              repeat (first | exact Env.le_refl _ | refine Env.le_put rfl ?_)
            · have hv110 := iF hv110 hb111
              iterate 2 refine Wg.skip rfl rfl ?_
              refine Wg.li rfl rfl rfl rfl (fun _ => rfl) ?_
              refine Wg.nil ⟨some_b hv110, ?_, rfl⟩
              repeat (first | exact Env.le_refl _ | refine Env.le_put rfl ?_)
            refine Wg.li rfl rfl rfl rfl (fun _ => rfl) ?_
            have hv112 := ifAnd (((v105.2 == 0) && (v106.2 == 0)) && (v107.2 == 0)) ((!(v106.1 == 2)) || (v105.1 == 2))
            refine Wg.grp 7 278 271 ((((v105.2 == 0) && (v106.2 == 0)) && (v107.2 == 0)) && ((!(v106.1 == 2)) || (v105.1 == 2))) (((v105.2 == 0) && (v106.2 == 0)) && (v107.2 == 0)) rfl rfl (Nat.le_of_ble_eq_true rfl) (fun hb113 => ?_) (fun hb113 => ?_) ?_
            · have hv112 := iT hv112 hb113
              iterate 3 refine Wg.li rfl rfl rfl rfl (fun _ => rfl) ?_
              have hv114 := ifOr (!(v106.1 == 2)) (v105.1 == 2)
              refine Wg.grp 3 277 274 ((!(v106.1 == 2)) || (v105.1 == 2)) (!(v106.1 == 2)) rfl rfl (Nat.le_of_ble_eq_true rfl) (fun hb115 => ?_) (fun hb115 => ?_) ?_
              · have hv114 := iT hv114 hb115
                iterate 2 refine Wg.skip rfl rfl ?_
                refine Wg.li rfl rfl rfl rfl (fun _ => rfl) ?_
                refine Wg.nil ⟨some_b hv114, ?_, rfl⟩
                repeat (first | exact Env.le_refl _ | refine Env.le_put rfl ?_)
              · have hv114 := iF hv114 hb115
                iterate 3 refine Wg.li rfl rfl rfl rfl (fun _ => rfl) ?_
                refine Wg.nil ⟨some_b hv114, ?_, rfl⟩
                repeat (first | exact Env.le_refl _ | refine Env.le_put rfl ?_)
              refine Wg.li rfl rfl rfl rfl (fun _ => rfl) ?_
              refine Wg.nil ⟨some_b hv112, ?_, rfl⟩
              repeat (first | exact Env.le_refl _ | refine Env.le_put rfl ?_)
            · have hv112 := iF hv112 hb113
              iterate 6 refine Wg.skip rfl rfl ?_
              refine Wg.li rfl rfl rfl rfl (fun _ => rfl) ?_
              refine Wg.nil ⟨some_b hv112, ?_, rfl⟩
              repeat (first | exact Env.le_refl _ | refine Env.le_put rfl ?_)
            refine Wg.li rfl rfl rfl rfl (fun _ => rfl) ?_
            have hv116 := ifAnd ((((v105.2 == 0) && (v106.2 == 0)) && (v107.2 == 0)) && ((!(v106.1 == 2)) || (v105.1 == 2))) (decide (v107.1 ≥ v105.1))
            refine Wg.grp 4 283 279 (((((v105.2 == 0) && (v106.2 == 0)) && (v107.2 == 0)) && ((!(v106.1 == 2)) || (v105.1 == 2))) && (decide (v107.1 ≥ v105.1))) ((((v105.2 == 0) && (v106.2 == 0)) && (v107.2 == 0)) && ((!(v106.1 == 2)) || (v105.1 == 2))) rfl rfl (Nat.le_of_ble_eq_true rfl) (fun hb117 => ?_) (fun hb117 => ?_) ?_
            · have hv116 := iT hv116 hb117
              iterate 4 refine Wg.li rfl rfl rfl rfl (fun _ => rfl) ?_
              refine Wg.nil ⟨some_b hv116, ?_, rfl⟩
              repeat (first | exact Env.le_refl _ | refine Env.le_put rfl ?_)
            · have hv116 := iF hv116 hb117
              iterate 3 refine Wg.skip rfl rfl ?_
              refine Wg.li rfl rfl rfl rfl (fun _ => rfl) ?_
              refine Wg.nil ⟨some_b hv116, ?_, rfl⟩
              repeat (first | exact Env.le_refl _ | refine Env.le_put rfl ?_)
            refine Wg.li rfl rfl rfl rfl (fun _ => rfl) ?_
            obtain ⟨v121, hv118, h⟩ := ob h
            refine Wg.grp 2 286 284 v121 (((((v105.2 == 0) && (v106.2 == 0)) && (v107.2 == 0)) && ((!(v106.1 == 2)) || (v105.1 == 2))) && (decide (v107.1 ≥ v105.1))) rfl rfl (Nat.le_of_ble_eq_true rfl) (fun hb119 => ?_) (fun hb119 => ?_) ?_
            · have hv118 := iT hv118 hb119
              obtain ⟨v120, hv120, hv118⟩ := ob hv118
              refine Wg.call rfl rfl rfl rfl (s23_ev hv120 _) ?_
              refine Wg.li rfl rfl rfl rfl (fun _ => rfl) ?_
              refine Wg.nil ⟨some_b hv118, ?_, rfl⟩
              repeat (first | exact Env.le_refl _ | refine Env.le_put rfl ?_)
            · have hv118 := iF hv118 hb119
              iterate 1 refine Wg.skip rfl rfl ?_
              refine Wg.li rfl rfl rfl rfl (fun _ => rfl) ?_
              refine Wg.nil ⟨some_b hv118, ?_, rfl⟩
              repeat (first | exact Env.le_refl _ | refine Env.le_put rfl ?_)
            refine Wg.li rfl rfl rfl rfl (fun _ => rfl) ?_
            refine Wg.nil ?_
            refine ⟨fun _ => ?_, fun h => absurd (by decide) h⟩
            refine Wp.ret ?_
            have h := Option.some.inj h
            subst h
            exact ⟨.inr (by decide), _, rfl, rfl⟩
end Go.Abs.Tr
