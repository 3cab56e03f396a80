/- Printed walk: the statement TrainMissed. Conditions: none. -/
import Derived.Test.YtdlofkamkiojlaaDoorXGl
set_option maxRecDepth 100000
set_option maxHeartbeats 1000000
set_option linter.unusedVariables false
namespace Go.Abs.Tr
open Go Go.Abs Go.Proofs
def s7 (N : Nat) (a0 : Table) (a1 : (List Int)) (a2 : Int) (a3 : (List Int)) : Option (Bool) :=
  (s35 N a0).bind fun v1 =>
  if (!v1) then
    (s23 4000).bind fun v3 =>
    some v3
  else
    (s42 N a0 a1).bind fun v4 =>
    if (((v4.1.length : Int) == 0) || (v4.2.1 == v4.2.2)) then
      (s23 4000).bind fun v8 =>
      some v8
    else
      (s36 N a2 2880).bind fun v9 =>
      (s12 N a0 v4.1 v4.2.1 v4.2.2).bind fun v10 =>
      (s16 N a0 v4.1 v9).bind fun v11 =>
      (s18 N a0 v4.1 v9).bind fun v12 =>
      (s21 N a0 v4.1 v9).bind fun v13 =>
      (if (((!(v10.2 == 0)) || (!(v11.2 == 0))) || (!v10.1)) then some true else 
        (s37 N a0 v4.1 v4.2.1 v4.2.2).bind fun v20 =>
        some (!v20)).bind fun v21 =>
      if v21 then
        some false
      else
        (ix a0.offices v4.2.1).bind fun v23 =>
        (s38 N v23 v9).bind fun v24 =>
        if (!(v24 == v9)) then
          (if ((((v11.1 == 0) && (v12.2 == 4)) && (v13.2 == 4)) && ((v12.1.length : Int) == 0)) then 
            (s23 4000).bind fun v34 =>
            some v34
           else some false).bind fun v35 =>
          some v35
        else
          (if (((!(v12.2 == 0)) || (!((v11.1 == 0) == (v13.2 == 4)))) || (!((v11.1 == 2) == ((v12.1.length : Int) == 0)))) then some true else 
            (s43 N v12.1 (v4.1.length : Int)).bind fun v42 =>
            some (!v42)).bind fun v43 =>
          if v43 then
            some false
          else
            (s40 N a0 a3).bind fun v45 =>
            (s39 N a0 v4.1 v9 v45).bind fun v46 =>
            if (decide (v46.1 < (v4.1.length : Int))) then
              (if (!(v11.1 == 2)) then 
                (s44 N v12.1 v46.1).bind fun v50 =>
                some (decide (v50 ≥ 0))
               else some false).bind fun v51 =>
              (if v51 then 
                (s23 4000).bind fun v54 =>
                some v54
               else some false).bind fun v55 =>
              some v55
            else
              (s29 N a0 v4.2.1 v4.2.2 v9).bind fun v56 =>
              if ((decide (v46.2 < 2880)) && ((!(v56.2 == 0)) || (decide (v56.1 > v46.2)))) then
                some false
              else
                (if ((!(v11.1 == 0)) && (v13.2 == 0)) then 
                  (s41 N v13.1 v46.2).bind fun v66 =>
                  some v66
                 else some false).bind fun v67 =>
                (if v67 then 
                  (s23 4000).bind fun v70 =>
                  some v70
                 else some false).bind fun v71 =>
                some v71
theorem at7 : ctx.P.funcs[7]? = some Tryd.f7 := by kernel_rfl
theorem s7_ev {N : Nat} {a0 : Table} {a1 : (List Int)} {a2 : Int} {a3 : (List Int)} {r : Bool} (h : s7 N a0 a1 a2 a3 = some r) : ∀ H, Ev ctx (.call 7 [.agg (eTable a0), lst eInt a1 .unk, .int .i64 a2, lst eInt a3 .unk] H (.bool r) H) := by
  refine Ev.of_pure at7 rfl rfl (Nat.le_of_ble_eq_true rfl) (pCons (pv (pTab _)) (pCons (Pure.lst pInt _ pUnk) (pCons (.int _ _) (pCons (Pure.lst pInt _ pUnk) pNil)))) (.bool _) ?_
  unfold s7 at h
  refine Wp.seq ?_
  refine Wp.reg rfl ?_
  refine Wg.box rfl rfl rfl rfl ?_
  refine Wg.li rfl rfl rfl rfl (fun _ => rfl) ?_
  refine Wg.nil ?_
  refine ⟨fun _ => ?_, fun h => absurd (by decide) h⟩
  refine Wp.seq ?_
  refine Wp.seq ?_
  refine Wp.reg rfl ?_
  refine Wg.li rfl rfl rfl rfl (fun _ => rfl) ?_
  obtain ⟨v1, hv1, h⟩ := ob h
  refine Wg.call rfl rfl rfl rfl (s35_ev hv1 _) ?_
  refine Wg.li rfl rfl rfl rfl (fun _ => rfl) ?_
  refine Wg.nil ?_
  refine ⟨fun _ => ?_, fun h => absurd (by decide) h⟩
  refine Wp.cond (!v1) rfl (fun hb2 => ?_) (fun hb2 => ?_)
  · have h := iT h hb2
    refine Wp.seq ?_
    refine Wp.reg rfl ?_
    obtain ⟨v3, hv3, h⟩ := ob h
    refine Wg.call rfl rfl rfl rfl (s23_ev hv3 _) ?_
    refine Wg.li rfl rfl rfl rfl (fun _ => rfl) ?_
    refine Wg.nil ?_
    refine ⟨fun _ => ?_, fun h => absurd (by decide) h⟩
    refine Wp.ret ?_
    refine ⟨fun h => absurd h (by decide), fun _ => ?_⟩
    have h := Option.some.inj h
    subst h
    exact ⟨.inr (by decide), _, rfl, rfl⟩
  · have h := iF h hb2
    refine Wp.skip ?_
    refine ⟨fun _ => ?_, fun h => absurd (by decide) h⟩
    refine Wp.seq ?_
    refine Wp.reg rfl ?_
    iterate 2 refine Wg.li rfl rfl rfl rfl (fun _ => rfl) ?_
    obtain ⟨v4, hv4, h⟩ := ob h
    refine Wg.call rfl rfl rfl rfl (s42_ev hv4 _) ?_
    iterate 7 refine Wg.li rfl rfl rfl rfl (fun _ => rfl) ?_
    refine Wg.nil ?_
    refine ⟨fun _ => ?_, fun h => absurd (by decide) h⟩
    refine Wp.seq ?_
    refine Wp.seq ?_
    refine Wp.reg rfl ?_
    iterate 4 refine Wg.li rfl rfl rfl rfl (fun _ => rfl) ?_
    have hv5 := ifOr ((v4.1.length : Int) == 0) (v4.2.1 == v4.2.2)
    refine Wg.grp 4 43 39 (((v4.1.length : Int) == 0) || (v4.2.1 == v4.2.2)) ((v4.1.length : Int) == 0) rfl rfl (Nat.le_of_ble_eq_true rfl) (fun hb6 => ?_) (fun hb6 => ?_) ?_
    · have hv5 := iT hv5 hb6
      iterate 3 refine Wg.skip rfl rfl ?_
      refine Wg.li rfl rfl rfl rfl (fun _ => rfl) ?_
      refine Wg.nil ⟨some_b hv5, ?_, rfl⟩
      repeat (first | exact Env.le_refl _ | refine Env.le_put rfl ?_)
    · have hv5 := iF hv5 hb6
      iterate 4 refine Wg.li rfl rfl rfl rfl (fun _ => rfl) ?_
      refine Wg.nil ⟨some_b hv5, ?_, rfl⟩
      repeat (first | exact Env.le_refl _ | refine Env.le_put rfl ?_)
    refine Wg.nil ?_
    refine ⟨fun _ => ?_, fun h => absurd (by decide) h⟩
    refine Wp.cond (((v4.1.length : Int) == 0) || (v4.2.1 == v4.2.2)) rfl (fun hb7 => ?_) (fun hb7 => ?_)
    · have h := iT h hb7
      refine Wp.seq ?_
      refine Wp.reg rfl ?_
      obtain ⟨v8, hv8, h⟩ := ob h
      refine Wg.call rfl rfl rfl rfl (s23_ev hv8 _) ?_
      refine Wg.li rfl rfl rfl rfl (fun _ => rfl) ?_
      refine Wg.nil ?_
      refine ⟨fun _ => ?_, fun h => absurd (by decide) h⟩
      refine Wp.ret ?_
      refine ⟨fun h => absurd h (by decide), fun _ => ?_⟩
      have h := Option.some.inj h
      subst h
      exact ⟨.inr (by decide), _, rfl, rfl⟩
    · have h := iF h hb7
      refine Wp.skip ?_
      refine ⟨fun _ => ?_, fun h => absurd (by decide) h⟩
      refine Wp.seq ?_
      refine Wp.reg rfl ?_
      refine Wg.li rfl rfl rfl rfl (fun _ => rfl) ?_
      obtain ⟨v9, hv9, h⟩ := ob h
      refine Wg.call rfl rfl rfl rfl (s36_ev hv9 _) ?_
      refine Wg.li rfl rfl rfl rfl (fun _ => rfl) ?_
      refine Wg.nil ?_
      refine ⟨fun _ => ?_, fun h => absurd (by decide) h⟩
      refine Wp.seq ?_
      refine Wp.reg rfl ?_
      iterate 4 refine Wg.li rfl rfl rfl rfl (fun _ => rfl) ?_
      obtain ⟨v10, hv10, h⟩ := ob h
      refine Wg.call rfl rfl rfl rfl (s12_ev hv10 _) ?_
      iterate 5 refine Wg.li rfl rfl rfl rfl (fun _ => rfl) ?_
      refine Wg.nil ?_
      refine ⟨fun _ => ?_, fun h => absurd (by decide) h⟩
      refine Wp.seq ?_
      refine Wp.reg rfl ?_
      iterate 3 refine Wg.li rfl rfl rfl rfl (fun _ => rfl) ?_
      obtain ⟨v11, hv11, h⟩ := ob h
      refine Wg.call rfl rfl rfl rfl (s16_ev hv11 _) ?_
      iterate 5 refine Wg.li rfl rfl rfl rfl (fun _ => rfl) ?_
      refine Wg.nil ?_
      refine ⟨fun _ => ?_, fun h => absurd (by decide) h⟩
      refine Wp.seq ?_
      refine Wp.reg rfl ?_
      iterate 3 refine Wg.li rfl rfl rfl rfl (fun _ => rfl) ?_
      obtain ⟨v12, hv12, h⟩ := ob h
      refine Wg.call rfl rfl rfl rfl (s18_ev hv12 _) ?_
      iterate 5 refine Wg.li rfl rfl rfl rfl (fun _ => rfl) ?_
      refine Wg.nil ?_
      refine ⟨fun _ => ?_, fun h => absurd (by decide) h⟩
      refine Wp.seq ?_
      refine Wp.reg rfl ?_
      iterate 3 refine Wg.li rfl rfl rfl rfl (fun _ => rfl) ?_
      obtain ⟨v13, hv13, h⟩ := ob h
      refine Wg.call rfl rfl rfl rfl (s21_ev hv13 _) ?_
      iterate 3 refine Wg.li rfl rfl rfl rfl (fun _ => rfl) ?_
      refine Wg.alloc rfl rfl rfl rfl ?_
      refine Wg.heavy true (Nat.le_of_ble_eq_true rfl) rfl rfl rfl rfl ?_
      refine Wg.li rfl rfl rfl rfl (fun _ => rfl) ?_
      refine Wg.nil ?_
      refine ⟨fun _ => ?_, fun h => absurd (by decide) h⟩
      refine Wp.seq ?_
      refine Wp.seq ?_
      refine Wp.reg rfl ?_
      iterate 3 refine Wg.li rfl rfl rfl rfl (fun _ => rfl) ?_
      have hv14 := ifOr (!(v10.2 == 0)) (!(v11.2 == 0))
      refine Wg.grp 3 81 78 ((!(v10.2 == 0)) || (!(v11.2 == 0))) (!(v10.2 == 0)) rfl rfl (Nat.le_of_ble_eq_true rfl) (fun hb15 => ?_) (fun hb15 => ?_) ?_
      · have hv14 := iT hv14 hb15
        iterate 2 refine Wg.skip rfl rfl ?_
        refine Wg.li rfl rfl rfl rfl (fun _ => rfl) ?_
        refine Wg.nil ⟨some_b hv14, ?_, rfl⟩
        repeat (first | exact Env.le_refl _ | refine Env.le_put rfl ?_)
      · have hv14 := iF hv14 hb15
        iterate 3 refine Wg.li rfl rfl rfl rfl (fun _ => rfl) ?_
        refine Wg.nil ⟨some_b hv14, ?_, rfl⟩
        repeat (first | exact Env.le_refl _ | refine Env.le_put rfl ?_)
      refine Wg.li rfl rfl rfl rfl (fun _ => rfl) ?_
      have hv16 := ifOr ((!(v10.2 == 0)) || (!(v11.2 == 0))) (!v10.1)
      refine Wg.grp 3 85 82 (((!(v10.2 == 0)) || (!(v11.2 == 0))) || (!v10.1)) ((!(v10.2 == 0)) || (!(v11.2 == 0))) rfl rfl (Nat.le_of_ble_eq_true rfl) (fun hb17 => ?_) (fun hb17 => ?_) ?_
      · have hv16 := iT hv16 hb17
        iterate 2 refine Wg.skip rfl rfl ?_
        refine Wg.li rfl rfl rfl rfl (fun _ => rfl) ?_
        refine Wg.nil ⟨some_b hv16, ?_, rfl⟩
        repeat (first | exact Env.le_refl _ | refine Env.le_put rfl ?_)
      · have hv16 := iF hv16 hb17
        iterate 3 refine Wg.li rfl rfl rfl rfl (fun _ => rfl) ?_
        refine Wg.nil ⟨some_b hv16, ?_, rfl⟩
        repeat (first | exact Env.le_refl _ | refine Env.le_put rfl ?_)
      refine Wg.li rfl rfl rfl rfl (fun _ => rfl) ?_
      obtain ⟨v21, hv18, h⟩ := ob h
      refine Wg.grp 7 93 86 v21 (((!(v10.2 == 0)) || (!(v11.2 == 0))) || (!v10.1)) rfl rfl (Nat.le_of_ble_eq_true rfl) (fun hb19 => ?_) (fun hb19 => ?_) ?_
      · have hv18 := iT hv18 hb19
        iterate 6 refine Wg.skip rfl rfl ?_
        refine Wg.li rfl rfl rfl rfl (fun _ => rfl) ?_
        refine Wg.nil ⟨some_b hv18, ?_, rfl⟩
        repeat (first | exact Env.le_refl _ | refine Env.le_put rfl ?_)
      · have hv18 := iF hv18 hb19
        iterate 4 refine Wg.li rfl rfl rfl rfl (fun _ => rfl) ?_
        obtain ⟨v20, hv20, hv18⟩ := ob hv18
        refine Wg.call rfl rfl rfl rfl (s37_ev hv20 _) ?_
        iterate 2 refine Wg.li rfl rfl rfl rfl (fun _ => rfl) ?_
        refine Wg.nil ⟨some_b hv18, ?_, rfl⟩
        repeat (first | exact Env.le_refl _ | refine Env.le_put rfl ?_)
      refine Wg.nil ?_
      refine ⟨fun _ => ?_, fun h => absurd (by decide) h⟩
      refine Wp.cond v21 rfl (fun hb22 => ?_) (fun hb22 => ?_)
      · have h := iT h hb22
        refine Wp.seq ?_
        refine Wp.reg rfl ?_
        refine Wg.li rfl rfl rfl rfl (fun _ => rfl) ?_
        refine Wg.nil ?_
        refine ⟨fun _ => ?_, fun h => absurd (by decide) h⟩
        refine Wp.ret ?_
        refine ⟨fun h => absurd h (by decide), fun _ => ?_⟩
        have h := Option.some.inj h
        subst h
        exact ⟨.inr (by decide), _, rfl, rfl⟩
      · have h := iF h hb22
        refine Wp.skip ?_
        refine ⟨fun _ => ?_, fun h => absurd (by decide) h⟩
        refine Wp.seq ?_
        refine Wp.seq ?_
        refine Wp.reg rfl ?_
        iterate 3 refine Wg.li rfl rfl rfl rfl (fun _ => rfl) ?_
        obtain ⟨v23, hv23, h⟩ := ob h
        refine Wg.idx (f := (eLs eSpan)) (xs := a0.offices) (c := .unk) rfl rfl rfl rfl rfl rfl rfl lLs (by decide) hv23 ?_
        iterate 2 refine Wg.li rfl rfl rfl rfl (fun _ => rfl) ?_
        obtain ⟨v24, hv24, h⟩ := ob h
        refine Wg.call rfl rfl rfl rfl (s38_ev hv24 _) ?_
        iterate 2 refine Wg.li rfl rfl rfl rfl (fun _ => rfl) ?_
        refine Wg.nil ?_
        refine ⟨fun _ => ?_, fun h => absurd (by decide) h⟩
        refine Wp.cond (!(v24 == v9)) rfl (fun hb25 => ?_) (fun hb25 => ?_)
        · have h := iT h hb25
          refine Wp.seq ?_
          refine Wp.reg rfl ?_
          iterate 3 refine Wg.li rfl rfl rfl rfl (fun _ => rfl) ?_
          have hv26 := ifAnd (v11.1 == 0) (v12.2 == 4)
          refine Wg.grp 3 108 105 ((v11.1 == 0) && (v12.2 == 4)) (v11.1 == 0) rfl rfl (Nat.le_of_ble_eq_true rfl) (fun hb27 => ?_) (fun hb27 => ?_) ?_
          · have hv26 := iT hv26 hb27
            iterate 3 refine Wg.li rfl rfl rfl rfl (fun _ => rfl) ?_
            refine Wg.nil ⟨some_b hv26, ?_, rfl⟩
            repeat (first | exact Env.le_refl _ | refine Env.le_put rfl ?_)
          · have hv26 := iF hv26 hb27
            iterate 2 refine Wg.skip rfl rfl ?_
            refine Wg.li rfl rfl rfl rfl (fun _ => rfl) ?_
            refine Wg.nil ⟨some_b hv26, ?_, rfl⟩
            repeat (first | exact Env.le_refl _ | refine Env.le_put rfl ?_)
          refine Wg.li rfl rfl rfl rfl (fun _ => rfl) ?_
          have hv28 := ifAnd ((v11.1 == 0) && (v12.2 == 4)) (v13.2 == 4)
          refine Wg.grp 3 112 109 (((v11.1 == 0) && (v12.2 == 4)) && (v13.2 == 4)) ((v11.1 == 0) && (v12.2 == 4)) rfl rfl (Nat.le_of_ble_eq_true rfl) (fun hb29 => ?_) (fun hb29 => ?_) ?_
          · have hv28 := iT hv28 hb29
            iterate 3 refine Wg.li rfl rfl rfl rfl (fun _ => rfl) ?_
            refine Wg.nil ⟨some_b hv28, ?_, rfl⟩
            repeat (first | exact Env.le_refl _ | refine Env.le_put rfl ?_)
          · have hv28 := iF hv28 hb29
            iterate 2 refine Wg.skip rfl rfl ?_
            refine Wg.li rfl rfl rfl rfl (fun _ => rfl) ?_
            refine Wg.nil ⟨some_b hv28, ?_, rfl⟩
            repeat (first | exact Env.le_refl _ | refine Env.le_put rfl ?_)
          refine Wg.li rfl rfl rfl rfl (fun _ => rfl) ?_
          have hv30 := ifAnd (((v11.1 == 0) && (v12.2 == 4)) && (v13.2 == 4)) ((v12.1.length : Int) == 0)
          refine Wg.grp 4 117 113 ((((v11.1 == 0) && (v12.2 == 4)) && (v13.2 == 4)) && ((v12.1.length : Int) == 0)) (((v11.1 == 0) && (v12.2 == 4)) && (v13.2 == 4)) rfl rfl (Nat.le_of_ble_eq_true rfl) (fun hb31 => ?_) (fun hb31 => ?_) ?_
          · have hv30 := iT hv30 hb31
            iterate 4 refine Wg.li rfl rfl rfl rfl (fun _ => rfl) ?_
            refine Wg.nil ⟨some_b hv30, ?_, rfl⟩
            repeat (first | exact Env.le_refl _ | refine Env.le_put rfl ?_)
          · have hv30 := iF hv30 hb31
            iterate 3 refine Wg.skip rfl rfl ?_
            refine Wg.li rfl rfl rfl rfl (fun _ => rfl) ?_
            refine Wg.nil ⟨some_b hv30, ?_, rfl⟩
            repeat (first | exact Env.le_refl _ | refine Env.le_put rfl ?_)
          refine Wg.li rfl rfl rfl rfl (fun _ => rfl) ?_
          obtain ⟨v35, hv32, h⟩ := ob h
          refine Wg.grp 2 120 118 v35 ((((v11.1 == 0) && (v12.2 == 4)) && (v13.2 == 4)) && ((v12.1.length : Int) == 0)) rfl rfl (Nat.le_of_ble_eq_true rfl) (fun hb33 => ?_) (fun hb33 => ?_) ?_
          · have hv32 := iT hv32 hb33
            obtain ⟨v34, hv34, hv32⟩ := ob hv32
            refine Wg.call rfl rfl rfl rfl (s23_ev hv34 _) ?_
            refine Wg.li rfl rfl rfl rfl (fun _ => rfl) ?_
            refine Wg.nil ⟨some_b hv32, ?_, rfl⟩
            repeat (first | exact Env.le_refl _ | refine Env.le_put rfl ?_)
          · have hv32 := iF hv32 hb33
            iterate 1 refine Wg.skip rfl rfl ?_
            refine Wg.li rfl rfl rfl rfl (fun _ => rfl) ?_
            refine Wg.nil ⟨some_b hv32, ?_, rfl⟩
            repeat (first | exact Env.le_refl _ | refine Env.le_put rfl ?_)
          refine Wg.li rfl rfl rfl rfl (fun _ => rfl) ?_
          refine Wg.nil ?_
          refine ⟨fun _ => ?_, fun h => absurd (by decide) h⟩
          refine Wp.ret ?_
          refine ⟨fun h => absurd h (by decide), fun _ => ?_⟩
          have h := Option.some.inj h
          subst h
          exact ⟨.inr (by decide), _, rfl, rfl⟩
        · have h := iF h hb25
          refine Wp.skip ?_
          refine ⟨fun _ => ?_, fun h => absurd (by decide) h⟩
          refine Wp.seq ?_
          refine Wp.seq ?_
          refine Wp.reg rfl ?_
          iterate 3 refine Wg.li rfl rfl rfl rfl (fun _ => rfl) ?_
          have hv36 := ifOr (!(v12.2 == 0)) (!((v11.1 == 0) == (v13.2 == 4)))
          refine Wg.grp 6 129 123 ((!(v12.2 == 0)) || (!((v11.1 == 0) == (v13.2 == 4)))) (!(v12.2 == 0)) rfl rfl (Nat.le_of_ble_eq_true rfl) (fun hb37 => ?_) (fun hb37 => ?_) ?_
          · have hv36 := iT hv36 hb37
            iterate 5 refine Wg.skip rfl rfl ?_
            refine Wg.li rfl rfl rfl rfl (fun _ => rfl) ?_
            refine Wg.nil ⟨some_b hv36, ?_, rfl⟩
            repeat (first | exact Env.le_refl _ | refine Env.le_put rfl ?_)
          · have hv36 := iF hv36 hb37
            iterate 6 refine Wg.li rfl rfl rfl rfl (fun _ => rfl) ?_
            refine Wg.nil ⟨some_b hv36, ?_, rfl⟩
            repeat (first | exact Env.le_refl _ | refine Env.le_put rfl ?_)
          refine Wg.li rfl rfl rfl rfl (fun _ => rfl) ?_
          have hv38 := ifOr ((!(v12.2 == 0)) || (!((v11.1 == 0) == (v13.2 == 4)))) (!((v11.1 == 2) == ((v12.1.length : Int) == 0)))
          refine Wg.grp 7 137 130 (((!(v12.2 == 0)) || (!((v11.1 == 0) == (v13.2 == 4)))) || (!((v11.1 == 2) == ((v12.1.length : Int) == 0)))) ((!(v12.2 == 0)) || (!((v11.1 == 0) == (v13.2 == 4)))) rfl rfl (Nat.le_of_ble_eq_true rfl) (fun hb39 => ?_) (fun hb39 => ?_) ?_
          · have hv38 := iT hv38 hb39
            iterate 6 refine Wg.skip rfl rfl ?_
            refine Wg.li rfl rfl rfl rfl (fun _ => rfl) ?_
            refine Wg.nil ⟨some_b hv38, ?_, rfl⟩
            repeat (first | exact Env.le_refl _ | refine Env.le_put rfl ?_)
          · have hv38 := iF hv38 hb39
            iterate 7 refine Wg.li rfl rfl rfl rfl (fun _ => rfl) ?_
            refine Wg.nil ⟨some_b hv38, ?_, rfl⟩
            repeat (first | exact Env.le_refl _ | refine Env.le_put rfl ?_)
          refine Wg.li rfl rfl rfl rfl (fun _ => rfl) ?_
          obtain ⟨v43, hv40, h⟩ := ob h
          refine Wg.grp 6 144 138 v43 (((!(v12.2 == 0)) || (!((v11.1 == 0) == (v13.2 == 4)))) || (!((v11.1 == 2) == ((v12.1.length : Int) == 0)))) rfl rfl (Nat.le_of_ble_eq_true rfl) (fun hb41 => ?_) (fun hb41 => ?_) ?_
          · have hv40 := iT hv40 hb41
            iterate 5 refine Wg.skip rfl rfl ?_
            refine Wg.li rfl rfl rfl rfl (fun _ => rfl) ?_
            refine Wg.nil ⟨some_b hv40, ?_, rfl⟩
            repeat (first | exact Env.le_refl _ | refine Env.le_put rfl ?_)
          · have hv40 := iF hv40 hb41
            iterate 3 refine Wg.li rfl rfl rfl rfl (fun _ => rfl) ?_
            obtain ⟨v42, hv42, hv40⟩ := ob hv40
            refine Wg.call rfl rfl rfl rfl (s43_ev hv42 _) ?_
            iterate 2 refine Wg.li rfl rfl rfl rfl (fun _ => rfl) ?_
            refine Wg.nil ⟨some_b hv40, ?_, rfl⟩
            repeat (first | exact Env.le_refl _ | refine Env.le_put rfl ?_)
          refine Wg.nil ?_
          refine ⟨fun _ => ?_, fun h => absurd (by decide) h⟩
          refine Wp.cond v43 rfl (fun hb44 => ?_) (fun hb44 => ?_)
          · have h := iT h hb44
            refine Wp.seq ?_
            refine Wp.reg rfl ?_
            refine Wg.li rfl rfl rfl rfl (fun _ => rfl) ?_
            refine Wg.nil ?_
            refine ⟨fun _ => ?_, fun h => absurd (by decide) h⟩
            refine Wp.ret ?_
            refine ⟨fun h => absurd h (by decide), fun _ => ?_⟩
            have h := Option.some.inj h
            subst h
            exact ⟨.inr (by decide), _, rfl, rfl⟩
          · have h := iF h hb44
            refine Wp.skip ?_
            refine ⟨fun _ => ?_, fun h => absurd (by decide) h⟩
            refine Wp.seq ?_
            refine Wp.drw _ [0, 3] rfl (by kernel_rfl) (Nat.le_refl _) ?_
            iterate 5 refine Wg.li rfl rfl rfl rfl (fun _ => rfl) ?_
            obtain ⟨v45, hv45, h⟩ := ob h
            refine Wg.call rfl rfl rfl rfl (s40_ev hv45 _) ?_
            obtain ⟨v46, hv46, h⟩ := ob h
            refine Wg.call rfl rfl rfl rfl (s39_ev hv46 _) ?_
            iterate 5 refine Wg.li rfl rfl rfl rfl (fun _ => rfl) ?_
            refine Wg.nil ?_
            refine ⟨fun _ => ?_, fun h => absurd (by decide) h⟩
            refine Wp.seq ?_
            refine Wp.seq ?_
            refine Wp.reg rfl ?_
            iterate 4 refine Wg.li rfl rfl rfl rfl (fun _ => rfl) ?_
            refine Wg.nil ?_
            refine ⟨fun _ => ?_, fun h => absurd (by decide) h⟩
            refine Wp.cond (decide (v46.1 < (v4.1.length : Int))) rfl (fun hb47 => ?_) (fun hb47 => ?_)
            · have h := iT h hb47
              refine Wp.seq ?_
              refine Wp.reg rfl ?_
              iterate 3 refine Wg.li rfl rfl rfl rfl (fun _ => rfl) ?_
              obtain ⟨v51, hv48, h⟩ := ob h
              refine Wg.grp 5 166 161 v51 (!(v11.1 == 2)) rfl rfl (Nat.le_of_ble_eq_true rfl) (fun hb49 => ?_) (fun hb49 => ?_) ?_
              · have hv48 := iT hv48 hb49
                iterate 2 refine Wg.li rfl rfl rfl rfl (fun _ => rfl) ?_
                obtain ⟨v50, hv50, hv48⟩ := ob hv48
                refine Wg.call rfl rfl rfl rfl (s44_ev hv50 _) ?_
                iterate 2 refine Wg.li rfl rfl rfl rfl (fun _ => rfl) ?_
                refine Wg.nil ⟨some_b hv48, ?_, rfl⟩
                repeat (first | exact Env.le_refl _ | refine Env.le_put rfl ?_)
              · have hv48 := iF hv48 hb49
                iterate 4 refine Wg.skip rfl rfl ?_
                refine Wg.li rfl rfl rfl rfl (fun _ => rfl) ?_
                refine Wg.nil ⟨some_b hv48, ?_, rfl⟩
                repeat (first | exact Env.le_refl _ | refine Env.le_put rfl ?_)
              refine Wg.li rfl rfl rfl rfl (fun _ => rfl) ?_
              obtain ⟨v55, hv52, h⟩ := ob h
              refine Wg.grp 2 169 167 v55 v51 rfl rfl (Nat.le_of_ble_eq_true rfl) (fun hb53 => ?_) (fun hb53 => ?_) ?_
              · have hv52 := iT hv52 hb53
                obtain ⟨v54, hv54, hv52⟩ := ob hv52
                refine Wg.call rfl rfl rfl rfl (s23_ev hv54 _) ?_
                refine Wg.li rfl rfl rfl rfl (fun _ => rfl) ?_
                refine Wg.nil ⟨some_b hv52, ?_, rfl⟩
                repeat (first | exact Env.le_refl _ | refine Env.le_put rfl ?_)
              · have hv52 := iF hv52 hb53
                iterate 1 refine Wg.skip rfl rfl ?_
                refine Wg.li rfl rfl rfl rfl (fun _ => rfl) ?_
                refine Wg.nil ⟨some_b hv52, ?_, rfl⟩
                repeat (first | exact Env.le_refl _ | refine Env.le_put rfl ?_)
              refine Wg.li rfl rfl rfl rfl (fun _ => rfl) ?_
              refine Wg.nil ?_
              refine ⟨fun _ => ?_, fun h => absurd (by decide) h⟩
              refine Wp.ret ?_
              refine ⟨fun h => absurd h (by decide), fun _ => ?_⟩
              have h := Option.some.inj h
              subst h
              exact ⟨.inr (by decide), _, rfl, rfl⟩
            · have h := iF h hb47
              refine Wp.skip ?_
              refine ⟨fun _ => ?_, fun h => absurd (by decide) h⟩
              refine Wp.seq ?_
              refine Wp.reg rfl ?_
              iterate 4 refine Wg.li rfl rfl rfl rfl (fun _ => rfl) ?_
              obtain ⟨v56, hv56, h⟩ := ob h
              refine Wg.call rfl rfl rfl rfl (s29_ev hv56 _) ?_
              iterate 5 refine Wg.li rfl rfl rfl rfl (fun _ => rfl) ?_
              refine Wg.nil ?_
              refine ⟨fun _ => ?_, fun h => absurd (by decide) h⟩
              refine Wp.seq ?_
              refine Wp.seq ?_
              refine Wp.reg rfl ?_
              iterate 3 refine Wg.li rfl rfl rfl rfl (fun _ => rfl) ?_
              have hv57 := ifAnd (decide (v46.2 < 2880)) ((!(v56.2 == 0)) || (decide (v56.1 > v46.2)))
              refine Wg.grp 8 188 180 ((decide (v46.2 < 2880)) && ((!(v56.2 == 0)) || (decide (v56.1 > v46.2)))) (decide (v46.2 < 2880)) rfl rfl (Nat.le_of_ble_eq_true rfl) (fun hb58 => ?_) (fun hb58 => ?_) ?_
              · have hv57 := iT hv57 hb58
                iterate 3 refine Wg.li rfl rfl rfl rfl (fun _ => rfl) ?_
                have hv59 := ifOr (!(v56.2 == 0)) (decide (v56.1 > v46.2))
                refine Wg.grp 4 187 183 ((!(v56.2 == 0)) || (decide (v56.1 > v46.2))) (!(v56.2 == 0)) rfl rfl (Nat.le_of_ble_eq_true rfl) (fun hb60 => ?_) (fun hb60 => ?_) ?_
                · have hv59 := iT hv59 hb60
                  iterate 3 refine Wg.skip rfl rfl ?_
                  refine Wg.li rfl rfl rfl rfl (fun _ => rfl) ?_
                  refine Wg.nil ⟨some_b hv59, ?_, rfl⟩
                  repeat (first | exact Env.le_refl _ | refine Env.le_put rfl ?_)
                · have hv59 := iF hv59 hb60
                  iterate 4 refine Wg.li rfl rfl rfl rfl (fun _ => rfl) ?_
                  refine Wg.nil ⟨some_b hv59, ?_, rfl⟩
                  repeat (first | exact Env.le_refl _ | refine Env.le_put rfl ?_)
                refine Wg.li rfl rfl rfl rfl (fun _ => rfl) ?_
                refine Wg.nil ⟨some_b hv57, ?_, rfl⟩
                repeat (first | exact Env.le_refl _ | refine Env.le_put rfl ?_)
              · have hv57 := iF hv57 hb58
                iterate 7 refine Wg.skip rfl rfl ?_
                refine Wg.li rfl rfl rfl rfl (fun _ => rfl) ?_
                refine Wg.nil ⟨some_b hv57, ?_, rfl⟩
                repeat (first | exact Env.le_refl _ | refine Env.le_put rfl ?_)
              refine Wg.nil ?_
              refine ⟨fun _ => ?_, fun h => absurd (by decide) h⟩
              refine Wp.cond ((decide (v46.2 < 2880)) && ((!(v56.2 == 0)) || (decide (v56.1 > v46.2)))) rfl (fun hb61 => ?_) (fun hb61 => ?_)
              · have h := iT h hb61
                refine Wp.seq ?_
                refine Wp.reg rfl ?_
                refine Wg.li rfl rfl rfl rfl (fun _ => rfl) ?_
                refine Wg.nil ?_
                refine ⟨fun _ => ?_, fun h => absurd (by decide) h⟩
                refine Wp.ret ?_
                refine ⟨fun h => absurd h (by decide), fun _ => ?_⟩
                have h := Option.some.inj h
                subst h
                exact ⟨.inr (by decide), _, rfl, rfl⟩
              · have h := iF h hb61
                refine Wp.skip ?_
                refine ⟨fun _ => ?_, fun h => absurd (by decide) h⟩
                refine Wp.seq ?_
                refine Wp.reg rfl ?_
                iterate 3 refine Wg.li rfl rfl rfl rfl (fun _ => rfl) ?_
                have hv62 := ifAnd (!(v11.1 == 0)) (v13.2 == 0)
                refine Wg.grp 3 194 191 ((!(v11.1 == 0)) && (v13.2 == 0)) (!(v11.1 == 0)) rfl rfl (Nat.le_of_ble_eq_true rfl) (fun hb63 => ?_) (fun hb63 => ?_) ?_
                · have hv62 := iT hv62 hb63
                  iterate 3 refine Wg.li rfl rfl rfl rfl (fun _ => rfl) ?_
                  refine Wg.nil ⟨some_b hv62, ?_, rfl⟩
                  repeat (first | exact Env.le_refl _ | refine Env.le_put rfl ?_)
                · have hv62 := iF hv62 hb63
                  iterate 2 refine Wg.skip rfl rfl ?_
                  refine Wg.li rfl rfl rfl rfl (fun _ => rfl) ?_
                  refine Wg.nil ⟨some_b hv62, ?_, rfl⟩
                  repeat (first | exact Env.le_refl _ | refine Env.le_put rfl ?_)
                refine Wg.li rfl rfl rfl rfl (fun _ => rfl) ?_
                obtain ⟨v67, hv64, h⟩ := ob h
                refine Wg.grp 4 199 195 v67 ((!(v11.1 == 0)) && (v13.2 == 0)) rfl rfl (Nat.le_of_ble_eq_true rfl) (fun hb65 => ?_) (fun hb65 => ?_) ?_
                · have hv64 := iT hv64 hb65
                  refine Wg.ld rfl rfl rfl rfl rfl rfl ?_
                  refine Wg.li rfl rfl rfl rfl (fun _ => rfl) ?_
                  obtain ⟨v66, hv66, hv64⟩ := ob hv64
                  refine Wg.call rfl rfl rfl rfl (s41_ev hv66 _) ?_
                  refine Wg.li rfl rfl rfl rfl (fun _ => rfl) ?_
                  refine Wg.nil ⟨some_b hv64, ?_, rfl⟩
                  repeat (first | exact Env.le_refl _ | refine Env.le_put rfl ?_)
                · have hv64 := iF hv64 hb65
                  iterate 3 refine Wg.skip rfl rfl ?_
                  refine Wg.li rfl rfl rfl rfl (fun _ => rfl) ?_
                  refine Wg.nil ⟨some_b hv64, ?_, rfl⟩
                  repeat (first | exact Env.le_refl _ | refine Env.le_put rfl ?_)
                refine Wg.li rfl rfl rfl rfl (fun _ => rfl) ?_
                obtain ⟨v71, hv68, h⟩ := ob h
                refine Wg.grp 2 202 200 v71 v67 rfl rfl (Nat.le_of_ble_eq_true rfl) (fun hb69 => ?_) (fun hb69 => ?_) ?_
                · have hv68 := iT hv68 hb69
                  obtain ⟨v70, hv70, hv68⟩ := ob hv68
                  refine Wg.call rfl rfl rfl rfl (s23_ev hv70 _) ?_
                  refine Wg.li rfl rfl rfl rfl (fun _ => rfl) ?_
                  refine Wg.nil ⟨some_b hv68, ?_, rfl⟩
                  repeat (first | exact Env.le_refl _ | refine Env.le_put rfl ?_)
                · have hv68 := iF hv68 hb69
                  iterate 1 refine Wg.skip rfl rfl ?_
                  refine Wg.li rfl rfl rfl rfl (fun _ => rfl) ?_
                  refine Wg.nil ⟨some_b hv68, ?_, rfl⟩
                  repeat (first | exact Env.le_refl _ | refine Env.le_put rfl ?_)
                refine Wg.li rfl rfl rfl rfl (fun _ => rfl) ?_
                refine Wg.nil ?_
                refine ⟨fun _ => ?_, fun h => absurd (by decide) h⟩
                refine Wp.ret ?_
                have h := Option.some.inj h
                subst h
                exact ⟨.inr (by decide), _, rfl, rfl⟩
end Go.Abs.Tr
