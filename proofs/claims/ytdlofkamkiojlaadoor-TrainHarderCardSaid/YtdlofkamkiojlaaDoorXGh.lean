/- Printed walks: the layer of trains, over all routes. Conditions: none. -/
import Derived.Test.YtdlofkamkiojlaaDoorXGe
import Derived.Test.YtdlofkamkiojlaaDoorXGg
set_option maxRecDepth 100000
set_option maxHeartbeats 1000000
set_option linter.unusedVariables false
namespace Go.Abs.Tr
open Go Go.Abs Go.Proofs
noncomputable def R78_0 (e : Env) : ALoop := { st := .ready, pend := .normal, N := 40, tmps := e, params := [19], assign := (rfP Tryd.f78.body 0).2.1, body := (rfP Tryd.f78.body 0).2.2 }
def y78_0 (N : Nat) (a0 : Calc) (a3 : Int) (s3 : Found) (rt : (List Leg)) : Option (Found) :=
  (s65 N a0 rt a3).bind fun v4 =>
  if (!(v4 == 2)) then
    some s3
  else
    (s101 N rt).bind fun v6 =>
    (s75 N a0 rt a3).bind fun v7 =>
    (s106 N (Found.mk v6 v7.high) s3).bind fun v8 =>
    if v8 then
      some (Found.mk v6 v7.high)
    else
      some s3
def s78 (N : Nat) (a0 : Calc) (a1 : Int) (a2 : Int) (a3 : Int) : Option (Found) :=
  (s100 N).bind fun v1 =>
  (s81 N a0 a1 a2).bind fun v2 =>
  (itS N (fun s x => (y78_0 N a0 a3 s x).map (fun s => (s, true))) a0 a1 a2 (Found.mk [] 2880)).bind fun o10 =>
  some o10
theorem at78 : ctx.P.funcs[78]? = some Tryd.f78 := by kernel_rfl
theorem s78_ev {N : Nat} {a0 : Calc} {a1 : Int} {a2 : Int} {a3 : Int} {r : Found} (h : s78 N a0 a1 a2 a3 = some r) : ∀ H, Ev ctx (.call 78 [.agg (eCalc a0), .int .i64 a1, .int .i64 a2, .int .i64 a3] H (.agg (eFound r)) H) := by
  refine Ev.of_pure at78 rfl rfl (Nat.le_of_ble_eq_true rfl) (pCons (pv (pCalcs _)) (pCons (.int _ _) (pCons (.int _ _) (pCons (.int _ _) pNil)))) (pv (pFound _)) ?_
  unfold s78 at h
  refine Wp.seq ?_
  refine Wp.reg rfl ?_
  refine Wg.box rfl rfl rfl rfl ?_
  refine Wg.box rfl rfl rfl rfl ?_
  refine Wg.alloc rfl rfl rfl rfl ?_
  refine Wg.nil ?_
  refine ⟨fun _ => ?_, fun h => absurd (by decide) h⟩
  refine Wp.seq ?_
  refine Wp.reg rfl ?_
  refine Wg.li rfl rfl rfl rfl (fun _ => rfl) ?_
  refine Wg.alloc rfl rfl rfl rfl ?_
  refine Wg.heavy true (Nat.le_of_ble_eq_true rfl) rfl rfl rfl rfl ?_
  refine Wg.nil ?_
  refine ⟨fun _ => ?_, fun h => absurd (by decide) h⟩
  refine Wp.seq ?_
  refine Wp.reg rfl ?_
  obtain ⟨v1, hv1, h⟩ := ob h
  refine Wg.call rfl rfl rfl rfl (s100_ev hv1 _) ?_
  refine Wg.alloc rfl rfl rfl rfl ?_
  refine Wg.heavy true (Nat.le_of_ble_eq_true rfl) rfl rfl rfl rfl ?_
  refine Wg.nil ?_
  refine ⟨fun _ => ?_, fun h => absurd (by decide) h⟩
  refine Wp.seq ?_
  refine Wp.seq ?_
  refine Wp.reg rfl ?_
  iterate 3 refine Wg.li rfl rfl rfl rfl (fun _ => rfl) ?_
  obtain ⟨v2, hv2, h⟩ := ob h
  refine Wg.call rfl rfl rfl rfl (s81_ev hv2 _) ?_
  refine Wg.nil ?_
  refine ⟨fun _ => ?_, fun h => absurd (by decide) h⟩
  refine Wp.block ?_
  obtain ⟨o10, hx11, h⟩ := ob h
  refine Sub.use (Sub.canon [some 0, some 1, some 2] [.cells (eFound (Found.mk [] 0)), .cells (eFound (Found.mk [] 2880)), .cells [.func 106 [] []]] [(4, .ro (eCalc a0)), (7, .ro [.int .i64 a3]), (8, .ptr 0 0), (9, .ptr 1 0), (10, .ptr 2 0), (18, .func 103 [] [.ro [.int .i64 a2], .ro (eCalc a0), .ro [.int .i64 a1]])] rfl (by decide) ⟨.wk rfl (.cons (.unk (.refl _)) (.cons (.refl _) .nil)) (pFound _), .wk rfl (.cons (.unk (.refl _)) (.cons (.refl _) .nil)) (pFound _), .pure rfl (pCons (.func pNil pNil) pNil), trivial⟩ (.pure rfl (.ro (pCalcs _)) (.pure rfl (.ro (pCons (.int _ _) pNil)) (.ptr rfl rfl (.ptr rfl rfl (.ptr rfl rfl (.pure rfl (.func pNil (pCons (.ro (pCons (.int _ _) pNil)) (pCons (.ro (pCalcs _)) (pCons (.ro (pCons (.int _ _) pNil)) pNil)))) .nil))))))) ?_
  have hY : YieldOk 4 3 (fun s3 : Found => (hp [.cells (eFound (Found.mk [] 0)), .cells (eFound s3), .cells [.func 106 [] []]]).push (.loop (R78_0 (Env.ofList [(4, .ro (eCalc a0)), (7, .ro [.int .i64 a3]), (8, .ptr 0 0), (9, .ptr 1 0), (10, .ptr 2 0), (18, .func 103 [] [.ro [.int .i64 a2], .ro (eCalc a0), .ro [.int .i64 a1]])])))) (fun s x => (y78_0 N a0 a3 s x).map (fun s => (s, true))) := by
    intro s3 rt s' b H hy0 hH hn
    obtain ⟨hy, hb0⟩ := mapT hy0
    subst hb0
    unfold y78_0 at hy
    have key : ∃ H2, (∀ i, i < 4 → H2.g i = ((fun s3 : Found => (hp [.cells (eFound (Found.mk [] 0)), .cells (eFound s3), .cells [.func 106 [] []]]).push (.loop (R78_0 (Env.ofList [(4, .ro (eCalc a0)), (7, .ro [.int .i64 a3]), (8, .ptr 0 0), (9, .ptr 1 0), (10, .ptr 2 0), (18, .func 103 [] [.ro [.int .i64 a2], .ro (eCalc a0), .ro [.int .i64 a1]])])))) s').g i) ∧ Ev ctx (.app (.yieldf 3) [lst eLeg rt .unk] ((fun s3 : Found => (hp [.cells (eFound (Found.mk [] 0)), .cells (eFound s3), .cells [.func 106 [] []]]).push (.loop (R78_0 (Env.ofList [(4, .ro (eCalc a0)), (7, .ro [.int .i64 a3]), (8, .ptr 0 0), (9, .ptr 1 0), (10, .ptr 2 0), (18, .func 103 [] [.ro [.int .i64 a2], .ro (eCalc a0), .ro [.int .i64 a1]])])))) s3) (.bool true) H2) := by
      refine yield_wp (l := 3) (s0 := (fun s3 : Found => (hp [.cells (eFound (Found.mk [] 0)), .cells (eFound s3), .cells [.func 106 [] []]]).push (.loop (R78_0 (Env.ofList [(4, .ro (eCalc a0)), (7, .ro [.int .i64 a3]), (8, .ptr 0 0), (9, .ptr 1 0), (10, .ptr 2 0), (18, .func 103 [] [.ro [.int .i64 a2], .ro (eCalc a0), .ro [.int .i64 a1]])])))) s3) (s1 := (fun s3 : Found => (hp [.cells (eFound (Found.mk [] 0)), .cells (eFound s3), .cells [.func 106 [] []]]).push (.loop (R78_0 (Env.ofList [(4, .ro (eCalc a0)), (7, .ro [.int .i64 a3]), (8, .ptr 0 0), (9, .ptr 1 0), (10, .ptr 2 0), (18, .func 103 [] [.ro [.int .i64 a2], .ro (eCalc a0), .ro [.int .i64 a1]])])))) s') (x := .normal) (R := (R78_0 (Env.ofList [(4, .ro (eCalc a0)), (7, .ro [.int .i64 a3]), (8, .ptr 0 0), (9, .ptr 1 0), (10, .ptr 2 0), (18, .func 103 [] [.ro [.int .i64 a2], .ro (eCalc a0), .ro [.int .i64 a1]])]))) rfl rfl rfl rfl ?_ rfl
      refine Wp.reg rfl ?_
      refine Wg.li rfl rfl rfl rfl (fun _ => rfl) ?_
      refine Wg.nil ?_
      refine ⟨by decide, rfl, ?_⟩
      refine Sub.use (Sub.canonM 4 [some 0, some 1, some 2, some 3] [.cells (eFound (Found.mk [] 0)), .cells (eFound s3), .cells [.func 106 [] []], .loop ({ (R78_0 (Env.ofList [(4, .ro (eCalc a0)), (7, .ro [.int .i64 a3]), (8, .ptr 0 0), (9, .ptr 1 0), (10, .ptr 2 0), (18, .func 103 [] [.ro [.int .i64 a2], .ro (eCalc a0), .ro [.int .i64 a1]])])) with st := .busy })] [(4, .ro (eCalc a0)), (7, .ro [.int .i64 a3]), (9, .ptr 1 0), (10, .ptr 2 0), (11, lst eLeg rt .unk)] rfl (Nat.le_of_ble_eq_true rfl) (by decide) (fun i hi => match i, hi with | 0, _ => ⟨rfl, rfl, rn_cells rfl (pFound _)⟩ | 1, _ => ⟨rfl, rfl, rn_cells rfl (pFound _)⟩ | 2, _ => ⟨rfl, rfl, rn_cells rfl (pCons (.func pNil pNil) pNil)⟩ | 3, _ => ⟨rfl, rfl, rn_loop rfl rfl (.pure (.ro (pCalcs _)) (.pure (.ro (pCons (.int _ _) pNil)) (.ptr rfl (.ptr rfl (.ptr rfl (.pure (.func pNil (pCons (.ro (pCons (.int _ _) pNil)) (pCons (.ro (pCalcs _)) (pCons (.ro (pCons (.int _ _) pNil)) pNil)))) .nil))))))⟩ | k + 4, hi => absurd hi (by omega)) trivial (.pure rfl (.ro (pCalcs _)) (.pure rfl (.ro (pCons (.int _ _) pNil)) (.ptr rfl rfl (.ptr rfl rfl (.pure rfl (Pure.lst pLeg _ pUnk) .nil)))))) ?_
      refine Wp.block ?_
      refine Wp.seq ?_
      refine Wp.seq ?_
      refine Wp.reg rfl ?_
      iterate 3 refine Wg.li rfl rfl rfl rfl (fun _ => rfl) ?_
      obtain ⟨v4, hv4, hy⟩ := ob hy
      refine Wg.call rfl rfl rfl rfl (s65_ev hv4 _) ?_
      refine Wg.li rfl rfl rfl rfl (fun _ => rfl) ?_
      refine Wg.nil ?_
      refine ⟨fun _ => ?_, fun h => absurd (by decide) h⟩
      refine Wp.cond (!(v4 == 2)) rfl (fun hb5 => ?_) (fun hb5 => ?_)
      · have hy := iT hy hb5
        refine Wp.exit ?_
        refine ⟨fun h => absurd h (by decide), fun _ => ?_⟩
        have hy := Option.some.inj hy
        subst hy
        exact ⟨by decide, rfl, fun i hi hne => match i, hi, hne with | 0, _, _ => rfl | 1, _, _ => rfl | 2, _, _ => rfl | 3, _, hne => absurd rfl hne | k + 4, hi, _ => absurd hi (by show ¬ k + 4 < 4; omega)⟩
      · have hy := iF hy hb5
        refine Wp.skip ?_
        refine ⟨fun _ => ?_, fun h => absurd (by decide) h⟩
        refine Wp.seq ?_
        refine Wp.drw _ [2, 4] rfl (by kernel_rfl) (Nat.le_refl _) ?_
        refine Wg.li rfl rfl rfl rfl (fun _ => rfl) ?_
        obtain ⟨v6, hv6, hy⟩ := ob hy
        refine Wg.call rfl rfl rfl rfl (s101_ev hv6 _) ?_
        iterate 3 refine Wg.li rfl rfl rfl rfl (fun _ => rfl) ?_
        obtain ⟨v7, hv7, hy⟩ := ob hy
        refine Wg.call rfl rfl rfl rfl (s75_ev hv7 _) ?_
        iterate 2 refine Wg.li rfl rfl rfl rfl (fun _ => rfl) ?_
        refine Wg.alloc rfl rfl rfl rfl ?_
        refine Wg.heavy true (Nat.le_of_ble_eq_true rfl) rfl rfl rfl rfl ?_
        refine Wg.nil ?_
        refine ⟨fun _ => ?_, fun h => absurd (by decide) h⟩
        refine Wp.seq ?_
        refine Wp.reg rfl ?_
        refine Wg.li rfl rfl rfl rfl (fun _ => rfl) ?_
        iterate 3 refine Wg.ld rfl rfl rfl rfl rfl rfl ?_
        obtain ⟨v8, hv8, hy⟩ := ob hy
        refine Wg.callv rfl rfl rfl rfl rfl (.func (s106_ev hv8 _)) ?_
        refine Wg.nil ?_
        refine ⟨fun _ => ?_, fun h => absurd (by decide) h⟩
        refine Wp.cond v8 rfl (fun hb9 => ?_) (fun hb9 => ?_)
        · have hy := iT hy hb9
          refine Wp.reg rfl ?_
          refine Wg.ld rfl rfl rfl rfl rfl rfl ?_
          refine Wg.heavy true (Nat.le_of_ble_eq_true rfl) rfl rfl rfl rfl ?_
          refine Wg.nil ?_
          have hy := Option.some.inj hy
          subst hy
          exact ⟨by decide, rfl, fun i hi hne => match i, hi, hne with | 0, _, _ => rfl | 1, _, _ => rfl | 2, _, _ => rfl | 3, _, hne => absurd rfl hne | k + 4, hi, _ => absurd hi (by show ¬ k + 4 < 4; omega)⟩
        · have hy := iF hy hb9
          refine Wp.skip ?_
          have hy := Option.some.inj hy
          subst hy
          exact ⟨by decide, rfl, fun i hi hne => match i, hi, hne with | 0, _, _ => rfl | 1, _, _ => rfl | 2, _, _ => rfl | 3, _, hne => absurd rfl hne | k + 4, hi, _ => absurd hi (by show ¬ k + 4 < 4; omega)⟩
    obtain ⟨H2, h2, hev⟩ := key
    exact yield_frame (l := 3) rfl (by decide) (fun i hi => match i, hi with | 0, _ => ne_cells rfl | 1, _ => ne_cells rfl | 2, _ => ne_cells rfl | 3, _ => ne_loop rfl | k + 4, hi => absurd hi (by omega)) (fun i hi => match i, hi with | 0, _ => rn_cells rfl (pFound _) | 1, _ => rn_cells rfl (pFound _) | 2, _ => rn_cells rfl (pCons (.func pNil pNil) pNil) | 3, _ => rn_loop rfl rfl (.pure (.ro (pCalcs _)) (.pure (.ro (pCons (.int _ _) pNil)) (.ptr rfl (.ptr rfl (.ptr rfl (.pure (.func pNil (pCons (.ro (pCons (.int _ _) pNil)) (pCons (.ro (pCalcs _)) (pCons (.ro (pCons (.int _ _) pNil)) pNil)))) .nil)))))) | k + 4, hi => absurd hi (by omega)) (fun i hi => match i, hi with | 0, _ => rn_cells rfl (pFound _) | 1, _ => rn_cells rfl (pFound _) | 2, _ => rn_cells rfl (pCons (.func pNil pNil) pNil) | 3, _ => rn_loop rfl rfl (.pure (.ro (pCalcs _)) (.pure (.ro (pCons (.int _ _) pNil)) (.ptr rfl (.ptr rfl (.ptr rfl (.pure (.func pNil (pCons (.ro (pCons (.int _ _) pNil)) (pCons (.ro (pCalcs _)) (pCons (.ro (pCons (.int _ _) pNil)) pNil)))) .nil)))))) | k + 4, hi => absurd hi (by omega)) (Pure.lst pLeg _ pUnk) h2 hev hH hn
  obtain ⟨H2, h1, _, hev⟩ := routes_it hY a0 a1 a2 rfl hx11
  refine Wp.rangeN (R := (R78_0 (Env.ofList [(4, .ro (eCalc a0)), (7, .ro [.int .i64 a3]), (8, .ptr 0 0), (9, .ptr 1 0), (10, .ptr 2 0), (18, .func 103 [] [.ro [.int .i64 a2], .ro (eCalc a0), .ro [.int .i64 a1]])]))) rfl rfl hev (range_at (l := 3) (Ls := [.cells (eFound (Found.mk [] 0)), .cells (eFound o10), .cells [.func 106 [] []]]) rfl h1) rfl rfl ?_
  refine ⟨fun _ => ?_, fun h => absurd (by decide) h⟩
  refine Sub.use (Sub.lowTo (l := 3) (L := [(4, .ro (eCalc a0)), (7, .ro [.int .i64 a3]), (8, .ptr 0 0), (9, .ptr 1 0), (10, .ptr 2 0), (18, .func 103 [] [.ro [.int .i64 a2], .ro (eCalc a0), .ro [.int .i64 a1]])]) (Ls := [.cells (eFound (Found.mk [] 0)), .cells (eFound o10), .cells [.func 106 [] []]]) rfl rfl (range_low rfl h1) (fun i hi => match i, hi with | 0, _ => rn_cells rfl (pFound _) | 1, _ => rn_cells rfl (pFound _) | 2, _ => rn_cells rfl (pCons (.func pNil pNil) pNil) | k + 3, hi => absurd hi (by omega)) (fun t v h => ⟨h, (show EnvId (lowE 3) [(4, .ro (eCalc a0)), (7, .ro [.int .i64 a3]), (8, .ptr 0 0), (9, .ptr 1 0), (10, .ptr 2 0), (18, .func 103 [] [.ro [.int .i64 a2], .ro (eCalc a0), .ro [.int .i64 a1]])] from (.pure (.ro (pCalcs _)) (.pure (.ro (pCons (.int _ _) pNil)) (.ptr rfl (.ptr rfl (.ptr rfl (.pure (.func pNil (pCons (.ro (pCons (.int _ _) pNil)) (pCons (.ro (pCalcs _)) (pCons (.ro (pCons (.int _ _) pNil)) pNil)))) .nil))))))) t v h⟩)) ?_
  refine Wp.seq ?_
  refine Wp.reg rfl ?_
  refine Wg.ld rfl rfl rfl rfl rfl rfl ?_
  refine Wg.heavy true (Nat.le_of_ble_eq_true rfl) rfl rfl rfl rfl ?_
  refine Wg.nil ?_
  refine ⟨fun _ => ?_, fun h => absurd (by decide) h⟩
  refine Wp.ret ?_
  have h := Option.some.inj h
  subst h
  exact ⟨.inr (by decide), _, rfl, rfl⟩
def s24 (N : Nat) (a0 : Table) (a1 : Int) (a2 : Int) (a3 : Int) : Option ((List Leg) × Int) :=
  (s77 N a0 a1 a2 a3).bind fun v1 =>
  if (!(v1.2 == 0)) then
    some ([], v1.2)
  else
    (s78 N v1.1 a1 a2 a3).bind fun v3 =>
    if (v3.til == 2880) then
      some ([], 4)
    else
      (sl v3.route 0 (v3.route.length : Int)).bind fun v5 =>
      some (v5, 0)
theorem at24 : ctx.P.funcs[24]? = some Tryd.f24 := by kernel_rfl
theorem s24_ev {N : Nat} {a0 : Table} {a1 : Int} {a2 : Int} {a3 : Int} {r : (List Leg) × Int} (h : s24 N a0 a1 a2 a3 = some r) : ∀ H, Ev ctx (.call 24 [.agg (eTable a0), .int .i64 a1, .int .i64 a2, .int .i64 a3] H (.tuple [lst eLeg r.1 .unk, .int .i64 r.2]) H) := by
  refine Ev.of_pure at24 rfl rfl (Nat.le_of_ble_eq_true rfl) (pCons (pv (pTab _)) (pCons (.int _ _) (pCons (.int _ _) (pCons (.int _ _) pNil)))) (.tuple (pCons (Pure.lst pLeg _ pUnk) (pCons (.int _ _) pNil))) ?_
  unfold s24 at h
  refine Wp.seq ?_
  refine Wp.reg rfl ?_
  refine Wg.box rfl rfl rfl rfl ?_
  iterate 2 refine Wg.li rfl rfl rfl rfl (fun _ => rfl) ?_
  refine Wg.nil ?_
  refine ⟨fun _ => ?_, fun h => absurd (by decide) h⟩
  refine Wp.seq ?_
  refine Wp.reg rfl ?_
  iterate 4 refine Wg.li rfl rfl rfl rfl (fun _ => rfl) ?_
  obtain ⟨v1, hv1, h⟩ := ob h
  refine Wg.call rfl rfl rfl rfl (s77_ev hv1 _) ?_
  iterate 3 refine Wg.li rfl rfl rfl rfl (fun _ => rfl) ?_
  refine Wg.alloc rfl rfl rfl rfl ?_
  refine Wg.heavy true (Nat.le_of_ble_eq_true rfl) rfl rfl rfl rfl ?_
  refine Wg.li rfl rfl rfl rfl (fun _ => rfl) ?_
  refine Wg.nil ?_
  refine ⟨fun _ => ?_, fun h => absurd (by decide) h⟩
  refine Wp.seq ?_
  refine Wp.seq ?_
  refine Wp.reg rfl ?_
  iterate 2 refine Wg.li rfl rfl rfl rfl (fun _ => rfl) ?_
  refine Wg.nil ?_
  refine ⟨fun _ => ?_, fun h => absurd (by decide) h⟩
  refine Wp.cond (!(v1.2 == 0)) rfl (fun hb2 => ?_) (fun hb2 => ?_)
  · have h := iT h hb2
    refine Wp.seq ?_
    refine Wp.reg rfl ?_
    iterate 3 refine Wg.li rfl rfl rfl rfl (fun _ => rfl) ?_
    refine Wg.nil ?_
    refine ⟨fun _ => ?_, fun h => absurd (by decide) h⟩
    refine Sub.use (Sub.canon [] [] [(8, lst eLeg [] .unk), (9, .int .i64 v1.2)] rfl (by decide) trivial (.unk (c := .full) rfl pLeg (.pure rfl (.int _ _) .nil))) ?_
    refine Wp.ret ?_
    refine ⟨fun h => absurd h (by decide), fun _ => ?_⟩
    have h := Option.some.inj h
    subst h
    exact ⟨.inr (by decide), _, rfl, rfl⟩
  · have h := iF h hb2
    refine Wp.skip ?_
    refine ⟨fun _ => ?_, fun h => absurd (by decide) h⟩
    refine Wp.seq ?_
    refine Wp.reg rfl ?_
    refine Wg.ld rfl rfl rfl rfl rfl rfl ?_
    iterate 3 refine Wg.li rfl rfl rfl rfl (fun _ => rfl) ?_
    obtain ⟨v3, hv3, h⟩ := ob h
    refine Wg.call rfl rfl rfl rfl (s78_ev hv3 _) ?_
    refine Wg.alloc rfl rfl rfl rfl ?_
    refine Wg.heavy true (Nat.le_of_ble_eq_true rfl) rfl rfl rfl rfl ?_
    refine Wg.nil ?_
    refine ⟨fun _ => ?_, fun h => absurd (by decide) h⟩
    refine Wp.seq ?_
    refine Wp.seq ?_
    refine Wp.reg rfl ?_
    refine Wg.li rfl rfl rfl rfl (fun _ => rfl) ?_
    refine Wg.ld rfl rfl rfl rfl rfl rfl ?_
    refine Wg.li rfl rfl rfl rfl (fun _ => rfl) ?_
    refine Wg.nil ?_
    refine ⟨fun _ => ?_, fun h => absurd (by decide) h⟩
    refine Wp.cond (v3.til == 2880) rfl (fun hb4 => ?_) (fun hb4 => ?_)
    · have h := iT h hb4
      refine Wp.seq ?_
      refine Wp.reg rfl ?_
      iterate 2 refine Wg.li rfl rfl rfl rfl (fun _ => rfl) ?_
      refine Wg.nil ?_
      refine ⟨fun _ => ?_, fun h => absurd (by decide) h⟩
      refine Sub.use (Sub.canon [] [] [(8, lst eLeg [] .unk), (9, .int .i64 4)] rfl (by decide) trivial (.unk (c := .full) rfl pLeg (.pure rfl (.int _ _) .nil))) ?_
      refine Wp.ret ?_
      refine ⟨fun h => absurd h (by decide), fun _ => ?_⟩
      have h := Option.some.inj h
      subst h
      exact ⟨.inr (by decide), _, rfl, rfl⟩
    · have h := iF h hb4
      refine Wp.skip ?_
      refine ⟨fun _ => ?_, fun h => absurd (by decide) h⟩
      refine Wp.seq ?_
      refine Wp.reg rfl ?_
      refine Wg.li rfl rfl rfl rfl (fun _ => rfl) ?_
      refine Wg.ld rfl rfl rfl rfl rfl rfl ?_
      refine Wg.li rfl rfl rfl rfl (fun _ => rfl) ?_
      refine Wg.ld rfl rfl rfl rfl rfl rfl ?_
      iterate 2 refine Wg.li rfl rfl rfl rfl (fun _ => rfl) ?_
      refine Wg.ld rfl rfl rfl rfl rfl rfl ?_
      refine Wg.li rfl rfl rfl rfl (fun _ => rfl) ?_
      obtain ⟨v5, hv5, h⟩ := ob h
      refine Wg.sl3 (f := eLeg) (xs := v3.route) (c := .unk) (a := 0) (b := (v3.route.length : Int)) rfl rfl rfl rfl rfl rfl none rfl rfl rfl (.inl ⟨rfl, rfl⟩) hv5 lLeg (by decide) ?_
      iterate 2 refine Wg.li rfl rfl rfl rfl (fun _ => rfl) ?_
      refine Wg.nil ?_
      refine ⟨fun _ => ?_, fun h => absurd (by decide) h⟩
      refine Sub.use (Sub.canon [] [] [(8, lst eLeg v5 .unk), (9, .int .i64 0)] rfl (by decide) trivial (.unk (c := .full) rfl pLeg (.pure rfl (.int _ _) .nil))) ?_
      refine Wp.ret ?_
      have h := Option.some.inj h
      subst h
      exact ⟨.inr (by decide), _, rfl, rfl⟩
def s27 (N : Nat) (a0 : Table) (a1 : Int) (a2 : Int) (a3 : Int) : Option (Int × Int) :=
  (s77 N a0 a1 a2 a3).bind fun v1 =>
  if (!(v1.2 == 0)) then
    some (0, v1.2)
  else
    (s78 N v1.1 a1 a2 a3).bind fun v3 =>
    if (decide (v3.til < 2880)) then
      some (v3.til, 0)
    else
      some (0, 4)
theorem at27 : ctx.P.funcs[27]? = some Tryd.f27 := by kernel_rfl
theorem s27_ev {N : Nat} {a0 : Table} {a1 : Int} {a2 : Int} {a3 : Int} {r : Int × Int} (h : s27 N a0 a1 a2 a3 = some r) : ∀ H, Ev ctx (.call 27 [.agg (eTable a0), .int .i64 a1, .int .i64 a2, .int .i64 a3] H (.tuple [.int .i64 r.1, .int .i64 r.2]) H) := by
  refine Ev.of_pure at27 rfl rfl (Nat.le_of_ble_eq_true rfl) (pCons (pv (pTab _)) (pCons (.int _ _) (pCons (.int _ _) (pCons (.int _ _) pNil)))) (.tuple (pCons (.int _ _) (pCons (.int _ _) pNil))) ?_
  unfold s27 at h
  refine Wp.seq ?_
  refine Wp.reg rfl ?_
  refine Wg.box rfl rfl rfl rfl ?_
  iterate 2 refine Wg.li rfl rfl rfl rfl (fun _ => rfl) ?_
  refine Wg.nil ?_
  refine ⟨fun _ => ?_, fun h => absurd (by decide) h⟩
  refine Wp.seq ?_
  refine Wp.reg rfl ?_
  iterate 4 refine Wg.li rfl rfl rfl rfl (fun _ => rfl) ?_
  obtain ⟨v1, hv1, h⟩ := ob h
  refine Wg.call rfl rfl rfl rfl (s77_ev hv1 _) ?_
  iterate 3 refine Wg.li rfl rfl rfl rfl (fun _ => rfl) ?_
  refine Wg.alloc rfl rfl rfl rfl ?_
  refine Wg.heavy true (Nat.le_of_ble_eq_true rfl) rfl rfl rfl rfl ?_
  refine Wg.li rfl rfl rfl rfl (fun _ => rfl) ?_
  refine Wg.nil ?_
  refine ⟨fun _ => ?_, fun h => absurd (by decide) h⟩
  refine Wp.seq ?_
  refine Wp.seq ?_
  refine Wp.reg rfl ?_
  iterate 2 refine Wg.li rfl rfl rfl rfl (fun _ => rfl) ?_
  refine Wg.nil ?_
  refine ⟨fun _ => ?_, fun h => absurd (by decide) h⟩
  refine Wp.cond (!(v1.2 == 0)) rfl (fun hb2 => ?_) (fun hb2 => ?_)
  · have h := iT h hb2
    refine Wp.seq ?_
    refine Wp.reg rfl ?_
    iterate 3 refine Wg.li rfl rfl rfl rfl (fun _ => rfl) ?_
    refine Wg.nil ?_
    refine ⟨fun _ => ?_, fun h => absurd (by decide) h⟩
    refine Wp.ret ?_
    refine ⟨fun h => absurd h (by decide), fun _ => ?_⟩
    have h := Option.some.inj h
    subst h
    exact ⟨.inr (by decide), _, rfl, rfl⟩
  · have h := iF h hb2
    refine Wp.skip ?_
    refine ⟨fun _ => ?_, fun h => absurd (by decide) h⟩
    refine Wp.seq ?_
    refine Wp.seq ?_
    refine Wp.reg rfl ?_
    refine Wg.ld rfl rfl rfl rfl rfl rfl ?_
    iterate 3 refine Wg.li rfl rfl rfl rfl (fun _ => rfl) ?_
    obtain ⟨v3, hv3, h⟩ := ob h
    refine Wg.call rfl rfl rfl rfl (s78_ev hv3 _) ?_
    refine Wg.alloc rfl rfl rfl rfl ?_
    refine Wg.heavy true (Nat.le_of_ble_eq_true rfl) rfl rfl rfl rfl ?_
    refine Wg.nil ?_
    refine ⟨fun _ => ?_, fun h => absurd (by decide) h⟩
    refine Wp.seq ?_
    refine Wp.reg rfl ?_
    refine Wg.li rfl rfl rfl rfl (fun _ => rfl) ?_
    refine Wg.ld rfl rfl rfl rfl rfl rfl ?_
    refine Wg.li rfl rfl rfl rfl (fun _ => rfl) ?_
    refine Wg.nil ?_
    refine ⟨fun _ => ?_, fun h => absurd (by decide) h⟩
    refine Wp.cond (decide (v3.til < 2880)) rfl (fun hb4 => ?_) (fun hb4 => ?_)
    · have h := iT h hb4
      refine Wp.seq ?_
      refine Wp.reg rfl ?_
      refine Wg.li rfl rfl rfl rfl (fun _ => rfl) ?_
      refine Wg.ld rfl rfl rfl rfl rfl rfl ?_
      iterate 2 refine Wg.li rfl rfl rfl rfl (fun _ => rfl) ?_
      refine Wg.nil ?_
      refine ⟨fun _ => ?_, fun h => absurd (by decide) h⟩
      refine Wp.ret ?_
      refine ⟨fun h => absurd h (by decide), fun _ => ?_⟩
      have h := Option.some.inj h
      subst h
      exact ⟨.inr (by decide), _, rfl, rfl⟩
    · have h := iF h hb4
      refine Wp.skip ?_
      refine ⟨fun _ => ?_, fun h => absurd (by decide) h⟩
      refine Wp.seq ?_
      refine Wp.reg rfl ?_
      iterate 2 refine Wg.li rfl rfl rfl rfl (fun _ => rfl) ?_
      refine Wg.nil ?_
      refine ⟨fun _ => ?_, fun h => absurd (by decide) h⟩
      refine Wp.ret ?_
      have h := Option.some.inj h
      subst h
      exact ⟨.inr (by decide), _, rfl, rfl⟩
noncomputable def R29_0 (e : Env) : ALoop := { st := .ready, pend := .normal, N := 49, tmps := e, params := [29], assign := (rfP Tryd.f29.body 0).2.1, body := (rfP Tryd.f29.body 0).2.2 }
def y29_0 (N : Nat) (a3 : Int) (v1 : Calc × Int) (s4 : Int) (rt : (List Leg)) : Option (Int) :=
  (s65 N v1.1 rt a3).bind fun v5 =>
  if (!(v5 == 0)) then
    (ck (0 - s4)).bind fun v7 =>
    (s75 N v1.1 rt a3).bind fun v8 =>
    (ck (0 - v8.low)).bind fun v9 =>
    (s82 N v7 ([v9])).bind fun v10 =>
    (ck (0 - v10)).bind fun v11 =>
    some v11
  else
    some s4
def s29 (N : Nat) (a0 : Table) (a1 : Int) (a2 : Int) (a3 : Int) : Option (Int × Int) :=
  (s77 N a0 a1 a2 a3).bind fun v1 =>
  if (!(v1.2 == 0)) then
    some (0, v1.2)
  else
    (s81 N v1.1 a1 a2).bind fun v3 =>
    (itS N (fun s x => (y29_0 N a3 v1 s x).map (fun s => (s, true))) v1.1 a1 a2 2880).bind fun o12 =>
    if (o12 == 2880) then
      some (0, 4)
    else
      some (o12, 0)
theorem at29 : ctx.P.funcs[29]? = some Tryd.f29 := by kernel_rfl
theorem s29_ev {N : Nat} {a0 : Table} {a1 : Int} {a2 : Int} {a3 : Int} {r : Int × Int} (h : s29 N a0 a1 a2 a3 = some r) : ∀ H, Ev ctx (.call 29 [.agg (eTable a0), .int .i64 a1, .int .i64 a2, .int .i64 a3] H (.tuple [.int .i64 r.1, .int .i64 r.2]) H) := by
  refine Ev.of_pure at29 rfl rfl (Nat.le_of_ble_eq_true rfl) (pCons (pv (pTab _)) (pCons (.int _ _) (pCons (.int _ _) (pCons (.int _ _) pNil)))) (.tuple (pCons (.int _ _) (pCons (.int _ _) pNil))) ?_
  unfold s29 at h
  refine Wp.seq ?_
  refine Wp.reg rfl ?_
  refine Wg.box rfl rfl rfl rfl ?_
  refine Wg.box rfl rfl rfl rfl ?_
  iterate 2 refine Wg.li rfl rfl rfl rfl (fun _ => rfl) ?_
  refine Wg.nil ?_
  refine ⟨fun _ => ?_, fun h => absurd (by decide) h⟩
  refine Wp.seq ?_
  refine Wp.reg rfl ?_
  iterate 4 refine Wg.li rfl rfl rfl rfl (fun _ => rfl) ?_
  obtain ⟨v1, hv1, h⟩ := ob h
  refine Wg.call rfl rfl rfl rfl (s77_ev hv1 _) ?_
  iterate 3 refine Wg.li rfl rfl rfl rfl (fun _ => rfl) ?_
  refine Wg.alloc rfl rfl rfl rfl ?_
  refine Wg.heavy true (Nat.le_of_ble_eq_true rfl) rfl rfl rfl rfl ?_
  refine Wg.li rfl rfl rfl rfl (fun _ => rfl) ?_
  refine Wg.nil ?_
  refine ⟨fun _ => ?_, fun h => absurd (by decide) h⟩
  refine Wp.seq ?_
  refine Wp.seq ?_
  refine Wp.reg rfl ?_
  iterate 2 refine Wg.li rfl rfl rfl rfl (fun _ => rfl) ?_
  refine Wg.nil ?_
  refine ⟨fun _ => ?_, fun h => absurd (by decide) h⟩
  refine Wp.cond (!(v1.2 == 0)) rfl (fun hb2 => ?_) (fun hb2 => ?_)
  · have h := iT h hb2
    refine Wp.seq ?_
    refine Wp.reg rfl ?_
    iterate 3 refine Wg.li rfl rfl rfl rfl (fun _ => rfl) ?_
    refine Wg.nil ?_
    refine ⟨fun _ => ?_, fun h => absurd (by decide) h⟩
    refine Wp.ret ?_
    refine ⟨fun h => absurd h (by decide), fun _ => ?_⟩
    have h := Option.some.inj h
    subst h
    exact ⟨.inr (by decide), _, rfl, rfl⟩
  · have h := iF h hb2
    refine Wp.skip ?_
    refine ⟨fun _ => ?_, fun h => absurd (by decide) h⟩
    refine Wp.seq ?_
    refine Wp.reg rfl ?_
    refine Wg.alloc rfl rfl rfl rfl ?_
    refine Wg.heavy true (Nat.le_of_ble_eq_true rfl) rfl rfl rfl rfl ?_
    refine Wg.nil ?_
    refine ⟨fun _ => ?_, fun h => absurd (by decide) h⟩
    refine Wp.seq ?_
    refine Wp.seq ?_
    refine Wp.reg rfl ?_
    refine Wg.ld rfl rfl rfl rfl rfl rfl ?_
    iterate 2 refine Wg.li rfl rfl rfl rfl (fun _ => rfl) ?_
    obtain ⟨v3, hv3, h⟩ := ob h
    refine Wg.call rfl rfl rfl rfl (s81_ev hv3 _) ?_
    refine Wg.nil ?_
    refine ⟨fun _ => ?_, fun h => absurd (by decide) h⟩
    refine Wp.block ?_
    obtain ⟨o12, hx13, h⟩ := ob h
    refine Sub.use (Sub.canon [some 0, some 1] [.cells (eCalc v1.1), .cells [.int .i64 2880]] [(7, .ro [.int .i64 a3]), (10, .ptr 0 0), (12, .ptr 1 0), (28, .func 103 [] [.ro [.int .i64 a2], .ro (eCalc v1.1), .ro [.int .i64 a1]])] rfl (by decide) ⟨.pure rfl (pCalcs _), .pure rfl (pCons (.int _ _) pNil), trivial⟩ (.pure rfl (.ro (pCons (.int _ _) pNil)) (.ptr rfl rfl (.ptr rfl rfl (.pure rfl (.func pNil (pCons (.ro (pCons (.int _ _) pNil)) (pCons (.ro (pCalcs _)) (pCons (.ro (pCons (.int _ _) pNil)) pNil)))) .nil))))) ?_
    have hY : YieldOk 3 2 (fun s4 : Int => (hp [.cells (eCalc v1.1), .cells [.int .i64 s4]]).push (.loop (R29_0 (Env.ofList [(7, .ro [.int .i64 a3]), (10, .ptr 0 0), (12, .ptr 1 0), (28, .func 103 [] [.ro [.int .i64 a2], .ro (eCalc v1.1), .ro [.int .i64 a1]])])))) (fun s x => (y29_0 N a3 v1 s x).map (fun s => (s, true))) := by
      intro s4 rt s' b H hy0 hH hn
      obtain ⟨hy, hb0⟩ := mapT hy0
      subst hb0
      unfold y29_0 at hy
      have key : ∃ H2, (∀ i, i < 3 → H2.g i = ((fun s4 : Int => (hp [.cells (eCalc v1.1), .cells [.int .i64 s4]]).push (.loop (R29_0 (Env.ofList [(7, .ro [.int .i64 a3]), (10, .ptr 0 0), (12, .ptr 1 0), (28, .func 103 [] [.ro [.int .i64 a2], .ro (eCalc v1.1), .ro [.int .i64 a1]])])))) s').g i) ∧ Ev ctx (.app (.yieldf 2) [lst eLeg rt .unk] ((fun s4 : Int => (hp [.cells (eCalc v1.1), .cells [.int .i64 s4]]).push (.loop (R29_0 (Env.ofList [(7, .ro [.int .i64 a3]), (10, .ptr 0 0), (12, .ptr 1 0), (28, .func 103 [] [.ro [.int .i64 a2], .ro (eCalc v1.1), .ro [.int .i64 a1]])])))) s4) (.bool true) H2) := by
        refine yield_wp (l := 2) (s0 := (fun s4 : Int => (hp [.cells (eCalc v1.1), .cells [.int .i64 s4]]).push (.loop (R29_0 (Env.ofList [(7, .ro [.int .i64 a3]), (10, .ptr 0 0), (12, .ptr 1 0), (28, .func 103 [] [.ro [.int .i64 a2], .ro (eCalc v1.1), .ro [.int .i64 a1]])])))) s4) (s1 := (fun s4 : Int => (hp [.cells (eCalc v1.1), .cells [.int .i64 s4]]).push (.loop (R29_0 (Env.ofList [(7, .ro [.int .i64 a3]), (10, .ptr 0 0), (12, .ptr 1 0), (28, .func 103 [] [.ro [.int .i64 a2], .ro (eCalc v1.1), .ro [.int .i64 a1]])])))) s') (x := .normal) (R := (R29_0 (Env.ofList [(7, .ro [.int .i64 a3]), (10, .ptr 0 0), (12, .ptr 1 0), (28, .func 103 [] [.ro [.int .i64 a2], .ro (eCalc v1.1), .ro [.int .i64 a1]])]))) rfl rfl rfl rfl ?_ rfl
        refine Wp.reg rfl ?_
        refine Wg.li rfl rfl rfl rfl (fun _ => rfl) ?_
        refine Wg.nil ?_
        refine ⟨by decide, rfl, ?_⟩
        refine Sub.use (Sub.canonM 3 [some 0, some 1, some 2] [.cells (eCalc v1.1), .cells [.int .i64 s4], .loop ({ (R29_0 (Env.ofList [(7, .ro [.int .i64 a3]), (10, .ptr 0 0), (12, .ptr 1 0), (28, .func 103 [] [.ro [.int .i64 a2], .ro (eCalc v1.1), .ro [.int .i64 a1]])])) with st := .busy })] [(7, .ro [.int .i64 a3]), (10, .ptr 0 0), (12, .ptr 1 0), (13, lst eLeg rt .unk)] rfl (Nat.le_of_ble_eq_true rfl) (by decide) (fun i hi => match i, hi with | 0, _ => ⟨rfl, rfl, rn_cells rfl (pCalcs _)⟩ | 1, _ => ⟨rfl, rfl, rn_cells rfl (pCons (.int _ _) pNil)⟩ | 2, _ => ⟨rfl, rfl, rn_loop rfl rfl (.pure (.ro (pCons (.int _ _) pNil)) (.ptr rfl (.ptr rfl (.pure (.func pNil (pCons (.ro (pCons (.int _ _) pNil)) (pCons (.ro (pCalcs _)) (pCons (.ro (pCons (.int _ _) pNil)) pNil)))) .nil))))⟩ | k + 3, hi => absurd hi (by omega)) trivial (.pure rfl (.ro (pCons (.int _ _) pNil)) (.ptr rfl rfl (.ptr rfl rfl (.pure rfl (Pure.lst pLeg _ pUnk) .nil))))) ?_
        refine Wp.block ?_
        refine Wp.seq ?_
        refine Wp.reg rfl ?_
        refine Wg.ld rfl rfl rfl rfl rfl rfl ?_
        iterate 2 refine Wg.li rfl rfl rfl rfl (fun _ => rfl) ?_
        obtain ⟨v5, hv5, hy⟩ := ob hy
        refine Wg.call rfl rfl rfl rfl (s65_ev hv5 _) ?_
        refine Wg.li rfl rfl rfl rfl (fun _ => rfl) ?_
        refine Wg.nil ?_
        refine ⟨fun _ => ?_, fun h => absurd (by decide) h⟩
        refine Wp.cond (!(v5 == 0)) rfl (fun hb6 => ?_) (fun hb6 => ?_)
        · have hy := iT hy hb6
          refine Wp.drw _ [4] rfl (by kernel_rfl) (Nat.le_refl _) ?_
          refine Wg.ld rfl rfl rfl rfl rfl rfl ?_
          obtain ⟨v7, hv7, hy⟩ := ob hy
          refine Wg.neg rfl rfl rfl rfl hv7 ?_
          refine Wg.ld rfl rfl rfl rfl rfl rfl ?_
          iterate 2 refine Wg.li rfl rfl rfl rfl (fun _ => rfl) ?_
          obtain ⟨v8, hv8, hy⟩ := ob hy
          refine Wg.call rfl rfl rfl rfl (s75_ev hv8 _) ?_
          refine Wg.li rfl rfl rfl rfl (fun _ => rfl) ?_
          obtain ⟨v9, hv9, hy⟩ := ob hy
          refine Wg.neg rfl rfl rfl rfl hv9 ?_
          refine Wg.li rfl rfl rfl rfl (fun _ => rfl) ?_
          obtain ⟨v10, hv10, hy⟩ := ob hy
          refine Wg.callW rfl rfl rfl rfl (.cons (.refl _) (.cons (.unk (.refl _)) .nil)) (s82_ev hv10 _) ?_
          obtain ⟨v11, hv11, hy⟩ := ob hy
          refine Wg.neg rfl rfl rfl rfl hv11 ?_
          refine Wg.heavy true (Nat.le_of_ble_eq_true rfl) rfl rfl rfl rfl ?_
          refine Wg.nil ?_
          have hy := Option.some.inj hy
          subst hy
          exact ⟨by decide, rfl, fun i hi hne => match i, hi, hne with | 0, _, _ => rfl | 1, _, _ => rfl | 2, _, hne => absurd rfl hne | k + 3, hi, _ => absurd hi (by show ¬ k + 3 < 3; omega)⟩
        · have hy := iF hy hb6
          refine Wp.skip ?_
          have hy := Option.some.inj hy
          subst hy
          exact ⟨by decide, rfl, fun i hi hne => match i, hi, hne with | 0, _, _ => rfl | 1, _, _ => rfl | 2, _, hne => absurd rfl hne | k + 3, hi, _ => absurd hi (by show ¬ k + 3 < 3; omega)⟩
      obtain ⟨H2, h2, hev⟩ := key
      exact yield_frame (l := 2) rfl (by decide) (fun i hi => match i, hi with | 0, _ => ne_cells rfl | 1, _ => ne_cells rfl | 2, _ => ne_loop rfl | k + 3, hi => absurd hi (by omega)) (fun i hi => match i, hi with | 0, _ => rn_cells rfl (pCalcs _) | 1, _ => rn_cells rfl (pCons (.int _ _) pNil) | 2, _ => rn_loop rfl rfl (.pure (.ro (pCons (.int _ _) pNil)) (.ptr rfl (.ptr rfl (.pure (.func pNil (pCons (.ro (pCons (.int _ _) pNil)) (pCons (.ro (pCalcs _)) (pCons (.ro (pCons (.int _ _) pNil)) pNil)))) .nil)))) | k + 3, hi => absurd hi (by omega)) (fun i hi => match i, hi with | 0, _ => rn_cells rfl (pCalcs _) | 1, _ => rn_cells rfl (pCons (.int _ _) pNil) | 2, _ => rn_loop rfl rfl (.pure (.ro (pCons (.int _ _) pNil)) (.ptr rfl (.ptr rfl (.pure (.func pNil (pCons (.ro (pCons (.int _ _) pNil)) (pCons (.ro (pCalcs _)) (pCons (.ro (pCons (.int _ _) pNil)) pNil)))) .nil)))) | k + 3, hi => absurd hi (by omega)) (Pure.lst pLeg _ pUnk) h2 hev hH hn
    obtain ⟨H2, h1, _, hev⟩ := routes_it hY v1.1 a1 a2 rfl hx13
    refine Wp.rangeN (R := (R29_0 (Env.ofList [(7, .ro [.int .i64 a3]), (10, .ptr 0 0), (12, .ptr 1 0), (28, .func 103 [] [.ro [.int .i64 a2], .ro (eCalc v1.1), .ro [.int .i64 a1]])]))) rfl rfl hev (range_at (l := 2) (Ls := [.cells (eCalc v1.1), .cells [.int .i64 o12]]) rfl h1) rfl rfl ?_
    refine ⟨fun _ => ?_, fun h => absurd (by decide) h⟩
    refine Sub.use (Sub.lowTo (l := 2) (L := [(7, .ro [.int .i64 a3]), (10, .ptr 0 0), (12, .ptr 1 0), (28, .func 103 [] [.ro [.int .i64 a2], .ro (eCalc v1.1), .ro [.int .i64 a1]])]) (Ls := [.cells (eCalc v1.1), .cells [.int .i64 o12]]) rfl rfl (range_low rfl h1) (fun i hi => match i, hi with | 0, _ => rn_cells rfl (pCalcs _) | 1, _ => rn_cells rfl (pCons (.int _ _) pNil) | k + 2, hi => absurd hi (by omega)) (fun t v h => ⟨h, (show EnvId (lowE 2) [(7, .ro [.int .i64 a3]), (10, .ptr 0 0), (12, .ptr 1 0), (28, .func 103 [] [.ro [.int .i64 a2], .ro (eCalc v1.1), .ro [.int .i64 a1]])] from (.pure (.ro (pCons (.int _ _) pNil)) (.ptr rfl (.ptr rfl (.pure (.func pNil (pCons (.ro (pCons (.int _ _) pNil)) (pCons (.ro (pCalcs _)) (pCons (.ro (pCons (.int _ _) pNil)) pNil)))) .nil))))) t v h⟩)) ?_
    refine Wp.seq ?_
    refine Wp.seq ?_
    refine Wp.reg rfl ?_
    refine Wg.ld rfl rfl rfl rfl rfl rfl ?_
    refine Wg.li rfl rfl rfl rfl (fun _ => rfl) ?_
    refine Wg.nil ?_
    refine ⟨fun _ => ?_, fun h => absurd (by decide) h⟩
    refine Wp.cond (o12 == 2880) rfl (fun hb14 => ?_) (fun hb14 => ?_)
    · have h := iT h hb14
      refine Wp.seq ?_
      refine Wp.reg rfl ?_
      iterate 2 refine Wg.li rfl rfl rfl rfl (fun _ => rfl) ?_
      refine Wg.nil ?_
      refine ⟨fun _ => ?_, fun h => absurd (by decide) h⟩
      refine Wp.ret ?_
      refine ⟨fun h => absurd h (by decide), fun _ => ?_⟩
      have h := Option.some.inj h
      subst h
      exact ⟨.inr (by decide), _, rfl, rfl⟩
    · have h := iF h hb14
      refine Wp.skip ?_
      refine ⟨fun _ => ?_, fun h => absurd (by decide) h⟩
      refine Wp.seq ?_
      refine Wp.reg rfl ?_
      refine Wg.ld rfl rfl rfl rfl rfl rfl ?_
      iterate 2 refine Wg.li rfl rfl rfl rfl (fun _ => rfl) ?_
      refine Wg.nil ?_
      refine ⟨fun _ => ?_, fun h => absurd (by decide) h⟩
      refine Wp.ret ?_
      have h := Option.some.inj h
      subst h
      exact ⟨.inr (by decide), _, rfl, rfl⟩
noncomputable def R31_0 (e : Env) : ALoop := { st := .ready, pend := .normal, N := 87, tmps := e, params := [30], assign := (rfP Tryd.f31.body 0).2.1, body := (rfP Tryd.f31.body 0).2.2 }
def s31_l20 (N : Nat) (a1 : Int) (v1 : Calc × Int) (s4 : Int) (s11 : Int) : Option ((Int) ⊕ (Int)) :=
  (if (decide (s11 > s4)) then 
    (s69 N v1.1 a1 s11).bind fun v16 =>
    some (!v16)
   else some false).bind fun v17 =>
  if v17 then
    (ck (s11 - 1)).bind fun v19 =>
    some (.inl v19)
  else
    some (.inr s11)
def y31_0 (N : Nat) (a1 : Int) (a3 : Int) (v1 : Calc × Int) (s4 : Int) (rt : (List Leg)) : Option (Int) :=
  (ix rt 0).bind fun v5 =>
  (s83 N v1.1 v5).bind fun v6 =>
  (ix rt 0).bind fun v7 =>
  (s127 N v1.1 v7.train).bind fun v8 =>
  (ck (v6.leave + v8)).bind fun v9 =>
  (ck (v9 - v1.1.t.load)).bind fun v10 =>
  (iter (s31_l20 N a1 v1 s4) N (mn a3 v10)).bind fun o12 =>
  (if (decide (o12 > s4)) then 
    (s65 N v1.1 rt o12).bind fun v23 =>
    some (v23 == 2)
   else some false).bind fun v24 =>
  (if v24 then 
    (s75 N v1.1 rt o12).bind fun v27 =>
    some (decide (v27.high ≤ a3))
   else some false).bind fun v28 =>
  if v28 then
    some o12
  else
    some s4
def s31 (N : Nat) (a0 : Table) (a1 : Int) (a2 : Int) (a3 : Int) : Option (Int × Int) :=
  (s77 N a0 a1 a2 a3).bind fun v1 =>
  if (!(v1.2 == 0)) then
    some (0, v1.2)
  else
    (s81 N v1.1 a1 a2).bind fun v3 =>
    (itS N (fun s x => (y31_0 N a1 a3 v1 s x).map (fun s => (s, true))) v1.1 a1 a2 (-1)).bind fun o30 =>
    if (decide (o30 < 0)) then
      some (0, 4)
    else
      some (o30, 0)
abbrev F31r (m : Nat) : Fr := { r := true, N := 87, m := m }
theorem at31 : ctx.P.funcs[31]? = some Tryd.f31 := by kernel_rfl
theorem s31_ev {N : Nat} {a0 : Table} {a1 : Int} {a2 : Int} {a3 : Int} {r : Int × Int} (h : s31 N a0 a1 a2 a3 = some r) : ∀ H, Ev ctx (.call 31 [.agg (eTable a0), .int .i64 a1, .int .i64 a2, .int .i64 a3] H (.tuple [.int .i64 r.1, .int .i64 r.2]) H) := by
  refine Ev.of_pure at31 rfl rfl (Nat.le_of_ble_eq_true rfl) (pCons (pv (pTab _)) (pCons (.int _ _) (pCons (.int _ _) (pCons (.int _ _) pNil)))) (.tuple (pCons (.int _ _) (pCons (.int _ _) pNil))) ?_
  unfold s31 at h
  refine Wp.seq ?_
  refine Wp.reg rfl ?_
  refine Wg.box rfl rfl rfl rfl ?_
  refine Wg.box rfl rfl rfl rfl ?_
  refine Wg.box rfl rfl rfl rfl ?_
  iterate 2 refine Wg.li rfl rfl rfl rfl (fun _ => rfl) ?_
  refine Wg.nil ?_
  refine ⟨fun _ => ?_, fun h => absurd (by decide) h⟩
  refine Wp.seq ?_
  refine Wp.reg rfl ?_
  iterate 4 refine Wg.li rfl rfl rfl rfl (fun _ => rfl) ?_
  obtain ⟨v1, hv1, h⟩ := ob h
  refine Wg.call rfl rfl rfl rfl (s77_ev hv1 _) ?_
  iterate 3 refine Wg.li rfl rfl rfl rfl (fun _ => rfl) ?_
  refine Wg.alloc rfl rfl rfl rfl ?_
  refine Wg.heavy true (Nat.le_of_ble_eq_true rfl) rfl rfl rfl rfl ?_
  refine Wg.li rfl rfl rfl rfl (fun _ => rfl) ?_
  refine Wg.nil ?_
  refine ⟨fun _ => ?_, fun h => absurd (by decide) h⟩
  refine Wp.seq ?_
  refine Wp.seq ?_
  refine Wp.reg rfl ?_
  iterate 2 refine Wg.li rfl rfl rfl rfl (fun _ => rfl) ?_
  refine Wg.nil ?_
  refine ⟨fun _ => ?_, fun h => absurd (by decide) h⟩
  refine Wp.cond (!(v1.2 == 0)) rfl (fun hb2 => ?_) (fun hb2 => ?_)
  · have h := iT h hb2
    refine Wp.seq ?_
    refine Wp.reg rfl ?_
    iterate 3 refine Wg.li rfl rfl rfl rfl (fun _ => rfl) ?_
    refine Wg.nil ?_
    refine ⟨fun _ => ?_, fun h => absurd (by decide) h⟩
    refine Wp.ret ?_
    refine ⟨fun h => absurd h (by decide), fun _ => ?_⟩
    have h := Option.some.inj h
    subst h
    exact ⟨.inr (by decide), _, rfl, rfl⟩
  · have h := iF h hb2
    refine Wp.skip ?_
    refine ⟨fun _ => ?_, fun h => absurd (by decide) h⟩
    refine Wp.seq ?_
    refine Wp.reg rfl ?_
    refine Wg.alloc rfl rfl rfl rfl ?_
    refine Wg.heavy true (Nat.le_of_ble_eq_true rfl) rfl rfl rfl rfl ?_
    refine Wg.nil ?_
    refine ⟨fun _ => ?_, fun h => absurd (by decide) h⟩
    refine Wp.seq ?_
    refine Wp.seq ?_
    refine Wp.reg rfl ?_
    refine Wg.ld rfl rfl rfl rfl rfl rfl ?_
    iterate 2 refine Wg.li rfl rfl rfl rfl (fun _ => rfl) ?_
    obtain ⟨v3, hv3, h⟩ := ob h
    refine Wg.call rfl rfl rfl rfl (s81_ev hv3 _) ?_
    refine Wg.nil ?_
    refine ⟨fun _ => ?_, fun h => absurd (by decide) h⟩
    refine Wp.block ?_
    obtain ⟨o30, hx31, h⟩ := ob h
    refine Sub.use (Sub.canon [some 0, some 1] [.cells (eCalc v1.1), .cells [.int .i64 (-1)]] [(5, .ro [.int .i64 a1]), (7, .ro [.int .i64 a3]), (10, .ptr 0 0), (12, .ptr 1 0), (29, .func 103 [] [.ro [.int .i64 a2], .ro (eCalc v1.1), .ro [.int .i64 a1]])] rfl (by decide) ⟨.pure rfl (pCalcs _), .pure rfl (pCons (.int _ _) pNil), trivial⟩ (.pure rfl (.ro (pCons (.int _ _) pNil)) (.pure rfl (.ro (pCons (.int _ _) pNil)) (.ptr rfl rfl (.ptr rfl rfl (.pure rfl (.func pNil (pCons (.ro (pCons (.int _ _) pNil)) (pCons (.ro (pCalcs _)) (pCons (.ro (pCons (.int _ _) pNil)) pNil)))) .nil)))))) ?_
    have hY : YieldOk 3 2 (fun s4 : Int => (hp [.cells (eCalc v1.1), .cells [.int .i64 s4]]).push (.loop (R31_0 (Env.ofList [(5, .ro [.int .i64 a1]), (7, .ro [.int .i64 a3]), (10, .ptr 0 0), (12, .ptr 1 0), (29, .func 103 [] [.ro [.int .i64 a2], .ro (eCalc v1.1), .ro [.int .i64 a1]])])))) (fun s x => (y31_0 N a1 a3 v1 s x).map (fun s => (s, true))) := by
      intro s4 rt s' b H hy0 hH hn
      obtain ⟨hy, hb0⟩ := mapT hy0
      subst hb0
      unfold y31_0 at hy
      have key : ∃ H2, (∀ i, i < 3 → H2.g i = ((fun s4 : Int => (hp [.cells (eCalc v1.1), .cells [.int .i64 s4]]).push (.loop (R31_0 (Env.ofList [(5, .ro [.int .i64 a1]), (7, .ro [.int .i64 a3]), (10, .ptr 0 0), (12, .ptr 1 0), (29, .func 103 [] [.ro [.int .i64 a2], .ro (eCalc v1.1), .ro [.int .i64 a1]])])))) s').g i) ∧ Ev ctx (.app (.yieldf 2) [lst eLeg rt .unk] ((fun s4 : Int => (hp [.cells (eCalc v1.1), .cells [.int .i64 s4]]).push (.loop (R31_0 (Env.ofList [(5, .ro [.int .i64 a1]), (7, .ro [.int .i64 a3]), (10, .ptr 0 0), (12, .ptr 1 0), (29, .func 103 [] [.ro [.int .i64 a2], .ro (eCalc v1.1), .ro [.int .i64 a1]])])))) s4) (.bool true) H2) := by
        refine yield_wp (l := 2) (s0 := (fun s4 : Int => (hp [.cells (eCalc v1.1), .cells [.int .i64 s4]]).push (.loop (R31_0 (Env.ofList [(5, .ro [.int .i64 a1]), (7, .ro [.int .i64 a3]), (10, .ptr 0 0), (12, .ptr 1 0), (29, .func 103 [] [.ro [.int .i64 a2], .ro (eCalc v1.1), .ro [.int .i64 a1]])])))) s4) (s1 := (fun s4 : Int => (hp [.cells (eCalc v1.1), .cells [.int .i64 s4]]).push (.loop (R31_0 (Env.ofList [(5, .ro [.int .i64 a1]), (7, .ro [.int .i64 a3]), (10, .ptr 0 0), (12, .ptr 1 0), (29, .func 103 [] [.ro [.int .i64 a2], .ro (eCalc v1.1), .ro [.int .i64 a1]])])))) s') (x := .normal) (R := (R31_0 (Env.ofList [(5, .ro [.int .i64 a1]), (7, .ro [.int .i64 a3]), (10, .ptr 0 0), (12, .ptr 1 0), (29, .func 103 [] [.ro [.int .i64 a2], .ro (eCalc v1.1), .ro [.int .i64 a1]])]))) rfl rfl rfl rfl ?_ rfl
        refine Wp.reg rfl ?_
        refine Wg.li rfl rfl rfl rfl (fun _ => rfl) ?_
        refine Wg.nil ?_
        refine ⟨by decide, rfl, ?_⟩
        refine Sub.use (Sub.canonM 3 [some 0, some 1, some 2] [.cells (eCalc v1.1), .cells [.int .i64 s4], .loop ({ (R31_0 (Env.ofList [(5, .ro [.int .i64 a1]), (7, .ro [.int .i64 a3]), (10, .ptr 0 0), (12, .ptr 1 0), (29, .func 103 [] [.ro [.int .i64 a2], .ro (eCalc v1.1), .ro [.int .i64 a1]])])) with st := .busy })] [(5, .ro [.int .i64 a1]), (7, .ro [.int .i64 a3]), (10, .ptr 0 0), (12, .ptr 1 0), (13, lst eLeg rt .unk)] rfl (Nat.le_of_ble_eq_true rfl) (by decide) (fun i hi => match i, hi with | 0, _ => ⟨rfl, rfl, rn_cells rfl (pCalcs _)⟩ | 1, _ => ⟨rfl, rfl, rn_cells rfl (pCons (.int _ _) pNil)⟩ | 2, _ => ⟨rfl, rfl, rn_loop rfl rfl (.pure (.ro (pCons (.int _ _) pNil)) (.pure (.ro (pCons (.int _ _) pNil)) (.ptr rfl (.ptr rfl (.pure (.func pNil (pCons (.ro (pCons (.int _ _) pNil)) (pCons (.ro (pCalcs _)) (pCons (.ro (pCons (.int _ _) pNil)) pNil)))) .nil)))))⟩ | k + 3, hi => absurd hi (by omega)) trivial (.pure rfl (.ro (pCons (.int _ _) pNil)) (.pure rfl (.ro (pCons (.int _ _) pNil)) (.ptr rfl rfl (.ptr rfl rfl (.pure rfl (Pure.lst pLeg _ pUnk) .nil)))))) ?_
        refine Wp.block ?_
        refine Wp.seq ?_
        refine Wp.drw _ [0, 4, 8, 13] rfl (by kernel_rfl) (Nat.le_refl _) ?_
        refine Wg.li rfl rfl rfl rfl (fun _ => rfl) ?_
        refine Wg.ld rfl rfl rfl rfl rfl rfl ?_
        refine Wg.li rfl rfl rfl rfl (fun _ => rfl) ?_
        obtain ⟨v5, hv5, hy⟩ := ob hy
        refine Wg.idx (f := eLeg) (xs := rt) (c := .unk) rfl rfl rfl rfl rfl rfl rfl lLeg (by decide) hv5 ?_
        refine Wg.li rfl rfl rfl rfl (fun _ => rfl) ?_
        obtain ⟨v6, hv6, hy⟩ := ob hy
        refine Wg.call rfl rfl rfl rfl (s83_ev hv6 _) ?_
        iterate 3 refine Wg.li rfl rfl rfl rfl (fun _ => rfl) ?_
        refine Wg.ld rfl rfl rfl rfl rfl rfl ?_
        refine Wg.li rfl rfl rfl rfl (fun _ => rfl) ?_
        obtain ⟨v7, hv7, hy⟩ := ob hy
        refine Wg.idx (f := eLeg) (xs := rt) (c := .unk) rfl rfl rfl rfl rfl rfl rfl lLeg (by decide) hv7 ?_
        iterate 2 refine Wg.li rfl rfl rfl rfl (fun _ => rfl) ?_
        obtain ⟨v8, hv8, hy⟩ := ob hy
        refine Wg.callv rfl rfl rfl rfl rfl (.func (s127_ev hv8 _)) ?_
        obtain ⟨v9, hv9, hy⟩ := ob hy
        refine Wg.bin (k := .i64) (k2 := .i64) (a := v6.leave) (b := v8) rfl rfl rfl rfl rfl (bAdd hv9) ?_
        iterate 2 refine Wg.li rfl rfl rfl rfl (fun _ => rfl) ?_
        refine Wg.ld rfl rfl rfl rfl rfl rfl ?_
        obtain ⟨v10, hv10, hy⟩ := ob hy
        refine Wg.bin (k := .i64) (k2 := .i64) (a := v9) (b := v1.1.t.load) rfl rfl rfl rfl rfl (bSub hv10) ?_
        iterate 2 refine Wg.li rfl rfl rfl rfl (fun _ => rfl) ?_
        refine Wg.nil ?_
        refine ⟨fun _ => ?_, fun h => absurd (by decide) h⟩
        refine Wp.seq ?_
        refine Wp.block ?_
        obtain ⟨o12, hx13, hy⟩ := ob hy
        refine Sub.use (Sub.canonM 3 [some 0, some 1, some 2] [.cells (eCalc v1.1), .cells [.int .i64 s4], .loop ({ (R31_0 (Env.ofList [(5, .ro [.int .i64 a1]), (7, .ro [.int .i64 a3]), (10, .ptr 0 0), (12, .ptr 1 0), (29, .func 103 [] [.ro [.int .i64 a2], .ro (eCalc v1.1), .ro [.int .i64 a1]])])) with st := .busy })] [(5, .ro [.int .i64 a1]), (7, .ro [.int .i64 a3]), (10, .ptr 0 0), (12, .ptr 1 0), (13, lst eLeg rt .unk), (14, .int .i64 (mn a3 v10))] rfl (Nat.le_of_ble_eq_true rfl) (by decide) (fun i hi => match i, hi with | 0, _ => ⟨rfl, rfl, rn_cells rfl (pCalcs _)⟩ | 1, _ => ⟨rfl, rfl, rn_cells rfl (pCons (.int _ _) pNil)⟩ | 2, _ => ⟨rfl, rfl, rn_loop rfl rfl (.pure (.ro (pCons (.int _ _) pNil)) (.pure (.ro (pCons (.int _ _) pNil)) (.ptr rfl (.ptr rfl (.pure (.func pNil (pCons (.ro (pCons (.int _ _) pNil)) (pCons (.ro (pCalcs _)) (pCons (.ro (pCons (.int _ _) pNil)) pNil)))) .nil)))))⟩ | k + 3, hi => absurd hi (by omega)) trivial (.pure rfl (.ro (pCons (.int _ _) pNil)) (.pure rfl (.ro (pCons (.int _ _) pNil)) (.ptr rfl rfl (.ptr rfl rfl (.pure rfl (Pure.lst pLeg _ pUnk) (.pure rfl (.int _ _) .nil))))))) ?_
        refine Wp.after (Wp.iterS (s31_l20 N a1 v1 s4) (fun s11 => Env.ofList [(5, .ro [.int .i64 a1]), (7, .ro [.int .i64 a3]), (10, .ptr 0 0), (12, .ptr 1 0), (13, lst eLeg rt .unk), (14, .int .i64 s11)]) (fun s11 => hp [.cells (eCalc v1.1), .cells [.int .i64 s4], .loop ({ (R31_0 (Env.ofList [(5, .ro [.int .i64 a1]), (7, .ro [.int .i64 a3]), (10, .ptr 0 0), (12, .ptr 1 0), (29, .func 103 [] [.ro [.int .i64 a2], .ro (eCalc v1.1), .ro [.int .i64 a1]])])) with st := .busy })]) (fun o12 x e' H' => x = .exit 2 ∧ Sub ctx (F31r 3) (Env.ofList [(7, .ro [.int .i64 a3]), (10, .ptr 0 0), (12, .ptr 1 0), (13, lst eLeg rt .unk), (14, .int .i64 o12)]) (hp [.cells (eCalc v1.1), .cells [.int .i64 s4], .loop ({ (R31_0 (Env.ofList [(5, .ro [.int .i64 a1]), (7, .ro [.int .i64 a3]), (10, .ptr 0 0), (12, .ptr 1 0), (29, .func 103 [] [.ro [.int .i64 a2], .ro (eCalc v1.1), .ro [.int .i64 a1]])])) with st := .busy })]) e' H') ?_ N (mn a3 v10) _ hx13) ?_
        · intro s11 o ho
          unfold s31_l20 at ho
          refine Wp.seq ?_
          refine Wp.seq ?_
          refine Wp.reg rfl ?_
          refine Wg.li rfl rfl rfl rfl (fun _ => rfl) ?_
          refine Wg.ld rfl rfl rfl rfl rfl rfl ?_
          iterate 2 refine Wg.li rfl rfl rfl rfl (fun _ => rfl) ?_
          obtain ⟨v17, hv14, ho⟩ := ob ho
          refine Wg.grp 6 61 55 v17 (decide (s11 > s4)) rfl rfl (Nat.le_of_ble_eq_true rfl) (fun hb15 => ?_) (fun hb15 => ?_) ?_
          · have hv14 := iT hv14 hb15
            refine Wg.ld rfl rfl rfl rfl rfl rfl ?_
            iterate 2 refine Wg.li rfl rfl rfl rfl (fun _ => rfl) ?_
            obtain ⟨v16, hv16, hv14⟩ := ob hv14
            refine Wg.call rfl rfl rfl rfl (s69_ev hv16 _) ?_
            iterate 2 refine Wg.li rfl rfl rfl rfl (fun _ => rfl) ?_
            refine Wg.nil ⟨some_b hv14, ?_, rfl⟩
            repeat (first | exact Env.le_refl _ | refine Env.le_put rfl ?_)
          · have hv14 := iF hv14 hb15
            iterate 5 refine Wg.skip rfl rfl ?_
            refine Wg.li rfl rfl rfl rfl (fun _ => rfl) ?_
            refine Wg.nil ⟨some_b hv14, ?_, rfl⟩
            repeat (first | exact Env.le_refl _ | refine Env.le_put rfl ?_)
          refine Wg.nil ?_
          refine ⟨fun _ => ?_, fun h => absurd (by decide) h⟩
          refine Wp.cond v17 rfl (fun hb18 => ?_) (fun hb18 => ?_)
          · have ho := iT ho hb18
            refine Wp.skip ?_
            refine ⟨fun _ => ?_, fun h => absurd (by decide) h⟩
            refine Wp.block ?_
            refine Wp.reg rfl ?_
            refine Wg.li rfl rfl rfl rfl (fun _ => rfl) ?_
            obtain ⟨v19, hv19, ho⟩ := ob ho
            refine Wg.bin (k := .i64) (k2 := .i64) (a := s11) (b := 1) rfl rfl rfl rfl rfl (bSub hv19) ?_
            refine Wg.li rfl rfl rfl rfl (fun _ => rfl) ?_
            refine Wg.nil ?_
            have ho := Option.some.inj ho
            subst ho
            exact ⟨by decide, (Sub.canonM 3 [some 0, some 1, some 2] [.cells (eCalc v1.1), .cells [.int .i64 s4], .loop ({ (R31_0 (Env.ofList [(5, .ro [.int .i64 a1]), (7, .ro [.int .i64 a3]), (10, .ptr 0 0), (12, .ptr 1 0), (29, .func 103 [] [.ro [.int .i64 a2], .ro (eCalc v1.1), .ro [.int .i64 a1]])])) with st := .busy })] [(5, .ro [.int .i64 a1]), (7, .ro [.int .i64 a3]), (10, .ptr 0 0), (12, .ptr 1 0), (13, lst eLeg rt .unk), (14, .int .i64 v19)] rfl (Nat.le_of_ble_eq_true rfl) (by decide) (fun i hi => match i, hi with | 0, _ => ⟨rfl, rfl, rn_cells rfl (pCalcs _)⟩ | 1, _ => ⟨rfl, rfl, rn_cells rfl (pCons (.int _ _) pNil)⟩ | 2, _ => ⟨rfl, rfl, rn_loop rfl rfl (.pure (.ro (pCons (.int _ _) pNil)) (.pure (.ro (pCons (.int _ _) pNil)) (.ptr rfl (.ptr rfl (.pure (.func pNil (pCons (.ro (pCons (.int _ _) pNil)) (pCons (.ro (pCalcs _)) (pCons (.ro (pCons (.int _ _) pNil)) pNil)))) .nil)))))⟩ | k + 3, hi => absurd hi (by omega)) trivial (.pure rfl (.ro (pCons (.int _ _) pNil)) (.pure rfl (.ro (pCons (.int _ _) pNil)) (.ptr rfl rfl (.ptr rfl rfl (.pure rfl (Pure.lst pLeg _ pUnk) (.pure rfl (.int _ _) .nil)))))))⟩
          · have ho := iF ho hb18
            refine Wp.exit ?_
            refine ⟨fun h => absurd h (by decide), fun _ => ?_⟩
            have ho := Option.some.inj ho
            subst ho
            exact ⟨by decide, by decide, (Sub.canonM 3 [some 0, some 1, some 2] [.cells (eCalc v1.1), .cells [.int .i64 s4], .loop ({ (R31_0 (Env.ofList [(5, .ro [.int .i64 a1]), (7, .ro [.int .i64 a3]), (10, .ptr 0 0), (12, .ptr 1 0), (29, .func 103 [] [.ro [.int .i64 a2], .ro (eCalc v1.1), .ro [.int .i64 a1]])])) with st := .busy })] [(7, .ro [.int .i64 a3]), (10, .ptr 0 0), (12, .ptr 1 0), (13, lst eLeg rt .unk), (14, .int .i64 s11)] rfl (Nat.le_of_ble_eq_true rfl) (by decide) (fun i hi => match i, hi with | 0, _ => ⟨rfl, rfl, rn_cells rfl (pCalcs _)⟩ | 1, _ => ⟨rfl, rfl, rn_cells rfl (pCons (.int _ _) pNil)⟩ | 2, _ => ⟨rfl, rfl, rn_loop rfl rfl (.pure (.ro (pCons (.int _ _) pNil)) (.pure (.ro (pCons (.int _ _) pNil)) (.ptr rfl (.ptr rfl (.pure (.func pNil (pCons (.ro (pCons (.int _ _) pNil)) (pCons (.ro (pCalcs _)) (pCons (.ro (pCons (.int _ _) pNil)) pNil)))) .nil)))))⟩ | k + 3, hi => absurd hi (by omega)) trivial (.pure rfl (.ro (pCons (.int _ _) pNil)) (.ptr rfl rfl (.ptr rfl rfl (.pure rfl (Pure.lst pLeg _ pUnk) (.pure rfl (.int _ _) .nil))))))⟩
        · intro x e' H' hP
          obtain ⟨hPx, hP2⟩ := hP
          subst hPx
          have hP := And.intro (True.intro) hP2
          refine ⟨fun _ => ?_, fun h => absurd (by decide) h⟩
          refine Sub.use hP.2 ?_
          refine Wp.seq ?_
          refine Wp.drw _ [16] rfl (by kernel_rfl) (Nat.le_refl _) ?_
          refine Wg.li rfl rfl rfl rfl (fun _ => rfl) ?_
          refine Wg.ld rfl rfl rfl rfl rfl rfl ?_
          iterate 2 refine Wg.li rfl rfl rfl rfl (fun _ => rfl) ?_
          obtain ⟨v24, hv21, hy⟩ := ob hy
          refine Wg.grp 6 73 67 v24 (decide (o12 > s4)) rfl rfl (Nat.le_of_ble_eq_true rfl) (fun hb22 => ?_) (fun hb22 => ?_) ?_
          · have hv21 := iT hv21 hb22
            refine Wg.ld rfl rfl rfl rfl rfl rfl ?_
            iterate 2 refine Wg.li rfl rfl rfl rfl (fun _ => rfl) ?_
            obtain ⟨v23, hv23, hv21⟩ := ob hv21
            refine Wg.call rfl rfl rfl rfl (s65_ev hv23 _) ?_
            iterate 2 refine Wg.li rfl rfl rfl rfl (fun _ => rfl) ?_
            refine Wg.nil ⟨some_b hv21, ?_, rfl⟩
            repeat (first | exact Env.le_refl _ | refine Env.le_put rfl ?_)
          · have hv21 := iF hv21 hb22
            iterate 5 refine Wg.skip rfl rfl ?_
            refine Wg.li rfl rfl rfl rfl (fun _ => rfl) ?_
            refine Wg.nil ⟨some_b hv21, ?_, rfl⟩
            repeat (first | exact Env.le_refl _ | refine Env.le_put rfl ?_)
          refine Wg.li rfl rfl rfl rfl (fun _ => rfl) ?_
          obtain ⟨v28, hv25, hy⟩ := ob hy
          refine Wg.grp 8 82 74 v28 v24 rfl rfl (Nat.le_of_ble_eq_true rfl) (fun hb26 => ?_) (fun hb26 => ?_) ?_
          · have hv25 := iT hv25 hb26
            refine Wg.ld rfl rfl rfl rfl rfl rfl ?_
            iterate 2 refine Wg.li rfl rfl rfl rfl (fun _ => rfl) ?_
            obtain ⟨v27, hv27, hv25⟩ := ob hv25
            refine Wg.call rfl rfl rfl rfl (s75_ev hv27 _) ?_
            iterate 4 refine Wg.li rfl rfl rfl rfl (fun _ => rfl) ?_
            refine Wg.nil ⟨some_b hv25, ?_, rfl⟩
            repeat (first | exact Env.le_refl _ | refine Env.le_put rfl ?_)
          · have hv25 := iF hv25 hb26
            iterate 7 refine Wg.skip rfl rfl ?_
            refine Wg.li rfl rfl rfl rfl (fun _ => rfl) ?_
            refine Wg.nil ⟨some_b hv25, ?_, rfl⟩
            repeat (first | exact Env.le_refl _ | refine Env.le_put rfl ?_)
          refine Wg.nil ?_
          refine ⟨fun _ => ?_, fun h => absurd (by decide) h⟩
          refine Wp.cond v28 rfl (fun hb29 => ?_) (fun hb29 => ?_)
          · have hy := iT hy hb29
            refine Wp.reg rfl ?_
            refine Wg.li rfl rfl rfl rfl (fun _ => rfl) ?_
            refine Wg.heavy true (Nat.le_of_ble_eq_true rfl) rfl rfl rfl rfl ?_
            refine Wg.nil ?_
            have hy := Option.some.inj hy
            subst hy
            exact ⟨by decide, rfl, fun i hi hne => match i, hi, hne with | 0, _, _ => rfl | 1, _, _ => rfl | 2, _, hne => absurd rfl hne | k + 3, hi, _ => absurd hi (by show ¬ k + 3 < 3; omega)⟩
          · have hy := iF hy hb29
            refine Wp.skip ?_
            have hy := Option.some.inj hy
            subst hy
            exact ⟨by decide, rfl, fun i hi hne => match i, hi, hne with | 0, _, _ => rfl | 1, _, _ => rfl | 2, _, hne => absurd rfl hne | k + 3, hi, _ => absurd hi (by show ¬ k + 3 < 3; omega)⟩
      obtain ⟨H2, h2, hev⟩ := key
      exact yield_frame (l := 2) rfl (by decide) (fun i hi => match i, hi with | 0, _ => ne_cells rfl | 1, _ => ne_cells rfl | 2, _ => ne_loop rfl | k + 3, hi => absurd hi (by omega)) (fun i hi => match i, hi with | 0, _ => rn_cells rfl (pCalcs _) | 1, _ => rn_cells rfl (pCons (.int _ _) pNil) | 2, _ => rn_loop rfl rfl (.pure (.ro (pCons (.int _ _) pNil)) (.pure (.ro (pCons (.int _ _) pNil)) (.ptr rfl (.ptr rfl (.pure (.func pNil (pCons (.ro (pCons (.int _ _) pNil)) (pCons (.ro (pCalcs _)) (pCons (.ro (pCons (.int _ _) pNil)) pNil)))) .nil))))) | k + 3, hi => absurd hi (by omega)) (fun i hi => match i, hi with | 0, _ => rn_cells rfl (pCalcs _) | 1, _ => rn_cells rfl (pCons (.int _ _) pNil) | 2, _ => rn_loop rfl rfl (.pure (.ro (pCons (.int _ _) pNil)) (.pure (.ro (pCons (.int _ _) pNil)) (.ptr rfl (.ptr rfl (.pure (.func pNil (pCons (.ro (pCons (.int _ _) pNil)) (pCons (.ro (pCalcs _)) (pCons (.ro (pCons (.int _ _) pNil)) pNil)))) .nil))))) | k + 3, hi => absurd hi (by omega)) (Pure.lst pLeg _ pUnk) h2 hev hH hn
    obtain ⟨H2, h1, _, hev⟩ := routes_it hY v1.1 a1 a2 rfl hx31
    refine Wp.rangeN (R := (R31_0 (Env.ofList [(5, .ro [.int .i64 a1]), (7, .ro [.int .i64 a3]), (10, .ptr 0 0), (12, .ptr 1 0), (29, .func 103 [] [.ro [.int .i64 a2], .ro (eCalc v1.1), .ro [.int .i64 a1]])]))) rfl rfl hev (range_at (l := 2) (Ls := [.cells (eCalc v1.1), .cells [.int .i64 o30]]) rfl h1) rfl rfl ?_
    refine ⟨fun _ => ?_, fun h => absurd (by decide) h⟩
    refine Sub.use (Sub.lowTo (l := 2) (L := [(5, .ro [.int .i64 a1]), (7, .ro [.int .i64 a3]), (10, .ptr 0 0), (12, .ptr 1 0), (29, .func 103 [] [.ro [.int .i64 a2], .ro (eCalc v1.1), .ro [.int .i64 a1]])]) (Ls := [.cells (eCalc v1.1), .cells [.int .i64 o30]]) rfl rfl (range_low rfl h1) (fun i hi => match i, hi with | 0, _ => rn_cells rfl (pCalcs _) | 1, _ => rn_cells rfl (pCons (.int _ _) pNil) | k + 2, hi => absurd hi (by omega)) (fun t v h => ⟨h, (show EnvId (lowE 2) [(5, .ro [.int .i64 a1]), (7, .ro [.int .i64 a3]), (10, .ptr 0 0), (12, .ptr 1 0), (29, .func 103 [] [.ro [.int .i64 a2], .ro (eCalc v1.1), .ro [.int .i64 a1]])] from (.pure (.ro (pCons (.int _ _) pNil)) (.pure (.ro (pCons (.int _ _) pNil)) (.ptr rfl (.ptr rfl (.pure (.func pNil (pCons (.ro (pCons (.int _ _) pNil)) (pCons (.ro (pCalcs _)) (pCons (.ro (pCons (.int _ _) pNil)) pNil)))) .nil)))))) t v h⟩)) ?_
    refine Wp.seq ?_
    refine Wp.seq ?_
    refine Wp.reg rfl ?_
    refine Wg.ld rfl rfl rfl rfl rfl rfl ?_
    refine Wg.li rfl rfl rfl rfl (fun _ => rfl) ?_
    refine Wg.nil ?_
    refine ⟨fun _ => ?_, fun h => absurd (by decide) h⟩
    refine Wp.cond (decide (o30 < 0)) rfl (fun hb32 => ?_) (fun hb32 => ?_)
    · have h := iT h hb32
      refine Wp.seq ?_
      refine Wp.reg rfl ?_
      iterate 2 refine Wg.li rfl rfl rfl rfl (fun _ => rfl) ?_
      refine Wg.nil ?_
      refine ⟨fun _ => ?_, fun h => absurd (by decide) h⟩
      refine Wp.ret ?_
      refine ⟨fun h => absurd h (by decide), fun _ => ?_⟩
      have h := Option.some.inj h
      subst h
      exact ⟨.inr (by decide), _, rfl, rfl⟩
    · have h := iF h hb32
      refine Wp.skip ?_
      refine ⟨fun _ => ?_, fun h => absurd (by decide) h⟩
      refine Wp.seq ?_
      refine Wp.reg rfl ?_
      refine Wg.ld rfl rfl rfl rfl rfl rfl ?_
      iterate 2 refine Wg.li rfl rfl rfl rfl (fun _ => rfl) ?_
      refine Wg.nil ?_
      refine ⟨fun _ => ?_, fun h => absurd (by decide) h⟩
      refine Wp.ret ?_
      have h := Option.some.inj h
      subst h
      exact ⟨.inr (by decide), _, rfl, rfl⟩
def s33_l20 (N : Nat) (a1 : Int) (a2 : Int) (v1 : Calc × Int) (s4 : Int × Calc × (List Int)) : Option ((Int × Calc × (List Int)) ⊕ ((List Int))) :=
  if (decide (s4.1 < (((v1.1.t.offices.length : Int).toNat : Nat) : Int))) then
    (inA ((v1.1.t.offices.length : Int).toNat) s4.1).bind fun v8 =>
    (setA s4.2.2 s4.1 (-1)).bind fun v9 =>
    (if (s4.1 == a1) then
      (inA ((v1.1.t.offices.length : Int).toNat) s4.1).bind fun v13 =>
      (setA v9 s4.1 a2).bind fun v14 =>
      some (s4.2.1, v14)
    else
      (s78 N s4.2.1 a1 s4.1 a2).bind fun v15 =>
      if (decide (v15.til < 2880)) then
        (inA ((v1.1.t.offices.length : Int).toNat) s4.1).bind fun v17 =>
        (setA v9 s4.1 v15.til).bind fun v18 =>
        some (s4.2.1, v18)
      else
        some (s4.2.1, v9)).bind fun o10 =>
    (ck (s4.1 + 1)).bind fun v19 =>
    some (.inl (v19, o10.1, o10.2))
  else
    some (.inr s4.2.2)
def s33 (N : Nat) (a0 : Table) (a1 : Int) (a2 : Int) : Option ((List Int) × Int) :=
  (s51 N a0 (fun x0 => s84 N x0 a1 a2)).bind fun v1 =>
  if (!(v1.2 == 0)) then
    some ([], v1.2)
  else
    (mkC 8 (v1.1.t.offices.length : Int)).bind fun v3 =>
    (iter (s33_l20 N a1 a2 v1) N (0, v1.1, (List.replicate (v1.1.t.offices.length : Int).toNat 0))).bind fun o5 =>
    (posC ((v1.1.t.offices.length : Int).toNat)).bind fun v21 =>
    (lenC ((v1.1.t.offices.length : Int).toNat) o5).bind fun v22 =>
    some (o5, 0)
abbrev F33 : Fr := { r := false, N := 62, m := 0 }
theorem at33 : ctx.P.funcs[33]? = some Tryd.f33 := by kernel_rfl
theorem s33_ev {N : Nat} {a0 : Table} {a1 : Int} {a2 : Int} {r : (List Int) × Int} (h : s33 N a0 a1 a2 = some r) : ∀ H, Ev ctx (.call 33 [.agg (eTable a0), .int .i64 a1, .int .i64 a2] H (.tuple [lst eInt r.1 .unk, .int .i64 r.2]) H) := by
  refine Ev.of_pure at33 rfl rfl (Nat.le_of_ble_eq_true rfl) (pCons (pv (pTab _)) (pCons (.int _ _) (pCons (.int _ _) pNil))) (.tuple (pCons (Pure.lst pInt _ pUnk) (pCons (.int _ _) pNil))) ?_
  unfold s33 at h
  refine Wp.seq ?_
  refine Wp.reg rfl ?_
  refine Wg.box rfl rfl rfl rfl ?_
  refine Wg.box rfl rfl rfl rfl ?_
  refine Wg.box rfl rfl rfl rfl ?_
  iterate 2 refine Wg.li rfl rfl rfl rfl (fun _ => rfl) ?_
  refine Wg.nil ?_
  refine ⟨fun _ => ?_, fun h => absurd (by decide) h⟩
  refine Wp.seq ?_
  refine Wp.reg rfl ?_
  iterate 2 refine Wg.li rfl rfl rfl rfl (fun _ => rfl) ?_
  obtain ⟨v1, hv1, h⟩ := ob h
  refine Wg.call rfl rfl rfl rfl (s51_ev (.func pNil (pCons (.ro (pCons (.int _ _) pNil)) (pCons (.ro (pCons (.int _ _) pNil)) pNil))) (fun x0 r h H => .func (s84_ev h H)) hv1 _) ?_
  iterate 3 refine Wg.li rfl rfl rfl rfl (fun _ => rfl) ?_
  refine Wg.alloc rfl rfl rfl rfl ?_
  refine Wg.heavy true (Nat.le_of_ble_eq_true rfl) rfl rfl rfl rfl ?_
  refine Wg.li rfl rfl rfl rfl (fun _ => rfl) ?_
  refine Wg.nil ?_
  refine ⟨fun _ => ?_, fun h => absurd (by decide) h⟩
  refine Wp.seq ?_
  refine Wp.seq ?_
  refine Wp.reg rfl ?_
  iterate 2 refine Wg.li rfl rfl rfl rfl (fun _ => rfl) ?_
  refine Wg.nil ?_
  refine ⟨fun _ => ?_, fun h => absurd (by decide) h⟩
  refine Wp.cond (!(v1.2 == 0)) rfl (fun hb2 => ?_) (fun hb2 => ?_)
  · have h := iT h hb2
    refine Wp.seq ?_
    refine Wp.reg rfl ?_
    iterate 3 refine Wg.li rfl rfl rfl rfl (fun _ => rfl) ?_
    refine Wg.nil ?_
    refine ⟨fun _ => ?_, fun h => absurd (by decide) h⟩
    refine Sub.use (Sub.canon [] [] [(6, lst eInt [] .unk), (7, .int .i64 v1.2)] rfl (by decide) trivial (.unk (c := .full) rfl pInt (.pure rfl (.int _ _) .nil))) ?_
    refine Wp.ret ?_
    refine ⟨fun h => absurd h (by decide), fun _ => ?_⟩
    have h := Option.some.inj h
    subst h
    exact ⟨.inr (by decide), _, rfl, rfl⟩
  · have h := iF h hb2
    refine Wp.skip ?_
    refine ⟨fun _ => ?_, fun h => absurd (by decide) h⟩
    refine Wp.seq ?_
    refine Wp.reg rfl ?_
    iterate 2 refine Wg.li rfl rfl rfl rfl (fun _ => rfl) ?_
    refine Wg.ld rfl rfl rfl rfl rfl rfl ?_
    refine Wg.li rfl rfl rfl rfl (fun _ => rfl) ?_
    obtain ⟨v3, hv3, h⟩ := ob h
    refine Wg.mk (f := eInt) (z := 0) (n := (v1.1.t.offices.length : Int)) (Nat.le_of_ble_eq_true rfl) rfl rfl rfl rfl rfl rfl rfl (by decide) rfl hv3 ?_
    refine Wg.li rfl rfl rfl rfl (fun _ => rfl) ?_
    refine Wg.nil ?_
    refine ⟨fun _ => ?_, fun h => absurd (by decide) h⟩
    refine Wp.seq ?_
    refine Wp.seq ?_
    refine Wp.reg rfl ?_
    iterate 3 refine Wg.li rfl rfl rfl rfl (fun _ => rfl) ?_
    refine Wg.nil ?_
    refine ⟨fun _ => ?_, fun h => absurd (by decide) h⟩
    refine Wp.block ?_
    obtain ⟨o5, hx6, h⟩ := ob h
    refine Sub.use (Sub.canon [some 0, some 1] [.cells (eCalc v1.1), .cells (eAr eInt (List.replicate (v1.1.t.offices.length : Int).toNat 0))] [(4, .ro [.int .i64 a1]), (5, .ro [.int .i64 a2]), (8, .ptr 0 0), (10, .ms 1 0 (v1.1.t.offices.length : Int).toNat (some (v1.1.t.offices.length : Int).toNat)), (28, .int .i64 (((v1.1.t.offices.length : Int).toNat : Nat) : Int)), (29, .int .i64 0)] rfl (by decide) ⟨.pure rfl (pCalcs _), .pure rfl (pAr pInt _), trivial⟩ (.pure rfl (.ro (pCons (.int _ _) pNil)) (.pure rfl (.ro (pCons (.int _ _) pNil)) (.ptr rfl rfl (.ms rfl rfl (.pure rfl (.int _ _) (.pure rfl (.int _ _) .nil))))))) ?_
    refine Wp.after (Wp.iterS (s33_l20 N a1 a2 v1) (fun s4 => Env.ofList [(4, .ro [.int .i64 a1]), (5, .ro [.int .i64 a2]), (8, .ptr 0 0), (10, .ms 1 0 (v1.1.t.offices.length : Int).toNat (some (v1.1.t.offices.length : Int).toNat)), (28, .int .i64 (((v1.1.t.offices.length : Int).toNat : Nat) : Int)), (29, .int .i64 s4.1)]) (fun s4 => hp [.cells (eCalc s4.2.1), .cells (eAr eInt s4.2.2)]) (fun o5 x e' H' => x = .exit 0 ∧ Sub ctx F33 (Env.ofList [(10, .ms 0 0 (v1.1.t.offices.length : Int).toNat (some (v1.1.t.offices.length : Int).toNat))]) (hp [.cells (eAr eInt o5)]) e' H') ?_ N (0, v1.1, (List.replicate (v1.1.t.offices.length : Int).toNat 0)) _ hx6) ?_
    · intro s4 o ho
      unfold s33_l20 at ho
      refine Wp.seq ?_
      refine Wp.reg rfl ?_
      refine Wg.li rfl rfl rfl rfl (fun _ => rfl) ?_
      refine Wg.nil ?_
      refine ⟨fun _ => ?_, fun h => absurd (by decide) h⟩
      refine Wp.seq ?_
      refine Wp.cond (decide (s4.1 < (((v1.1.t.offices.length : Int).toNat : Nat) : Int))) rfl (fun hb7 => ?_) (fun hb7 => ?_)
      · have ho := iT ho hb7
        refine Wp.skip ?_
        refine ⟨fun _ => ?_, fun h => absurd (by decide) h⟩
        refine Wp.seq ?_
        refine Wp.block ?_
        refine Wp.seq ?_
        refine Wp.reg rfl ?_
        iterate 2 refine Wg.li rfl rfl rfl rfl (fun _ => rfl) ?_
        refine Wg.nil ?_
        refine ⟨fun _ => ?_, fun h => absurd (by decide) h⟩
        refine Wp.seq ?_
        refine Wp.reg rfl ?_
        iterate 2 refine Wg.li rfl rfl rfl rfl (fun _ => rfl) ?_
        obtain ⟨v8, hv8, ho⟩ := ob ho
        refine Wg.idxM rfl rfl rfl rfl rfl rfl rfl hv8 ?_
        obtain ⟨v9, hv9, ho⟩ := ob ho
        refine Wg.stP (f := eInt) (xs := s4.2.2) (a := (-1)) (Nat.le_of_ble_eq_true rfl) rfl rfl rfl rfl rfl rfl rfl rfl rfl (by simp) rfl lInt hv9 ?_
        refine Wg.nil ?_
        refine ⟨fun _ => ?_, fun h => absurd (by decide) h⟩
        refine Wp.seq ?_
        refine Wp.reg rfl ?_
        iterate 3 refine Wg.li rfl rfl rfl rfl (fun _ => rfl) ?_
        refine Wg.nil ?_
        refine ⟨fun _ => ?_, fun h => absurd (by decide) h⟩
        obtain ⟨o10, hx11, ho⟩ := ob ho
        refine Wp.after (Q' := fun x e' H' => x = .normal ∧ Sub ctx F33 (Env.ofList [(4, .ro [.int .i64 a1]), (5, .ro [.int .i64 a2]), (8, .ptr 0 0), (10, .ms 1 0 (v1.1.t.offices.length : Int).toNat (some (v1.1.t.offices.length : Int).toNat)), (28, .int .i64 (((v1.1.t.offices.length : Int).toNat : Nat) : Int)), (29, .int .i64 s4.1)]) (hp [.cells (eCalc o10.1), .cells (eAr eInt o10.2)]) e' H') ?_ ?_
        · refine Wp.cond (s4.1 == a1) rfl (fun hb12 => ?_) (fun hb12 => ?_)
          · have hx11 := iT hx11 hb12
            refine Wp.reg rfl ?_
            iterate 3 refine Wg.li rfl rfl rfl rfl (fun _ => rfl) ?_
            obtain ⟨v13, hv13, hx11⟩ := ob hx11
            refine Wg.idxM rfl rfl rfl rfl rfl rfl rfl hv13 ?_
            obtain ⟨v14, hv14, hx11⟩ := ob hx11
            refine Wg.stP (f := eInt) (xs := v9) (a := a2) (Nat.le_of_ble_eq_true rfl) rfl rfl rfl rfl rfl rfl rfl rfl rfl (by simp) rfl lInt hv14 ?_
            refine Wg.nil ?_
            have hx11 := Option.some.inj hx11
            subst hx11
            exact ⟨by decide, (Sub.canon [some 0, some 1] [.cells (eCalc s4.2.1), .cells (eAr eInt v14)] [(4, .ro [.int .i64 a1]), (5, .ro [.int .i64 a2]), (8, .ptr 0 0), (10, .ms 1 0 (v1.1.t.offices.length : Int).toNat (some (v1.1.t.offices.length : Int).toNat)), (28, .int .i64 (((v1.1.t.offices.length : Int).toNat : Nat) : Int)), (29, .int .i64 s4.1)] rfl (by decide) ⟨.pure rfl (pCalcs _), .pure rfl (pAr pInt _), trivial⟩ (.pure rfl (.ro (pCons (.int _ _) pNil)) (.pure rfl (.ro (pCons (.int _ _) pNil)) (.ptr rfl rfl (.ms rfl rfl (.pure rfl (.int _ _) (.pure rfl (.int _ _) .nil)))))))⟩
          · have hx11 := iF hx11 hb12
            refine Wp.seq ?_
            refine Wp.reg rfl ?_
            refine Wg.ld rfl rfl rfl rfl rfl rfl ?_
            iterate 3 refine Wg.li rfl rfl rfl rfl (fun _ => rfl) ?_
            obtain ⟨v15, hv15, hx11⟩ := ob hx11
            refine Wg.call rfl rfl rfl rfl (s78_ev hv15 _) ?_
            refine Wg.alloc rfl rfl rfl rfl ?_
            refine Wg.heavy true (Nat.le_of_ble_eq_true rfl) rfl rfl rfl rfl ?_
            refine Wg.nil ?_
            refine ⟨fun _ => ?_, fun h => absurd (by decide) h⟩
            refine Wp.seq ?_
            refine Wp.reg rfl ?_
            refine Wg.li rfl rfl rfl rfl (fun _ => rfl) ?_
            refine Wg.ld rfl rfl rfl rfl rfl rfl ?_
            refine Wg.li rfl rfl rfl rfl (fun _ => rfl) ?_
            refine Wg.nil ?_
            refine ⟨fun _ => ?_, fun h => absurd (by decide) h⟩
            refine Wp.cond (decide (v15.til < 2880)) rfl (fun hb16 => ?_) (fun hb16 => ?_)
            · have hx11 := iT hx11 hb16
              refine Wp.reg rfl ?_
              iterate 3 refine Wg.li rfl rfl rfl rfl (fun _ => rfl) ?_
              refine Wg.ld rfl rfl rfl rfl rfl rfl ?_
              obtain ⟨v17, hv17, hx11⟩ := ob hx11
              refine Wg.idxM rfl rfl rfl rfl rfl rfl rfl hv17 ?_
              obtain ⟨v18, hv18, hx11⟩ := ob hx11
              refine Wg.stP (f := eInt) (xs := v9) (a := v15.til) (Nat.le_of_ble_eq_true rfl) rfl rfl rfl rfl rfl rfl rfl rfl rfl (by simp) rfl lInt hv18 ?_
              refine Wg.nil ?_
              have hx11 := Option.some.inj hx11
              subst hx11
              exact ⟨by decide, (Sub.canon [some 0, some 1] [.cells (eCalc s4.2.1), .cells (eAr eInt v18)] [(4, .ro [.int .i64 a1]), (5, .ro [.int .i64 a2]), (8, .ptr 0 0), (10, .ms 1 0 (v1.1.t.offices.length : Int).toNat (some (v1.1.t.offices.length : Int).toNat)), (28, .int .i64 (((v1.1.t.offices.length : Int).toNat : Nat) : Int)), (29, .int .i64 s4.1)] rfl (by decide) ⟨.pure rfl (pCalcs _), .pure rfl (pAr pInt _), trivial⟩ (.pure rfl (.ro (pCons (.int _ _) pNil)) (.pure rfl (.ro (pCons (.int _ _) pNil)) (.ptr rfl rfl (.ms rfl rfl (.pure rfl (.int _ _) (.pure rfl (.int _ _) .nil)))))))⟩
            · have hx11 := iF hx11 hb16
              refine Wp.skip ?_
              have hx11 := Option.some.inj hx11
              subst hx11
              exact ⟨by decide, (Sub.canon [some 0, some 1] [.cells (eCalc s4.2.1), .cells (eAr eInt v9)] [(4, .ro [.int .i64 a1]), (5, .ro [.int .i64 a2]), (8, .ptr 0 0), (10, .ms 1 0 (v1.1.t.offices.length : Int).toNat (some (v1.1.t.offices.length : Int).toNat)), (28, .int .i64 (((v1.1.t.offices.length : Int).toNat : Nat) : Int)), (29, .int .i64 s4.1)] rfl (by decide) ⟨.pure rfl (pCalcs _), .pure rfl (pAr pInt _), trivial⟩ (.pure rfl (.ro (pCons (.int _ _) pNil)) (.pure rfl (.ro (pCons (.int _ _) pNil)) (.ptr rfl rfl (.ms rfl rfl (.pure rfl (.int _ _) (.pure rfl (.int _ _) .nil)))))))⟩
        · intro x e' H' hP
          obtain ⟨hPx, hP2⟩ := hP
          subst hPx
          have hP := And.intro (True.intro) hP2
          refine ⟨fun _ => ?_, fun h => absurd (by decide) h⟩
          refine Sub.use hP.2 ?_
          refine Wp.reg rfl ?_
          obtain ⟨v19, hv19, ho⟩ := ob ho
          refine Wg.bin (k := .i64) (k2 := .i64) (a := s4.1) (b := 1) rfl rfl rfl rfl rfl (bAdd hv19) ?_
          refine Wg.li rfl rfl rfl rfl (fun _ => rfl) ?_
          refine Wg.nil ?_
          have ho := Option.some.inj ho
          subst ho
          exact ⟨by decide, (Sub.canon [some 0, some 1] [.cells (eCalc o10.1), .cells (eAr eInt o10.2)] [(4, .ro [.int .i64 a1]), (5, .ro [.int .i64 a2]), (8, .ptr 0 0), (10, .ms 1 0 (v1.1.t.offices.length : Int).toNat (some (v1.1.t.offices.length : Int).toNat)), (28, .int .i64 (((v1.1.t.offices.length : Int).toNat : Nat) : Int)), (29, .int .i64 v19)] rfl (by decide) ⟨.pure rfl (pCalcs _), .pure rfl (pAr pInt _), trivial⟩ (.pure rfl (.ro (pCons (.int _ _) pNil)) (.pure rfl (.ro (pCons (.int _ _) pNil)) (.ptr rfl rfl (.ms rfl rfl (.pure rfl (.int _ _) (.pure rfl (.int _ _) .nil)))))))⟩
      · have ho := iF ho hb7
        refine Wp.exit ?_
        refine ⟨fun h => absurd h (by decide), fun _ => ?_⟩
        have ho := Option.some.inj ho
        subst ho
        exact ⟨by decide, by decide, (Sub.canon [some 1] [.cells (eAr eInt s4.2.2)] [(10, .ms 0 0 (v1.1.t.offices.length : Int).toNat (some (v1.1.t.offices.length : Int).toNat))] rfl (by decide) ⟨.pure rfl (pAr pInt _), trivial⟩ (.ms rfl rfl .nil))⟩
    · intro x e' H' hP
      obtain ⟨hPx, hP2⟩ := hP
      subst hPx
      have hP := And.intro (True.intro) hP2
      refine ⟨fun _ => ?_, fun h => absurd (by decide) h⟩
      refine Sub.use hP.2 ?_
      refine Wp.seq ?_
      refine Wp.reg rfl ?_
      iterate 5 refine Wg.li rfl rfl rfl rfl (fun _ => rfl) ?_
      obtain ⟨v21, hv21, h⟩ := ob h
      refine Wg.slM rfl rfl rfl rfl rfl rfl rfl rfl hv21 ?_
      iterate 2 refine Wg.li rfl rfl rfl rfl (fun _ => rfl) ?_
      refine Wg.nil ?_
      refine ⟨fun _ => ?_, fun h => absurd (by decide) h⟩
      obtain ⟨v22, hv22, h⟩ := ob h
      refine Sub.use (Sub.retMs (t := 6) (id := 0) (n := (v1.1.t.offices.length : Int).toNat) (f := eInt) (xs := o5) (L := [(7, .int .i64 0)]) rfl rfl rfl (lenC_some hv22) lInt pInt (show EnvPu _ _ from (.add rfl (.int _ _) .nil))) ?_
      refine Wp.ret ?_
      have h := Option.some.inj h
      subst h
      exact ⟨.inr (by decide), _, rfl, rfl⟩
end Go.Abs.Tr
