/- Steps of the machine, and how the frames, the rounds and the results of the abstract relation stand to them. Conditions: none beyond the table of types. -/
import Derived.Test.YtdlofkamkiojlaaDoorXHv
set_option linter.unusedVariables false
set_option linter.unusedSimpArgs false
namespace Go.Abs
open Go Go.RowKit

section steps
variable {P : Program} {b : Frame} {a : Act} {k : List Item} {cs : List Frame} {w w' : World} {ops : Array Oper}

theorem stepR_value {i : Nat} {rest : List Nat} {o : Oper} (ho : ops[i]? = some o) (hw : Region.wanted o (yielded ops a.tmps) = true) (hd : ∀ c, o.op ≠ .defer c) {v : Value} (hr : (execOp a.eval o).run P w = .ok (.value v) w') :
    step P (lone (b.atR a (.inRegion ops (i :: rest) :: k)) cs w) = .next (lone (b.atR (a.put o.dst v) (.inRegion ops rest :: k)) cs w') := by
  have hf := Frame.finish_atR b a ops i rest k v
  rw [ho] at hf
  refine step_lone_go ?_
  rw [stepGR_op ho hw, Oper.semAt_eq _ _ _ hd]
  simp only [stepG.apply, Sem.runT_eq, hr]
  simp [GStep.bare_after, hf]
theorem stepR_opskip {i : Nat} {rest : List Nat} {o : Oper} (ho : ops[i]? = some o) (hw : Region.wanted o (yielded ops a.tmps) = true) (hd : ∀ c, o.op ≠ .defer c) (hr : (execOp a.eval o).run P w = .ok .skip w') :
    step P (lone (b.atR a (.inRegion ops (i :: rest) :: k)) cs w) = .next (lone (b.atR (a.put o.dst undef) (.inRegion ops rest :: k)) cs w') := by
  have hf := Frame.finish_atR b a ops i rest k undef
  rw [ho] at hf
  refine step_lone_go ?_
  rw [stepGR_op ho hw, Oper.semAt_eq _ _ _ hd]
  simp only [stepG.apply, Sem.runT_eq, hr]
  simp [GStep.bare_after, hf]
theorem stepR_enter {i : Nat} {rest : List Nat} {o : Oper} (ho : ops[i]? = some o) (hw : Region.wanted o (yielded ops a.tmps) = true) (hd : ∀ c, o.op ≠ .defer c) {f : FuncId} {args : Array Value} (hr : (execOp a.eval o).run P w = .ok (.enter f args) w') :
    step P (lone (b.atR a (.inRegion ops (i :: rest) :: k)) cs w) = .next (lone (Frame.enter P f args .normal) (b.atR a (.inRegion ops (i :: rest) :: k) :: cs) w') := by
  refine step_lone_go ?_
  rw [stepGR_op ho hw, Oper.semAt_eq _ _ _ hd]
  simp only [stepG.apply, Sem.runT_eq, hr]
  simp [GStep.bare_after, Frame.atR]
theorem stepR_round {i : Nat} {rest : List Nat} {o : Oper} (ho : ops[i]? = some o) (hw : Region.wanted o (yielded ops a.tmps) = true) (hd : ∀ c, o.op ≠ .defer c) {l : Nat} {f : FuncId} {tmps : Array Value} {assign body : Code}
    (hr : (execOp a.eval o).run P w = .ok (.round l f tmps assign body) w') :
    step P (lone (b.atR a (.inRegion ops (i :: rest) :: k)) cs w) = .next (lone (Frame.round l f tmps assign body .normal) (b.atR a (.inRegion ops (i :: rest) :: k) :: cs) w') := by
  refine step_lone_go ?_
  rw [stepGR_op ho hw, Oper.semAt_eq _ _ _ hd]
  simp only [stepG.apply, Sem.runT_eq, hr]
  simp [GStep.bare_after]
theorem stepR_scope {c : Code} : step P (lone (b.atR a (.code (.scope c) :: k)) cs w) = .next (lone (b.atR a (.code c :: .inScope c :: k)) cs w) :=
  step_lone_go (by simp [stepG, stepG.exec, Frame.atR])
theorem stepR_inScope {c : Code} : step P (lone (b.atR a (.inScope c :: k)) cs w) = .next (lone (b.atR a k) cs w) :=
  step_lone_go (by simp [stepG, stepG.exec, Frame.atR])

abbrev yieldCall (g : Operand) (l : Nat) : Call := { callee := .value g, args := #[.const (.func (.yield l) #[] #[])], argTypes := #[] }
theorem finish_inRangeFunc (l : Nat) (v : Value) : (b.atR a (.inRangeFunc l :: k)).finish v = b.atR a (.endRangeFunc l :: k) := by
  simp [Frame.finish, Frame.atR]
theorem stepR_endLoop {l : Nat} {jump : Option Code} (h : (Instr.endLoop l).run P w = .ok jump w') :
    step P (lone (b.atR a (.endRangeFunc l :: k)) cs w) = .next (lone (b.atR a ((jump.map Item.code).toList ++ k)) cs w') :=
  step_lone_go (by simp [stepG, stepG.exec, Frame.atR, Sem.runT_eq, h, GStep.bare_after])
theorem stepR_loopEnter {g : Operand} {ps : Array Tmp} {assign body : Code} {l : Nat} {mark : List Deferred} {w₁ : World} {d : Deferred} {f : FuncId} {args : Array Value}
    (he : (Instr.enterLoop b.fn a.tmps ps assign body b.roundOf).run P w = .ok (l, mark) w₁)
    (hres : (resolve a.eval (yieldCall g l) 0).run P w₁ = .ok d w₁) (hinv : (invoke d.target d.args).run P w₁ = .ok (.enter f args) w') :
    step P (lone (b.atR a (.code (.rangeFunc g ps assign body) :: k)) cs w) =
      .next (lone (Frame.enter P f args .normal) (b.atR { a with defers := mark ++ a.defers } (.inRangeFunc l :: k) :: cs) w') := by
  have hev : ∀ x : Frame, x.tmps = a.tmps → x.eval = a.eval := fun x hx => funext fun y => by cases y <;> simp [Frame.eval, Act.eval, hx]
  refine step_lone_go ?_
  simp only [stepG, stepG.exec, Frame.atR, Sem.runT_eq, he]
  simp only [GStep.bare_after, stepG.apply, Sem.runT_eq]
  have h1 : ∀ x : Frame, x.tmps = a.tmps → (do let d ← resolve x.eval (yieldCall g l) 0; invoke d.target d.args : Sem Next).run P w₁ = .ok (.enter f args) w' := by
    intro x hx
    rw [hev x hx, Sem.run_bind, hres]
    exact hinv
  rw [h1 _ rfl]
  simp [GStep.bare_after]
theorem stepR_loopRound {g : Operand} {ps : Array Tmp} {assign body : Code} {l : Nat} {mark : List Deferred} {w₁ : World} {d : Deferred} {l' : Nat} {f : FuncId} {tmps : Array Value} {as bd : Code}
    (he : (Instr.enterLoop b.fn a.tmps ps assign body b.roundOf).run P w = .ok (l, mark) w₁)
    (hres : (resolve a.eval (yieldCall g l) 0).run P w₁ = .ok d w₁) (hinv : (invoke d.target d.args).run P w₁ = .ok (.round l' f tmps as bd) w') :
    step P (lone (b.atR a (.code (.rangeFunc g ps assign body) :: k)) cs w) =
      .next (lone (Frame.round l' f tmps as bd .normal) (b.atR { a with defers := mark ++ a.defers } (.inRangeFunc l :: k) :: cs) w') := by
  have hev : ∀ x : Frame, x.tmps = a.tmps → x.eval = a.eval := fun x hx => funext fun y => by cases y <;> simp [Frame.eval, Act.eval, hx]
  refine step_lone_go ?_
  simp only [stepG, stepG.exec, Frame.atR, Sem.runT_eq, he]
  simp only [GStep.bare_after, stepG.apply, Sem.runT_eq]
  have h1 : ∀ x : Frame, x.tmps = a.tmps → (do let d ← resolve x.eval (yieldCall g l) 0; invoke d.target d.args : Sem Next).run P w₁ = .ok (.round l' f tmps as bd) w' := by
    intro x hx
    rw [hev x hx, Sem.run_bind, hres]
    exact hinv
  rw [h1 _ rfl]
  simp [GStep.bare_after]

/-- The mark of a loop among a frame's deferred calls. -/
def mk (r : Nat) : Deferred := { target := .collected r, args := #[] }
theorem step_take {fr : Frame} {r : Nat} {ds : List Deferred} (hm : fr.mode = .returning) (hd : fr.defers = mk r :: ds) (hr : (Instr.takeDeferred r).run P w = .ok [] w') :
    step P (lone fr cs w) = .next (lone { fr with defers := ds } cs w') := by
  refine step_lone_go ?_
  obtain ⟨fn, tmps, todo, defers, mode, kind, ro⟩ := fr
  simp only at hm hd
  subst hm; subst hd
  simp [stepG, unwind, mk, Sem.runT_eq, hr, GStep.bare_after]
end steps

section ev
variable {C : Ctx} {K : Kr} {H : AH} {D : List Nat} {w : World} {N : Nat} {e : Env} {a : Act}

theorem getD_eq (xs : Array Value) (i : Nat) : xs.getD i undef = (xs[i]?).getD undef := by rw [Array.getD_eq_getD_getElem?]

theorem wanted_sound {all : List Oper} {o : Oper} {i : Nat} (ho : all[i]? = some o) (he : RepE K N e a.tmps) {r : Bool} (h : wantedA all e o = some r) : Region.wanted o (yielded all.toArray a.tmps) = r := by
  unfold wantedA at h
  unfold Region.wanted
  split at h
  · rename_i hg
    rw [hg]
    injection h
  · rename_i j want hg
    rw [hg]
    simp only
    split at h
    · rename_i d hd
      have hy : yielded all.toArray a.tmps j = (match a.tmps[d]? with | some (.bool b) => some b | _ => none) := by
        unfold yielded
        rw [show all.toArray[j]? = all[j]? from List.getElem?_toArray, hd]
        rfl
      rw [hy]
      split at h
      · rename_i b hb
        injection h with h
        obtain ⟨u, hu, hr⟩ := he.2 d _ hb
        obtain rfl := hr.bool_inv
        rw [hu, ← h]
        cases b <;> cases want <;> rfl
      · rename_i hb
        injection h with h
        obtain ⟨u, hu, hr⟩ := he.2 d _ hb
        obtain ⟨us, rfl, hl⟩ := hr.tuple_inv
        rw [hu, ← h]
        cases want <;> rfl
      · cases h
    · cases h

theorem light_nodefer {o : Oper} {v : AV} (h : lightA C e H o = some v) : ∀ c, o.op ≠ .defer c := by
  intro c hc
  simp [lightA, hc] at h
theorem heavy_nodefer {o : Oper} {wr : Bool} {v : AV × AH} (h : heavyA C wr e H o = some v) : ∀ c, o.op ≠ .defer c := by
  intro c hc
  simp [heavyA, hc] at h

/-- One result of a call. -/
def resF (tmps : Array Value) : ResultVar → Sem Value
  | .tmp t => pure (tmps.getD t undef)
  | .cell a t => do loadVar t (← asAddr (tmps.getD a undef))
/-- The results of a call. -/
theorem res_sound (hC : CtxOk C) (hs : Sat C K H D w) (he : RepE K N e a.tmps) : ∀ {rs : List ResultVar} {vs : List AV}, resA C e H rs = some vs →
    ∃ us, (rs.mapM (resF a.tmps)).run C.P w = .ok us w ∧ RepL K vs us := by
  intro rs
  induction rs with
  | nil => intro vs h; simp only [resA] at h; injection h with h; subst h; exact ⟨[], rfl, .nil K⟩
  | cons r rs ih =>
    intro vs h
    cases r with
    | tmp t =>
      simp only [resA] at h
      split at h
      · rename_i v vs' h1 h2
        injection h with h
        subst h
        obtain ⟨us, hu, hr⟩ := ih h2
        obtain ⟨u, hu1, hr1⟩ := he.2 t v h1
        refine ⟨u :: us, ?_, .cons hr1 hr⟩
        have h0 : (resF a.tmps (.tmp t)).run C.P w = .ok u w := by
          simp only [resF, Sem.run_pure, getD_eq, hu1, Option.getD_some]
        rw [List.mapM_cons]
        simp only [Sem.run_bind, h0, Result.andThen_ok, hu, Sem.run_pure]
      · cases h
    | cell x t =>
      simp only [resA] at h
      split at h
      · rename_i d p vs' h1 h2 h3
        simp only [Option.map_eq_some_iff] at h
        obtain ⟨v, hv, rfl⟩ := h
        obtain ⟨us, hu, hr⟩ := ih h3
        obtain ⟨u, hu1, hr1⟩ := he.2 x p h2
        obtain ⟨y, hy, hyr⟩ := load_sound hC hs h1 hr1 hv
        obtain ⟨b, o, as, vs0, hp, _⟩ := addr_cells hs hr1 hv
        refine ⟨y :: us, ?_, .cons hyr hr⟩
        subst hp
        simp only [Instr.loadAt, Instr.sureAddr, Sem.run_bind, Sem.run_pure, Result.andThen_ok] at hy
        have h0 : (resF a.tmps (.cell x t)).run C.P w = .ok y w := by
          simp only [resF, Sem.run_bind, getD_eq, hu1, Option.getD_some, asAddr, Sem.run_pure, Result.andThen_ok, hy]
        rw [List.mapM_cons]
        simp only [Sem.run_bind, h0, Result.andThen_ok, hu, Sem.run_pure]
      · cases h

theorem results_sound (hC : CtxOk C) (hs : Sat C K H D w) (he : RepE K N e a.tmps) {fn : Func} {vs : List AV} (h : resA C e H fn.results.toList = some vs) :
    ∃ u, (results fn a.tmps).run C.P w = .ok u w ∧ RepV K (retA vs) u := by
  obtain ⟨us, hu, hr⟩ := res_sound hC hs he h
  refine ⟨if h : us.toArray.size = 1 then us.toArray[0] else .tuple us.toArray, ?_, ?_⟩
  · have h1 : (fn.results.mapM (resF a.tmps)).run C.P w = .ok us.toArray w := by
      rw [Array.mapM_eq_mapM_toList]
      simp only [Sem.run_map, hu, Result.andThen_ok]
    have h2 : results fn a.tmps = (fn.results.mapM (resF a.tmps) >>= fun vs => pure (if h : vs.size = 1 then vs[0] else .tuple vs)) := by
      unfold results
      congr 1
    rw [h2, Sem.run_bind, h1]
    rfl
  · match vs, us, hr with
    | [], us, hr => obtain rfl := hr.of_nil; exact .undef K
    | [v], us, hr =>
      obtain ⟨u, us', rfl, h1, h2⟩ := hr.uncons
      obtain rfl := h2.of_nil
      simpa [retA] using h1
    | v :: v' :: vs, us, hr =>
      obtain ⟨u, us', rfl, h1, h2⟩ := hr.uncons
      obtain ⟨u', us'', rfl, h3, h4⟩ := h2.uncons
      rw [dif_neg (by simp)]
      exact .tuple _ hr.1 hr.2
end ev
end Go.Abs
