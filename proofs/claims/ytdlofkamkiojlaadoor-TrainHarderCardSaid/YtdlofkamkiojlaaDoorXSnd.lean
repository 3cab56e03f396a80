/- The abstract relation is sound: what it says of a call, the machine does. Conditions: the table of types fits the program. -/
import Derived.Test.YtdlofkamkiojlaaDoorXDrw
set_option linter.unusedVariables false
set_option linter.unusedSimpArgs false
namespace Go.Abs
open Go Go.RowKit

/-! ### What an operation looks at -/
section congr
variable {C : Ctx} {e e2 : Env} {H : AH}
theorem evalA_congr {x : Operand} (h : ∀ t, x = .tmp t → e t = e2 t) : evalA C e x = evalA C e2 x := by
  cases x with
  | tmp t => exact h t rfl
  | _ => rfl
theorem evalsA_congr : ∀ {xs : List Operand}, (∀ x ∈ xs, evalA C e x = evalA C e2 x) → evalsA C e xs = evalsA C e2 xs := by
  intro xs
  induction xs with
  | nil => intro _; rfl
  | cons x xs ih =>
    intro h
    unfold evalsA
    rw [h x (List.mem_cons_self ..), ih (fun y hy => h y (List.mem_cons_of_mem _ hy))]
theorem partsA_congr : ∀ {xs : List (Nat × Operand)}, (∀ x ∈ xs.map (·.2), evalA C e x = evalA C e2 x) → partsA C e xs = partsA C e2 xs := by
  intro xs
  induction xs with
  | nil => intro _; rfl
  | cons x xs ih =>
    obtain ⟨i, x⟩ := x
    intro h
    unfold partsA
    rw [h x (by simp), ih (fun y hy => h y (by simp at hy ⊢; exact .inr hy))]
theorem optA_congr {x : Option Operand} (h : ∀ y, x = some y → evalA C e y = evalA C e2 y) : x.map (evalA C e) = x.map (evalA C e2) := by
  cases x with
  | none => rfl
  | some y => simp [h y rfl]

theorem lightA_congr {o : Oper} (h : ∀ x ∈ o.op.operands, evalA C e x = evalA C e2 x) : lightA C e H o = lightA C e2 H o := by
  obtain ⟨dst, op, type, pos, after, guard⟩ := o
  cases op with
  | build t ps => simp only [lightA]; rw [partsA_congr (fun x hx => h x (by simpa [Op.operands] using hx))]
  | buildSlice t n ps => simp only [lightA]; rw [partsA_congr (fun x hx => h x (by simpa [Op.operands] using hx))]
  | makeFunc fn first captured =>
    cases fn <;> simp only [lightA]
    rw [evalsA_congr (xs := first.toList) (fun x hx => h x (by simp [Op.operands]; simp at hx; exact .inl hx)), evalsA_congr (xs := captured.toList) (fun x hx => h x (by simp [Op.operands]; simp at hx; exact .inr hx))]
  | slice t x lo hi mx =>
    simp only [lightA]
    rw [h x (by simp [Op.operands]), optA_congr (x := lo) (fun y hy => h y (by simp [Op.operands, hy])), optA_congr (x := hi) (fun y hy => h y (by simp [Op.operands, hy])), optA_congr (x := mx) (fun y hy => h y (by simp [Op.operands, hy]))]
  | call c =>
    obtain ⟨callee, args, ts⟩ := c
    have ha : evalsA C e args.toList = evalsA C e2 args.toList := evalsA_congr (fun x hx => h x (by simp [Op.operands, Call.operands]; simp at hx; exact .inr hx))
    have hx : ∀ x ∈ args.toList, evalA C e x = evalA C e2 x := fun x hx => h x (by simp [Op.operands, Call.operands]; simp at hx; exact .inr hx)
    cases callee with
    | builtin b =>
      cases b <;> simp only [lightA]
      · split
        · rename_i t x hts hargs
          rw [hx x (by rw [hargs]; simp)]
        · rfl
      · rw [ha]
      · rw [ha]
    | _ => simp only [lightA]
  | move x => simp only [lightA]; rw [h x (by simp [Op.operands])]
  | assign x => simp only [lightA]; rw [h x (by simp [Op.operands])]
  | pick c x y => simp only [lightA]; rw [h c (by simp [Op.operands]), h x (by simp [Op.operands]), h y (by simp [Op.operands])]
  | load t x => simp only [lightA]; rw [h x (by simp [Op.operands])]
  | binOp op t x y yt => simp only [lightA]; rw [h x (by simp [Op.operands]), h y (by simp [Op.operands])]
  | unOp op t x => simp only [lightA]; rw [h x (by simp [Op.operands])]
  | fieldAddr t x i => simp only [lightA]; rw [h x (by simp [Op.operands])]
  | field t x i => simp only [lightA]; rw [h x (by simp [Op.operands])]
  | indexAddr t x i => simp only [lightA]; rw [h x (by simp [Op.operands]), h i (by simp [Op.operands])]
  | index t x i => simp only [lightA]; rw [h x (by simp [Op.operands]), h i (by simp [Op.operands])]
  | lookup t x i ok => simp only [lightA]; rw [h x (by simp [Op.operands]), h i (by simp [Op.operands])]
  | extract x i => simp only [lightA]; rw [h x (by simp [Op.operands])]
  | _ => rfl

theorem heavyA_congr {o : Oper} {wr : Bool} (h : ∀ x ∈ o.op.operands, evalA C e x = evalA C e2 x) : heavyA C wr e H o = heavyA C wr e2 H o := by
  obtain ⟨dst, op, type, pos, after, guard⟩ := o
  cases op with
  | box t x => simp only [heavyA]; rw [h x (by simp [Op.operands])]
  | store t x y => simp only [heavyA]; rw [h x (by simp [Op.operands]), h y (by simp [Op.operands])]
  | makeSlice t l c => simp only [heavyA]; rw [h l (by simp [Op.operands]), h c (by simp [Op.operands])]
  | makeMap t r => cases r <;> rfl
  | mapUpdate t m k x => simp only [heavyA]; rw [h m (by simp [Op.operands]), h k (by simp [Op.operands]), h x (by simp [Op.operands])]
  | call c =>
    obtain ⟨callee, args, ts⟩ := c
    have hx : ∀ x ∈ args.toList, evalA C e x = evalA C e2 x := fun x hx => h x (by simp [Op.operands, Call.operands]; simp at hx; exact .inr hx)
    cases callee with
    | builtin b =>
      cases b <;> simp only [heavyA]
      split
      · rename_i t u s x hts hargs
        rw [hx s (by rw [hargs]; simp), hx x (by rw [hargs]; simp)]
      · rfl
    | _ => rfl
  | _ => rfl

theorem wantedA_congr {all : List Oper} {o : Oper} (h : ∀ t ∈ looksAt all o, e t = e2 t) : wantedA all e o = wantedA all e2 o := by
  unfold wantedA
  cases hg : o.guard with
  | none => rfl
  | some g =>
    obtain ⟨j, want⟩ := g
    simp only
    cases hd : (all[j]?).bind (·.dst) with
    | none => rfl
    | some d =>
      simp only
      rw [h d (by unfold looksAt; rw [hg]; simp [hd])]

theorem looks_ops {all : List Oper} {o : Oper} (h : ∀ t ∈ looksAt all o, e t = e2 t) : ∀ x ∈ o.op.operands, evalA C e x = evalA C e2 x := by
  intro x hx
  refine evalA_congr (fun t ht => h t ?_)
  unfold looksAt
  simp only [List.mem_append, List.mem_filterMap]
  exact .inl ⟨x, by simpa using hx, by rw [ht]⟩

/-- Only loads and look-ups hang on the heap. -/
theorem lightA_heap {o : Oper} {H2 : AH} (h : isReading o = false) : lightA C e H2 o = lightA C e H o := by
  obtain ⟨dst, op, type, pos, after, guard⟩ := o
  cases op with
  | load t x => simp [isReading] at h
  | lookup t x i ok => simp [isReading] at h
  | call c =>
    obtain ⟨callee, args, ts⟩ := c
    cases callee with
    | builtin b => cases b <;> rfl
    | _ => rfl
  | makeFunc fn first captured => cases fn <;> rfl
  | _ => rfl
end congr

section ev
variable {C : Ctx} {K : Kr} {H : AH} {D : List Nat} {w : World} {N : Nat} {e : Env} {a : Act}

theorem step_skipped {all : List Oper} {base i : Nat} {o : Oper} (hw : wantedA all e o = some false) : SStep C N all base i o e H (.tuple []) H := by
  intro K D w a b rest k cs hs he ho hp
  have hw' := wanted_sound (all := all) ho he hw
  refine ⟨K, w, undef, Steps.one ?_, .refl K, ⟨Nat.le_refl _, fun j _ hb _ => ⟨hb, rfl⟩⟩, hs, .undef K⟩
  have := stepR_op_skip (P := C.P) (b := b) (a := a) (k := k) (cs := cs) (w := w) (ops := all.toArray) (i := i) (rest := rest) (by
    rw [show all.toArray[i]? = all[i]? from List.getElem?_toArray, ho]
    simpa using hw')
  rw [this]
  rw [show all.toArray[i]? = all[i]? from List.getElem?_toArray, ho]
  rfl

theorem step_light (hC : CtxOk C) {all : List Oper} {base i : Nat} {o : Oper} {v : AV} (hw : wantedA all e o = some true) (h : lightA C e H o = some v) : SStep C N all base i o e H v H := by
  intro K D w a b rest k cs hs he ho hp
  have hw' := wanted_sound (all := all) ho he hw
  obtain ⟨K', w', u, hu, hle, hβ, hs', hr⟩ := light_sound hC hs he h
  refine ⟨K', w', u, Steps.one (stepR_value (by rw [show all.toArray[i]? = all[i]? from List.getElem?_toArray]; exact ho) hw' (light_nodefer h) hu), hle, ⟨Nat.le_refl _, fun j _ hb _ => ⟨by rw [hβ]; exact hb, rfl⟩⟩, hs', hr⟩

theorem step_heavy (hC : CtxOk C) {all : List Oper} {base i : Nat} {o : Oper} {wr : Bool} {v : AV} {H' : AH} (hw : wantedA all e o = some true) (h : heavyA C wr e H o = some (v, H')) : SStep C N all base i o e H v H' := by
  intro K D w a b rest k cs hs he ho hp
  have hw' := wanted_sound (all := all) ho he hw
  obtain ⟨K', w', nx, u, hu, hn, hle, hf, hs', hr⟩ := heavy_sound hC hs he h
  have ho' : all.toArray[i]? = some o := by rw [show all.toArray[i]? = all[i]? from List.getElem?_toArray]; exact ho
  refine ⟨K', w', u, ?_, hle, ⟨hf.1, fun j hj hb _ => hf.2 j hj hb⟩, hs', hr⟩
  rcases hn with rfl | ⟨rfl, rfl⟩
  · exact Steps.one (stepR_value ho' hw' (heavy_nodefer h) hu)
  · exact Steps.one (stepR_opskip ho' hw' (heavy_nodefer h) hu)

theorem step_alloc (hC : CtxOk C) {all : List Oper} {base i : Nat} {o : Oper} {t : TypeId} (hw : wantedA all e o = some true) (hop : o.op = .alloc t) : SStep C N all base i o e H (.ptr (base + rank all i) 0) H := by
  intro K D w a b rest k cs hs he ho hp
  have hw' := wanted_sound (all := all) ho he hw
  have ho' : all.toArray[i]? = some o := by rw [show all.toArray[i]? = all[i]? from List.getElem?_toArray]; exact ho
  obtain ⟨d, hd, hlt, hb0, hg⟩ := hp t hop
  obtain ⟨by', u, hi, hu, _⟩ := (hC.ty t d hd).i
  obtain ⟨z, hz, hzb, hz1, hz2⟩ := hi.zeroValue w
  obtain ⟨hzr, hzo⟩ := zeroB_rep K hzb
  have hle : K.le (K.bind (base + rank all i) w.heap.size (0, 0)) := Kr.bind_le hb0
  refine ⟨K.bind (base + rank all i) w.heap.size (0, 0), w.alloc (.cells z.cells t), .pointer (some ⟨w.heap.size, 0, none⟩), ?_, hle, ⟨Nat.le_refl _, fun j hj hb hne => ⟨?_, rfl⟩⟩, ?_, .ptr (by simp [Kr.bind])⟩
  · refine Steps.one (stepR_value ho' hw' (fun c hc => by rw [hop] at hc; cases hc) ?_)
    simp only [execOp, hop, Instr.alloc, Sem.run_bind, hz, Result.andThen_ok, newVar, newRow, run_newObj, Sem.run_pure]
    rfl
  · have ha : isAlloc o = true := isAlloc_iff.2 ⟨t, hop⟩
    simp [Kr.bind, hne ha, hb]
  · refine hs.make _ hb0 (Nat.le_refl _) hlt hg (fun i b hb => .inl rfl) hle (fun i => rfl) (fun b o _ => rfl) (fun o v hv => ?_) ?_
    · exact absurd hv (by show K.G w.heap.size o ≠ some v; rw [hs.G_new]; simp)
    · exact ⟨z.cells.toList, [], t, by rw [heap_alloc_at, if_pos rfl]; simp, hzr.mono hle, hzo, fun o => hs.G_new o⟩

/-- A call, by the machine: from the callee's frame to where its results are at hand. -/
def SCall (C : Ctx) (f : FuncId) (args : List AV) (H : AH) (v : AV) (H' : AH) : Prop :=
  (∃ (fn : Func) (c : Code), C.P.funcs[f]? = some fn ∧ fn.body = some c ∧ (fn.name == "runtime.NumGoroutine") = false) ∧
  ∀ (K : Kr) (D : List Nat) (w : World) (argsC : Array Value) (cs : List Frame), Sat C K H D w → RepL K args argsC.toList →
    ∃ K' w' fr vc, Steps C.P (lone (Frame.enter C.P f argsC .normal) cs w) (lone fr cs w') ∧ fr.fn = f ∧ fr.leaving C.P w' (.returned vc) ∧ K.le K' ∧ Frz K H K' H' ∧ Sat C K' H' D w' ∧ RepV K' v vc
/-- The call of a function value. -/
def SApp (C : Ctx) (fv : AV) (args : List AV) (H : AH) (v : AV) (H' : AH) : Prop :=
  ∀ (K : Kr) (D : List Nat) (w : World) (fvC : Value) (argsC : Array Value), Sat C K H D w → RepV K fv fvC → RepL K args argsC.toList →
    ∃ d nx, (Deferred.ofValue fvC argsC).run C.P w = .ok d w ∧ (invoke d.target d.args).run C.P w = .ok nx w ∧
      ∀ (c : Frame) (cs : List Frame), ∃ fr0, ((∃ f as, nx = .enter f as ∧ fr0 = Frame.enter C.P f as .normal) ∨ (∃ l f tmps as bd, nx = .round l f tmps as bd ∧ fr0 = Frame.round l f tmps as bd .normal)) ∧
        ∃ K' w' vc, Steps C.P (lone fr0 (c :: cs) w) (lone (c.finish vc) cs w') ∧ K.le K' ∧ Frz K H K' H' ∧ Sat C K' H' D w' ∧ RepV K' v vc

theorem step_apply (hC : CtxOk C) {all : List Oper} {base i : Nat} {o : Oper} {f : Operand} {args : Array Operand} {ts : Array TypeId} {fv v : AV} {vs : List AV} {H' : AH} (hw : wantedA all e o = some true)
    (hop : o.op = .call { callee := .value f, args, argTypes := ts }) (hf : evalA C e f = some fv) (hv : evalsA C e args.toList = some vs) (h : SApp C fv vs H v H') : SStep C N all base i o e H v H' := by
  intro K D w a b rest k cs hs he ho hp
  have hw' := wanted_sound (all := all) ho he hw
  have ho' : all.toArray[i]? = some o := by rw [show all.toArray[i]? = all[i]? from List.getElem?_toArray]; exact ho
  have hargs : RepL K vs (args.map a.eval).toList := by simpa using evalsA_sound hs he hv
  obtain ⟨d, nx, hd, hi, hgo⟩ := h K D w (a.eval f) (args.map a.eval) hs (evalA_sound hs he hf) hargs
  obtain ⟨fr0, hfr, K', w', vc, hsteps, hle, hfz, hs', hr⟩ := hgo (b.atR a (.inRegion all.toArray (i :: rest) :: k)) cs
  have hfin := Frame.finish_atR b a all.toArray i rest k vc
  rw [ho'] at hfin
  have hex : (execOp a.eval o).run C.P w = .ok nx w := by
    simp only [execOp, hop, resolve, Sem.run_bind]
    rw [hd]
    exact hi
  refine ⟨K', w', vc, ?_, hle, ⟨hfz.1, fun j hj hb _ => hfz.2 j hj hb⟩, hs', hr⟩
  have hnd : ∀ c, o.op ≠ .defer c := fun c hc => by rw [hop] at hc; cases hc
  rw [hfin] at hsteps
  rcases hfr with ⟨g, as, rfl, rfl⟩ | ⟨l, g, tmps, as, bd, rfl, rfl⟩
  · exact Steps.head (stepR_enter ho' hw' hnd hex) hsteps
  · exact Steps.head (stepR_round ho' hw' hnd hex) hsteps

/-- Objects of the frames below that have no block are as they were. -/
def FrzM (m : Nat) (K : Kr) (H : AH) (K' : Kr) (H' : AH) : Prop := m ≤ H'.n ∧ ∀ i, i < m → K.β i = none → K'.β i = none ∧ H'.g i = H.g i
theorem FrzM.refl {m : Nat} (K : Kr) (H : AH) (hm : m ≤ H.n) : FrzM m K H K H := ⟨hm, fun _ _ h => ⟨h, rfl⟩⟩
theorem FrzM.trans {m : Nat} {K1 H1 K2 H2 K3 H3} (h : FrzM m K1 H1 K2 H2) (k : FrzM m K2 H2 K3 H3) : FrzM m K1 H1 K3 H3 :=
  ⟨k.1, fun i hi hb => by
    obtain ⟨h1, h2⟩ := h.2 i hi hb
    obtain ⟨k1, k2⟩ := k.2 i hi h1
    exact ⟨k1, k2.trans h2⟩⟩
/-- What the frames below know stays so. -/
structure KleM (m : Nat) (K K' : Kr) : Prop where
  w0 : K'.w0 = K.w0
  G : ∀ b o v, K.G b o = some v → K'.G b o = some v
  β : ∀ i b, i < m → K.β i = some b → K'.β i = some b
  tk : ∀ i b, i < m → K.β i = some b → K'.tk i = K.tk i
  M : ∀ b cs, K.M b = some cs → K'.M b = some cs
  old : ∀ b, K.w0.P b = true → (∀ o, K'.G b o = K.G b o) ∧ K'.M b = K.M b
theorem KleM.refl (m : Nat) (K : Kr) : KleM m K K := ⟨rfl, fun _ _ _ h => h, fun _ _ _ h => h, fun _ _ _ _ => rfl, fun _ _ h => h, fun _ _ => ⟨fun _ => rfl, rfl⟩⟩
theorem KleM.trans {m : Nat} {A B C : Kr} (h : KleM m A B) (k : KleM m B C) : KleM m A C :=
  ⟨k.w0.trans h.w0, fun b o v x => k.G _ _ _ (h.G _ _ _ x), fun i b hi x => k.β _ _ hi (h.β _ _ hi x), fun i b hi x => (k.tk _ _ hi (h.β _ _ hi x)).trans (h.tk _ _ hi x), fun b cs x => k.M _ _ (h.M _ _ x), fun b hb =>
    let ⟨p, q⟩ := k.old b (by rw [h.w0]; exact hb)
    let ⟨r, s⟩ := h.old b hb
    ⟨fun o => (p o).trans (r o), q.trans s⟩⟩
theorem Kr.le.low {m : Nat} {K K' : Kr} (h : K.le K') : KleM m K K' := ⟨h.w0, h.G, fun i b _ x => h.β i b x, fun i b _ x => h.tk i b x, h.M, h.old⟩
theorem KleM.full {m : Nat} {K K' : Kr} (h : KleM m K K') (hm : ∀ i b, K.β i = some b → i < m) : K.le K' := ⟨h.w0, h.G, fun i b x => h.β i b (hm i b x) x, fun i b x => h.tk i b (hm i b x) x, h.M, h.old⟩
theorem Frz.low {m : Nat} {K H K' H'} (h : Frz K H K' H') (hm : m ≤ H.n) : FrzM m K H K' H' := ⟨Nat.le_trans hm h.1, fun i hi hb => h.2 i (Nat.lt_of_lt_of_le hi hm) hb⟩

/-- A piece of code, by the machine. -/
def SCode (C : Ctx) (F : Fr) (c : Code) (e : Env) (H : AH) (x : AX) (e' : Env) (H' : AH) : Prop :=
  ∀ (K : Kr) (D ds : List Nat) (w : World) (tmps : Array Value) (b : Frame) (k : List Item) (cs : List Frame), b.roundOf.isSome = F.r → F.m ≤ H.n → Sat C K H (ds ++ D) w → RepE K F.N e tmps →
    ∃ K' w' tmps' ds', KleM F.m K K' ∧ FrzM F.m K H K' H' ∧ Sat C K' H' (ds' ++ D) w' ∧ RepE K' F.N e' tmps' ∧ (F.r = true → ds' = ds) ∧
      (match x with
       | .normal => Steps C.P (lone (b.atR { tmps, defers := ds.map mk } (.code c :: k)) cs w) (lone (b.atR { tmps := tmps', defers := ds'.map mk } k) cs w')
       | .exit id => ∃ k1, exitTo id k1 = exitTo id k ∧ Steps C.P (lone (b.atR { tmps, defers := ds.map mk } (.code c :: k)) cs w) (lone (b.atR { tmps := tmps', defers := ds'.map mk } (.code (.exit id) :: k1)) cs w')
       | .ret => ∃ k1, Steps C.P (lone (b.atR { tmps, defers := ds.map mk } (.code c :: k)) cs w) (lone (b.atR { tmps := tmps', defers := ds'.map mk } (.code .ret :: k1)) cs w'))

def SOps (C : Ctx) (N : Nat) (all : List Oper) (base i : Nat) (l : List Oper) (e : Env) (H : AH) (tr : List (AV × AH)) (e' : Env) (H' : AH) : Prop :=
  tr.length = l.length ∧ e' = envAt e l tr l.length ∧ H' = heapAt H tr l.length ∧
    ∀ j o, l[j]? = some o → ∃ v Hn, tr[j]? = some (v, Hn) ∧ Hn = heapAt H tr (j + 1) ∧ dstOk N o.dst = true ∧ Step2 C N all base (i + j) o (envAt e l tr j) (heapAt H tr j) v Hn

def Sound (C : Ctx) : J → Prop
  | .code F c e H x e' H' => SCode C F c e H x e' H'
  | .ops N all base i l e H tr e' H' => SOps C N all base i l e H tr e' H'
  | .step all base i o e H v H' => ∀ N, Step2 C N all base i o e H v H'
  | .call f args H v H' => SCall C f args H v H'
  | .app fv args H v H' => SApp C fv args H v H'

/-! ### The blocks for deferred calls -/
theorem Sat.addDef (hs : Sat C K H D w) : Sat C K H (w.heap.size :: D) (w.alloc (.deferred (some []))) := by
  have h := hs.fresh (K' := K) (.deferred (some [])) (.refl K) rfl (fun _ _ _ => rfl) (fun o v hv => by rw [hs.G_new] at hv; cases hv)
  refine ⟨h.base, h.g, h.obj, h.inj, fun b hb => ?_, ?_, h.glob, h.m⟩
  · rcases List.mem_cons.1 hb with rfl | hb
    · exact ⟨hs.base.new, by rw [heap_alloc_at, if_pos rfl]⟩
    · exact h.defs b hb
  · refine List.nodup_cons.2 ⟨fun hm => ?_, hs.nodup⟩
    have := lt_of_heap (hs.defs _ hm).2
    omega
theorem Sat.takeDef {r : Nat} (hs : Sat C K H (r :: D) w) : (Instr.takeDeferred r).run C.P w = .ok [] (World.putObj' w r (.deferred none)) ∧ Sat C K H D (World.putObj' w r (.deferred none)) := by
  obtain ⟨h1, h2⟩ := hs.defs r (List.mem_cons_self ..)
  have hlt := lt_of_heap h2
  obtain ⟨hnr, hnd⟩ := List.nodup_cons.1 hs.nodup
  have hne : ∀ k o, w.heap[k]? = some o → (∀ d, o ≠ .deferred d) → k ≠ r := fun k o hk hd he => by rw [he, h2] at hk; injection hk with hk; exact hd _ hk.symm
  refine ⟨?_, ?_, ?_, ?_, hs.inj, ?_, hnd, hs.glob, fun b cs hb => ?_⟩
  rotate_right
  · obtain ⟨clk, hm⟩ := hs.m b cs hb
    exact ⟨clk, by rw [heap_put_at _ _ _ _ hlt, if_neg (hne b _ hm (fun d => by simp))]; exact hm⟩
  · simp only [Instr.takeDeferred, Sem.run_bind, run_getObj h2 (fun _ _ _ => by simp), Result.andThen_ok]
    rw [run_setObj h2 (fun _ _ _ => by simp)]
    rfl
  · exact hs.base.trans ⟨rfl, rfl, rfl, by simp [World.putObj'], fun k hk => by rw [heap_put_at _ _ _ _ hlt, if_neg (fun e => by rw [e, h1] at hk; cases hk)], fun k hk => by have := hs.base.lt k hk; have := hs.base.size; omega⟩
  · intro b o v hv
    obtain ⟨cs, e, f, q1, q2⟩ := cell_some (hs.g b o v hv)
    rw [cell_of (show (World.putObj' w r (.deferred none)).heap[b]? = _ by rw [heap_put_at _ _ _ _ hlt, if_neg (hne b _ q1 (fun d => by simp))]; exact q1)]
    exact q2
  · intro id b hb
    obtain ⟨o1, o2, o3, o4⟩ := hs.obj id b hb
    refine ⟨o1, by simpa [World.putObj'] using o2, o3, ?_⟩
    by_cases hbr : b = r
    · subst hbr
      cases hg : H.g id with
      | cells cs => rw [hg] at o4; obtain ⟨vs, us, ty, hh, _⟩ := o4; rw [h2] at hh; cases hh
      | map es => rw [hg] at o4; obtain ⟨cs, clk, hh, _⟩ := o4; rw [h2] at hh; cases hh
      | own => rw [hg] at o4; obtain ⟨vs, ty, lo, hi, hh, _⟩ := o4; rw [h2] at hh; cases hh
      | loop r => rw [hg] at o4; obtain ⟨l, hh, _⟩ := o4; rw [h2] at hh; cases hh
      | gone => trivial
    · exact o4.mono (.refl K) (by rw [heap_put_at _ _ _ _ hlt, if_neg hbr]) (fun _ => rfl) rfl
  · intro b hb
    obtain ⟨d1, d2⟩ := hs.defs b (List.mem_cons_of_mem _ hb)
    exact ⟨d1, by rw [heap_put_at _ _ _ _ hlt, if_neg (fun (he : b = r) => hnr (he ▸ hb))]; exact d2⟩

/-- A frame that returns takes its marks. -/
theorem unwind_marks : ∀ (ds : List Nat) (w : World) (fr : Frame) (cs : List Frame), Sat C K H (ds ++ D) w → fr.mode = .returning → fr.defers = ds.map mk →
    ∃ w', Steps C.P (lone fr cs w) (lone { fr with defers := [] } cs w') ∧ Sat C K H D w' := by
  intro ds
  induction ds with
  | nil => intro w fr cs hs hm hd; refine ⟨w, ?_, hs⟩; have : { fr with defers := [] } = fr := by cases fr; simp at hd; simp [hd]
           rw [this]; exact Steps.refl _ _
  | cons r ds ih =>
    intro w fr cs hs hm hd
    obtain ⟨h1, h2⟩ := Sat.takeDef (show Sat C K H (r :: (ds ++ D)) w from hs)
    obtain ⟨w', h3, h4⟩ := ih _ { fr with defers := ds.map mk } cs h2 hm rfl
    exact ⟨w', Steps.head (step_take hm hd h1) h3, h4⟩

/-- A loop's record turned. -/
theorem Sat.putLoop (hs : Sat C K H D w) {id b : Nat} (hb : K.β id = some b) {R R' : ALoop} (hg : H.g id = .loop R) {L : Loop} (hL : w.heap[b]? = some (.loop L)) {L' : Loop}
    (h1 : L'.state = R'.st) (h2 : L'.pending = R'.pend.code) (h3 : L'.tmps = L.tmps) (h4 : L'.params = L.params) (h5 : L'.assign = L.assign) (h6 : L'.body = L.body) (e1 : R'.N = R.N) (e2 : R'.tmps = R.tmps) (e3 : R'.params = R.params) (e4 : R'.assign = R.assign) (e5 : R'.body = R.body) :
    Sat C K (H.set id (.loop R')) D (World.putObj' w b (.loop L')) := by
  obtain ⟨o1, o2, o3, o4⟩ := hs.obj id b hb
  rw [hg] at o4
  obtain ⟨l, hh, q1, q2, q3, q4, q5, q6, hG⟩ := o4
  rw [hL] at hh
  injection hh with hh
  injection hh with hh
  subst hh
  refine hs.write hb (by rw [hg]; rfl) ⟨rfl, rfl, rfl, by simp [World.putObj'], fun k hk => ?_, fun k hk => by have := hs.base.lt k hk; have := hs.base.size; omega⟩ (by simp [World.putObj']) (fun k hk => ?_) hG (hs.M_none hL (fun _ _ => by simp)) ?_ (fun d hd => by rw [hL] at hd; cases hd)
  · rw [heap_put_at _ _ _ _ o2, if_neg (fun e => by rw [e, o1] at hk; cases hk)]
  · rw [heap_put_at _ _ _ _ o2, if_neg hk]
  · refine ⟨L', by rw [heap_put_at _ _ _ _ o2, if_pos rfl], h1, h2, ?_, ?_, ?_, ?_, hG⟩
    · rw [e1, e2, h3]; exact q3
    · rw [e3, h4]; exact q4
    · rw [e4, h5]; exact q5
    · rw [e5, h6]; exact q6
theorem frz_set {id b : Nat} (hb : K.β id = some b) (o : AObj) : Frz K H K (H.set id o) :=
  ⟨Nat.le_refl _, fun i hi hn => ⟨hn, by simp only [AH.set]; rw [if_neg (fun e => by rw [e, hb] at hn; cases hn)]⟩⟩
theorem getLoop_run {P : Program} {b : Nat} {L : Loop} (hL : w.heap[b]? = some (.loop L)) : (Instr.getLoop b).run P w = .ok L w := by
  simp only [Instr.getLoop, Sem.run_bind, run_getObj hL (fun _ _ _ => by simp), Result.andThen_ok]
  rfl
end ev
end Go.Abs
