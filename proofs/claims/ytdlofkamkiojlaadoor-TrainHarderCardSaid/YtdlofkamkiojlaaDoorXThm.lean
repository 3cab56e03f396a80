/- The abstract relation is sound: what it says of a call, the machine does. Conditions: the table of types fits the program. -/
import Derived.Test.YtdlofkamkiojlaaDoorXFz
set_option linter.unusedVariables false
set_option linter.unusedSimpArgs false
namespace Go.Abs
open Go Go.RowKit

section ev
variable {C : Ctx} {K : Kr} {H : AH} {D : List Nat} {w : World} {N : Nat} {e : Env} {a : Act}

theorem enter_atR {P : Program} {f : FuncId} {fn : Func} {c : Code} {args : Array Value} (hf : P.funcs[f]? = some fn) (hb : fn.body = some c) :
    Frame.enter P f args .normal = ({ fn := f, tmps := #[], todo := [], defers := [], mode := .run, kind := .normal } : Frame).atR { tmps := args ++ Array.replicate (fn.ntmps - args.size) undef, defers := [] } [.code c] := by
  simp [Frame.enter, Frame.atR, hf, hb]

theorem args_env {as : List AV} {vs : List Value} (h : RepL K as vs) (i : Nat) (pre : List Value) (hp : pre.length = i) (post : List Value) : ∀ j x, Env.args i as j = some x → ∃ v, (pre ++ vs ++ post)[j]? = some v ∧ RepV K x v := by
  induction as generalizing vs i pre with
  | nil => intro j x hx; simp [Env.args] at hx
  | cons a as ih =>
    intro j x hx
    obtain ⟨v, us, rfl, hv, ht⟩ := h.uncons
    unfold Env.args Env.set at hx
    by_cases hj : j = i
    · rw [if_pos hj] at hx
      injection hx with hx
      subst hx; subst hj
      refine ⟨v, ?_, hv⟩
      rw [List.append_assoc, List.getElem?_append_right (by omega), hp]
      simp
    · rw [if_neg hj] at hx
      obtain ⟨u, hu, hr⟩ := ih ht (i + 1) (pre ++ [v]) (by simp [hp]) j x hx
      exact ⟨u, by simpa using hu, hr⟩

theorem setAll_rep : ∀ {ps : List (Tmp × AV)} {us : List Value} {e : Env} {tmps : Array Value}, RepE K N e tmps → (∀ p ∈ ps, p.1 < N) → RepL K (ps.map (·.2)) us →
    RepE K N (e.sets ps) ((ps.map (·.1)).zip us |>.foldl (fun tmps (t, a) => tmps.setIfInBounds t a) tmps) := by
  intro ps
  induction ps with
  | nil => intro us e tmps h _ _; exact h
  | cons p ps ih =>
    obtain ⟨t, v⟩ := p
    intro us e tmps h hN hr
    obtain ⟨u, us', rfl, hu, hus⟩ := hr.uncons
    simp only [Env.sets, List.map_cons, List.zip_cons_cons, List.foldl_cons]
    exact ih (h.set (hN (t, v) (List.mem_cons_self ..)) hu) (fun q hq => hN q (List.mem_cons_of_mem _ hq)) hus

theorem sound (hC : CtxOk C) (hg : ∀ g cs, C.glob g = some cs → Pure (.ro cs)) {j : J} (h : Ev C j) : Sound C j := by
  induction h with
  | @freeze F c e e0 H H0 x e1 H1 S hlow he hn hO _ ih =>
    intro K D ds w tmps b k cs hb hm hs hE
    have s0 := hs.freeze hn hO
    have hle := Kr.freeze_le (S := S) hs
    have hE0 : RepE (K.freeze S H w) F.N e0 tmps := ⟨hE.1, fun t v ht => by
      obtain ⟨u, hu, hf⟩ := he t v ht
      obtain ⟨x, hx, hr⟩ := hE.2 t u hu
      exact ⟨x, hx, fz_sound hs hf hr⟩⟩
    obtain ⟨K1, w1, t1, ds1, l1, f1, s1, r1, d1, st1⟩ := ih (K.freeze S H w) D ds w tmps b k cs hb (by omega) s0 hE0
    refine ⟨K1, w1, t1, ds1, hle.low.trans l1, ⟨f1.1, fun i hi hbi => ?_⟩, s1, r1, d1, st1⟩
    obtain ⟨p1, p2⟩ := f1.2 i hi hbi
    exact ⟨p1, p2.trans (hlow i hi).2⟩
  | frame _ ha hv ih => exact frame_sound hC hg ih ha hv
  | @rename F c e e0 H H0 x e1 H1 ρ hm0 hlow hO hinj he _ ih =>
    intro K D ds w tmps b k cs hb hm hs hE
    have s0 := hs.ren hg hO hinj
    have hE0 : RepE (K.ren ρ) F.N e0 tmps := ⟨hE.1, fun t v ht => by
      obtain ⟨u, hu, hf⟩ := he t v ht
      obtain ⟨x, hx, hr⟩ := hE.2 t u hu
      exact ⟨x, hx, rn_sound hf hr⟩⟩
    obtain ⟨K1, w1, t1, ds1, l1, f1, s1, r1, d1, st1⟩ := ih (K.ren ρ) D ds w tmps b k cs hb hm0 s0 hE0
    have hlow' : KleM F.m K (K.ren ρ) := ⟨rfl, fun _ _ _ h => h, fun i b hi hb => Kr.ren_β (hlow i hi).1 hb, fun i b hi hb => Kr.ren_tk (hlow i hi).1, fun _ _ h => h, fun _ _ => ⟨fun _ => rfl, rfl⟩⟩
    refine ⟨K1, w1, t1, ds1, hlow'.trans l1, ⟨f1.1, fun i hi hbi => ?_⟩, s1, r1, d1, st1⟩
    obtain ⟨p1, p2⟩ := f1.2 i hi (by simp [Kr.ren, (hlow i hi).1, hbi])
    exact ⟨p1, p2.trans (hlow i hi).2⟩
  | skip => intro K D ds w tmps b k cs hb hm hs he; exact ⟨K, w, tmps, ds, .refl _ K, FrzM.refl K _ hm, hs, he, fun _ => rfl, Steps.one stepR_skip⟩
  | label => intro K D ds w tmps b k cs hb hm hs he; exact ⟨K, w, tmps, ds, .refl _ K, FrzM.refl K _ hm, hs, he, fun _ => rfl, Steps.one stepR_label⟩
  | exit => intro K D ds w tmps b k cs hb hm hs he; exact ⟨K, w, tmps, ds, .refl _ K, FrzM.refl K _ hm, hs, he, fun _ => rfl, k, rfl, Steps.refl _ _⟩
  | ret => intro K D ds w tmps b k cs hb hm hs he; exact ⟨K, w, tmps, ds, .refl _ K, FrzM.refl K _ hm, hs, he, fun _ => rfl, k, Steps.refl _ _⟩
  | @seq F ca cb e H e1 H1 x e2 H2 _ _ ih1 ih2 =>
    intro K D ds w tmps b k cs hb hm hs he
    obtain ⟨K1, w1, t1, ds1, l1, f1, s1, r1, d1, st1⟩ := ih1 K D ds w tmps b (.code cb :: k) cs hb hm hs he
    obtain ⟨K2, w2, t2, ds2, l2, f2, s2, r2, d2, st2⟩ := ih2 K1 D ds1 w1 t1 b k cs hb f1.1 s1 r1
    refine ⟨K2, w2, t2, ds2, l1.trans l2, f1.trans f2, s2, r2, fun hr => (d2 hr).trans (d1 hr), ?_⟩
    have h1 := Steps.head stepR_seq st1
    cases x with
    | normal => exact h1.trans st2
    | exit id => obtain ⟨k1, hk, st2⟩ := st2; exact ⟨k1, hk, h1.trans st2⟩
    | ret => obtain ⟨k1, st2⟩ := st2; exact ⟨k1, h1.trans st2⟩
  | @seqx F ca cb e H x e1 H1 _ hx ih1 =>
    intro K D ds w tmps b k cs hb hm hs he
    obtain ⟨K1, w1, t1, ds1, l1, f1, s1, r1, d1, st1⟩ := ih1 K D ds w tmps b (.code cb :: k) cs hb hm hs he
    refine ⟨K1, w1, t1, ds1, l1, f1, s1, r1, d1, ?_⟩
    cases x with
    | normal => exact absurd rfl hx
    | exit id => obtain ⟨k1, hk, st1⟩ := st1; exact ⟨k1, hk, Steps.head stepR_seq st1⟩
    | ret => obtain ⟨k1, st1⟩ := st1; exact ⟨k1, Steps.head stepR_seq st1⟩
  | @cond F c ca cb e H t x e1 H1 hc _ ih =>
    intro K D ds w tmps b k cs hb hm hs he
    obtain ⟨K1, w1, t1, ds1, l1, f1, s1, r1, d1, st1⟩ := ih K D ds w tmps b k cs hb hm hs he
    have hcv := (evalA_sound (a := { tmps, defers := ds.map mk }) hs he hc).bool_inv
    have h0 := stepR_cond (P := C.P) (b := b) (k := k) (cs := cs) (w := w) (x := ca) (y := cb) hcv
    refine ⟨K1, w1, t1, ds1, l1, f1, s1, r1, d1, ?_⟩
    cases x with
    | normal => exact Steps.head h0 st1
    | exit id => obtain ⟨k1, hk, st1⟩ := st1; exact ⟨k1, hk, Steps.head h0 st1⟩
    | ret => obtain ⟨k1, st1⟩ := st1; exact ⟨k1, Steps.head h0 st1⟩
  | @block F id c e H x e1 H1 _ ih =>
    intro K D ds w tmps b k cs hb hm hs he
    obtain ⟨K1, w1, t1, ds1, l1, f1, s1, r1, d1, st1⟩ := ih K D ds w tmps b (.inBlock id :: k) cs hb hm hs he
    refine ⟨K1, w1, t1, ds1, l1, f1, s1, r1, d1, ?_⟩
    cases x with
    | normal => exact Steps.head stepR_block (st1.trans (Steps.one stepR_inBlock))
    | exit id' =>
      obtain ⟨k1, hk, st1⟩ := st1
      by_cases hid : id' = id
      · subst hid
        simp only [if_true]
        have : exitTo id' k1 = some k := by rw [hk]; simp [exitTo]
        exact Steps.head stepR_block (st1.trans (Steps.one (stepR_exit this)))
      · rw [if_neg (fun h => hid (by injection h))]
        refine ⟨k1, ?_, Steps.head stepR_block st1⟩
        rw [hk]
        have : (id == id') = false := by simp; exact fun h => hid h.symm
        simp [exitTo, this]
    | ret => obtain ⟨k1, st1⟩ := st1; exact ⟨k1, Steps.head stepR_block st1⟩
  | @scope F c e H x e1 H1 _ ih =>
    intro K D ds w tmps b k cs hb hm hs he
    obtain ⟨K1, w1, t1, ds1, l1, f1, s1, r1, d1, st1⟩ := ih K D ds w tmps b (.inScope c :: k) cs hb hm hs he
    refine ⟨K1, w1, t1, ds1, l1, f1, s1, r1, d1, ?_⟩
    cases x with
    | normal => exact Steps.head stepR_scope (st1.trans (Steps.one stepR_inScope))
    | exit id => obtain ⟨k1, hk, st1⟩ := st1; exact ⟨k1, by rw [hk]; rfl, Steps.head stepR_scope st1⟩
    | ret => obtain ⟨k1, st1⟩ := st1; exact ⟨k1, Steps.head stepR_scope st1⟩
  | @loop F c e H e1 H1 x e2 H2 _ _ ih1 ih2 =>
    intro K D ds w tmps b k cs hb hm hs he
    obtain ⟨K1, w1, t1, ds1, l1, f1, s1, r1, d1, st1⟩ := ih1 K D ds w tmps b (.inLoop c :: k) cs hb hm hs he
    obtain ⟨K2, w2, t2, ds2, l2, f2, s2, r2, d2, st2⟩ := ih2 K1 D ds1 w1 t1 b k cs hb f1.1 s1 r1
    refine ⟨K2, w2, t2, ds2, l1.trans l2, f1.trans f2, s2, r2, fun hr => (d2 hr).trans (d1 hr), ?_⟩
    -- the second round begins at 'inLoop', not at 'loop'
    have h1 : Steps C.P (lone (b.atR { tmps, defers := ds.map mk } (.code (.loop c) :: k)) cs w) (lone (b.atR { tmps := t1, defers := ds1.map mk } (.code c :: .inLoop c :: k)) cs w1) :=
      (Steps.head stepR_loop st1).trans (Steps.one stepR_inLoop)
    have conv : ∀ m, Steps C.P (lone (b.atR { tmps := t1, defers := ds1.map mk } (.code (.loop c) :: k)) cs w1) m → m ≠ lone (b.atR { tmps := t1, defers := ds1.map mk } (.code (.loop c) :: k)) cs w1 → Steps C.P (lone (b.atR { tmps := t1, defers := ds1.map mk } (.code c :: .inLoop c :: k)) cs w1) m := by
      rintro m ⟨n, hn⟩ hne
      cases n with
      | zero => simp [runN] at hn; exact absurd hn.symm hne
      | succ n =>
        simp only [runN, stepR_loop] at hn
        exact ⟨n, hn⟩
    have todo_ne : ∀ (tm : Array Value) (dd : List Deferred) (items : List Item) (ww : World), items ≠ .code (.loop c) :: k → lone (b.atR { tmps := tm, defers := dd } items) cs ww ≠ lone (b.atR { tmps := t1, defers := ds1.map mk } (.code (.loop c) :: k)) cs w1 := by
      intro tm dd items ww hne heq
      have : (lone (b.atR { tmps := tm, defers := dd } items) cs ww).gs[0]? = (lone (b.atR { tmps := t1, defers := ds1.map mk } (.code (.loop c) :: k)) cs w1).gs[0]? := by rw [heq]
      simp [lone, Frame.atR] at this
      exact hne this.2.1
    cases x with
    | normal => exact h1.trans (conv _ st2 (todo_ne _ _ _ _ (fun h => by have := congrArg List.length h; simp at this)))
    | exit id => obtain ⟨k1, hk, st2⟩ := st2; exact ⟨k1, hk, h1.trans (conv _ st2 (todo_ne _ _ _ _ (fun h => by injection h with h _; injection h with h; cases h)))⟩
    | ret => obtain ⟨k1, st2⟩ := st2; exact ⟨k1, h1.trans (conv _ st2 (todo_ne _ _ _ _ (fun h => by injection h with h _; injection h with h; cases h)))⟩
  | @loopx F c e H x e1 H1 _ hx ih1 =>
    intro K D ds w tmps b k cs hb hm hs he
    obtain ⟨K1, w1, t1, ds1, l1, f1, s1, r1, d1, st1⟩ := ih1 K D ds w tmps b (.inLoop c :: k) cs hb hm hs he
    refine ⟨K1, w1, t1, ds1, l1, f1, s1, r1, d1, ?_⟩
    cases x with
    | normal => exact absurd rfl hx
    | exit id => obtain ⟨k1, hk, st1⟩ := st1; exact ⟨k1, by rw [hk]; rfl, Steps.head stepR_loop st1⟩
    | ret => obtain ⟨k1, st1⟩ := st1; exact ⟨k1, Steps.head stepR_loop st1⟩
  | @region F id ops draw e H H0 tr e1 H1 ha _ hd ih =>
    intro K D ds w tmps b k cs hb hm hs he
    obtain ⟨htl, rfl, rfl, hst⟩ := ih
    obtain ⟨hs0, hp0, hf0⟩ := Pend.start hs ha
    have hfrz : ∀ {K' : Kr} {H' : AH}, (H0.n ≤ H'.n ∧ ∀ j, j < H.n → K.β j = none → j < H0.n → K'.β j = none ∧ H'.g j = H0.g j) → FrzM F.m K H K' H' := by
      intro K' H' h
      refine Frz.low (?_ : Frz K H K' H') hm
      refine ⟨Nat.le_trans hf0.1 h.1, fun j hj hbj => ?_⟩
      obtain ⟨g1, g2⟩ := h.2 j hj hbj (Nat.lt_of_lt_of_le hj hf0.1)
      exact ⟨g1, g2.trans (hf0.2 j hj hbj).2⟩
    cases draw with
    | false =>
      obtain ⟨K', w', a', st, hle, hf, hs', hr', hdef⟩ := seq_sound (C := C) (N := F.N) (D := ds ++ D) (all := ops.toList) (base := H.n) b k cs ops.toList.length 0 e H0 tr K w { tmps, defers := ds.map mk } (by simp) htl
        (fun j o hj ho => by
          rw [Nat.zero_add] at ho
          obtain ⟨v, Hn, q1, q2, q3, q4⟩ := hst j o ho
          rw [List.drop_zero]
          exact ⟨v, Hn, q1, q3, q4.1 _ (fun _ _ => rfl)⟩) hs0 he (fun j o t _ ho ht => hp0 j o t trivial ho ht)
      rw [List.drop_zero] at hr'
      obtain ⟨tm', df'⟩ := a'
      simp only at hdef
      subst hdef
      refine ⟨K', w', tm', ds, hle.low, hfrz hf, hs', hr', fun _ => rfl, ?_⟩
      have hr : (List.range ops.toList.length).map (0 + ·) = List.range ops.size := by simp
      rw [hr] at st
      have st' : Steps C.P (lone (b.atR { tmps, defers := ds.map mk } (.inRegion ops (List.range ops.size) :: k)) cs w) (lone (b.atR { tmps := tm', defers := ds.map mk } (.inRegion ops [] :: k)) cs w') := by simpa using st
      exact Steps.head stepR_region (st'.trans (Steps.one stepR_region_end))
    | true =>
      obtain ⟨hreg, hstab⟩ := hd rfl
      have hL0 : ∀ j, (Array.replicate ops.size false).getD j false = false := by
        intro j
        rw [Array.getD_eq_getD_getElem?, Array.getElem?_replicate]
        split <;> rfl
      have hfun : (fun j => (Array.replicate ops.size false).getD j false) = fun _ => false := funext hL0
      have hnh0 : heapAt H0 tr (nh ops.toList (fun _ => false)) = H0 := by
        have hstay : ∀ j o, ops.toList[j]? = some o → isHeavy o = false → heapAt H0 tr (j + 1) = heapAt H0 tr j := by
          intro j o ho hh
          obtain ⟨v, Hn, q1, q2, q3, q4⟩ := hst j o ho
          rw [← q2]
          exact (q4.2 hh).1
        have := heap_stay (all := ops.toList) hstay (nh ops.toList (fun _ => false)) 0 (by have := nh_le ops.toList (fun _ => false); omega) (fun j o _ hj ho => by
          cases hh : isHeavy o with
          | false => rfl
          | true => have := nh_before ops.toList (fun _ => false) j o (by omega) ho hh; cases this)
        rw [Nat.zero_add] at this
        rw [this]
        cases tr <;> rfl
      have henv0 : envL e ops.toList tr (fun _ => false) = e := by
        have : (fun _ : Nat => false) = (fun j => decide (j < 0)) := by funext j; simp
        rw [this, ← envAt_envL]
        cases ops.toList <;> cases tr <;> rfl
      obtain ⟨K', w', a', st, hle, hf, hs', hr', hdef⟩ := draw_sound (C := C) (D := ds ++ D) (N := F.N) (all := ops.toList) (base := H.n) (e := e) (H := H0) (tr := tr) hreg hstab htl
        (fun j o ho => by
          obtain ⟨v, Hn, q1, q2, q3, q4⟩ := hst j o ho
          rw [Nat.zero_add] at q4
          exact ⟨v, Hn, q1, q2, q3, q4⟩) b k cs K (ds.map mk) ops.size (w.tape w.drawn (.order b.fn id)) (Array.replicate ops.size false) K { w with drawn := w.drawn + 1 } { tmps, defers := ds.map mk }
        (by simp) (by
          unfold cnt
          refine Nat.le_trans (List.length_filter_le _ _) (by simp)) (fun j o _ hL => by rw [hL0] at hL; cases hL)
        (by rw [hfun, hnh0]; exact hs0.drew) (by rw [hfun, henv0]; exact he) (by rw [hfun, hnh0]; exact fun j o t _ ho ht => hp0 j o t trivial ho ht) rfl (.refl K) (by rw [hfun, hnh0]; exact ⟨Nat.le_refl _, fun j _ hbj _ => ⟨hbj, rfl⟩⟩)
      obtain ⟨tm', df'⟩ := a'
      simp only at hdef
      subst hdef
      refine ⟨K', w', tm', ds, hle.low, hfrz hf, hs', hr', fun _ => rfl, ?_⟩
      have hstep := stepR_region_draw (P := C.P) (b := b) (a := { tmps, defers := ds.map mk }) (k := k) (cs := cs) (w := w) (ops := ops) (id := id)
      simp only [Region.schedule, hC.mixed, Bool.true_or, if_true] at hstep
      have st' : Steps C.P (lone (b.atR { tmps, defers := ds.map mk } (.inRegion ops (Region.linearise .any ops (w.tape w.drawn (.order b.fn id))) :: k)) cs { w with drawn := w.drawn + 1 }) (lone (b.atR { tmps := tm', defers := ds.map mk } (.inRegion ops [] :: k)) cs w') := by
        simpa [Region.linearise] using st
      exact Steps.head hstep (st'.trans (Steps.one stepR_region_end))
  | @rangeFunc F f params assign body e H fv v H1 R hr hf _ hg hst ih =>
    intro K D ds w tmps b k cs hb hm hs he
    have hro : b.roundOf = none := by
      rw [hr] at hb
      cases h : b.roundOf with
      | none => rfl
      | some l => rw [h] at hb; cases hb
    -- the two blocks
    have hs1 : Sat C K H (w.heap.size :: (ds ++ D)) (w.alloc (.deferred (some []))) := hs.addDef
    have hn := hs.β_n (Nat.le_refl H.n)
    have hle1 : K.le (K.bind H.n (w.heap.size + 1) (0, 0)) := Kr.bind_le hn
    obtain ⟨L, hLdef⟩ : ∃ L : Loop, L = { state := .ready, pending := none, fn := b.fn, tmps, params, assign, body, defers := w.heap.size } := ⟨_, rfl⟩
    have hsz1 : (w.alloc (.deferred (some []))).heap.size = w.heap.size + 1 := by simp
    have hs2 : Sat C (K.bind H.n (w.heap.size + 1) (0, 0)) (H.push (.loop { st := .ready, pend := .normal, N := F.N, tmps := e, params := params.toList, assign, body })) (w.heap.size :: (ds ++ D)) ((w.alloc (.deferred (some []))).alloc (.loop L)) := by
      refine hs1.make (.loop L) (id := H.n) hn (by simp [AH.push]) (by simp [AH.push]) (push_g H _) (fun i b' hb' => .inl (push_lt H _ (hs.obj i b' hb').2.2.1)) hle1 (fun i => by rw [hsz1]; rfl) (fun b' o _ => rfl) (fun o v' hv' => ?_) ?_
      · rw [show (K.bind H.n (w.heap.size + 1) (0, 0)).G _ o = K.G _ o from rfl, hs1.G_new] at hv'
        cases hv'
      · rw [hsz1]
        refine ⟨L, by rw [heap_alloc_at, hsz1, if_pos rfl], by rw [hLdef], by rw [hLdef]; rfl, ?_, by rw [hLdef], by rw [hLdef], by rw [hLdef], fun o => ?_⟩
        · rw [hLdef]; exact he.mono hle1
        · show K.G (w.heap.size + 1) o = none
          have := hs1.G_new o
          rwa [hsz1] at this
    have hf1 : Frz K H (K.bind H.n (w.heap.size + 1) (0, 0)) (H.push (.loop { st := .ready, pend := .normal, N := F.N, tmps := e, params := params.toList, assign, body })) := Frz.push hs _ _ _
    have hen : (Instr.enterLoop b.fn tmps params assign body b.roundOf).run C.P w = .ok (w.heap.size + 1, [mk w.heap.size]) ((w.alloc (.deferred (some []))).alloc (.loop L)) := by
      rw [hro, hLdef]
      simp only [Instr.enterLoop, Sem.run_bind, run_newObj, Result.andThen_ok, Sem.run_pure]
      simp only [Array.size_push]
      rfl
    have hfv : RepV (K.bind H.n (w.heap.size + 1) (0, 0)) fv (({ tmps, defers := ds.map mk } : Act).eval f) := (evalA_sound (a := { tmps, defers := ds.map mk }) hs he hf).mono hle1
    have hy : RepL (K.bind H.n (w.heap.size + 1) (0, 0)) [.yieldf H.n] (#[(.func (.yield (w.heap.size + 1)) #[] #[] : Value)] : Array Value).toList := .cons (.yieldf (by simp [Kr.bind])) (.nil _)
    obtain ⟨d, nx, hd, hi, hgo⟩ := ih _ _ _ _ _ hs2 hfv hy
    obtain ⟨fr0, hfr, K2, w2, vc, st, l2, f2, s2, hv2⟩ := hgo (b.atR { tmps, defers := [mk w.heap.size] ++ ds.map mk } (.inRangeFunc (w.heap.size + 1) :: k)) cs
    rw [finish_inRangeFunc] at st
    have hres : (resolve ({ tmps, defers := ds.map mk } : Act).eval (yieldCall f (w.heap.size + 1)) 0).run C.P ((w.alloc (.deferred (some []))).alloc (.loop L)) = .ok d ((w.alloc (.deferred (some []))).alloc (.loop L)) := by
      simpa [resolve, yieldCall, Act.eval] using hd
    have hbl : K2.β H.n = some (w.heap.size + 1) := l2.β _ _ (by simp [Kr.bind])
    obtain ⟨o1, o2, o3, o4⟩ := s2.obj H.n _ hbl
    rw [hg] at o4
    obtain ⟨L2, hL2, q1, q2, q3, q4, q5, q6, hG⟩ := o4
    have hend : (Instr.endLoop (w.heap.size + 1)).run C.P w2 = .ok R.pend.code (World.putObj' w2 (w.heap.size + 1) (.loop { L2 with state := .exhausted })) := by
      simp only [Instr.endLoop, Sem.run_bind, getLoop_run hL2, Result.andThen_ok]
      rw [if_neg (by rw [q1]; simpa using hst)]
      simp only [Sem.run_bind, run_setObj hL2 (fun _ _ _ => by simp), Result.andThen_ok, Sem.run_pure, q2]
    have s3 : Sat C K2 (H1.set H.n (.loop { R with st := .exhausted })) (w.heap.size :: (ds ++ D)) (World.putObj' w2 (w.heap.size + 1) (.loop { L2 with state := .exhausted })) :=
      s2.putLoop hbl hg hL2 rfl q2 rfl rfl rfl rfl rfl rfl rfl rfl rfl
    refine ⟨K2, _, tmps, w.heap.size :: ds, (hle1.trans l2).low, ((hf1.trans f2).trans (frz_set hbl _)).low hm, s3, (he.mono hle1).mono l2, (fun h => by rw [hr] at h; cases h), ?_⟩
    have st1 : Steps C.P (lone (b.atR { tmps, defers := ds.map mk } (.code (.rangeFunc f params assign body) :: k)) cs w) (lone (b.atR { tmps, defers := (w.heap.size :: ds).map mk } ((R.pend.code.map Item.code).toList ++ k)) cs (World.putObj' w2 (w.heap.size + 1) (.loop { L2 with state := .exhausted }))) := by
      have hlast := stepR_endLoop (P := C.P) (b := b) (a := { tmps, defers := (w.heap.size :: ds).map mk }) (k := k) (cs := cs) hend
      have hall := st.trans (Steps.one hlast)
      rcases hfr with ⟨g, as, rfl, rfl⟩ | ⟨l, g, tm, as, bd, rfl, rfl⟩
      · exact Steps.head (stepR_loopEnter hen hres hi) hall
      · exact Steps.head (stepR_loopRound hen hres hi) hall
    cases hp : R.pend with
    | normal => rw [hp] at st1; exact st1
    | exit id => rw [hp] at st1; exact ⟨k, rfl, st1⟩
    | ret => rw [hp] at st1; exact ⟨k, st1⟩
  | weaken hle _ ih =>
    intro K D ds w tmps b k cs hb hm hs he
    exact ih K D ds w tmps b k cs hb hm hs (he.weaken hle)
  | drop hle _ ih =>
    intro K D ds w tmps b k cs hb hm hs he
    obtain ⟨K1, w1, t1, ds1, l1, f1, s1, r1, d1, st1⟩ := ih K D ds w tmps b k cs hb hm hs he
    exact ⟨K1, w1, t1, ds1, l1, f1, s1, r1.weaken hle, d1, st1⟩
  | nil => exact ⟨rfl, rfl, rfl, fun j o h => by simp at h⟩
  | @cons N all base i o l e H v H1 tr e1 H2 hd _ _ ih1 ih2 =>
    obtain ⟨h1, h2, h3, h4⟩ := ih2
    refine ⟨by simp [h1], h2, h3, fun j o' ho' => ?_⟩
    cases j with
    | zero =>
      simp at ho'
      subst ho'
      exact ⟨v, H1, rfl, (by cases tr <;> rfl), hd, ih1 N⟩
    | succ j =>
      obtain ⟨v', Hn, q1, q2, q3, q4⟩ := h4 j o' (by simpa using ho')
      refine ⟨v', Hn, by simpa using q1, q2, q3, ?_⟩
      rw [show i + (j + 1) = i + 1 + j by omega]
      exact q4
  | @skipped all base i o e H hw =>
    intro N
    refine ⟨fun e2 h2 => step_skipped (by rw [← wantedA_congr h2]; exact hw), fun hh => ⟨rfl, fun e2 H2 h2 _ => step_skipped (by rw [← wantedA_congr h2]; exact hw)⟩⟩
  | @light all base i o e H v hw hh ha hl =>
    intro N
    refine ⟨fun e2 h2 => step_light hC (by rw [← wantedA_congr h2]; exact hw) (by rw [← lightA_congr (looks_ops h2)]; exact hl), fun _ => ⟨rfl, fun e2 H2 h2 hread => ?_⟩⟩
    refine step_light hC (by rw [← wantedA_congr h2]; exact hw) ?_
    rw [← lightA_congr (looks_ops h2)]
    cases hrd : isReading o with
    | true => rw [hread hrd hw]; exact hl
    | false => rw [lightA_heap (H := H) hrd]; exact hl
  | @alloc all base i o e H t d hw hop hd =>
    intro N
    exact ⟨fun e2 h2 => step_alloc hC (by rw [← wantedA_congr h2]; exact hw) hop, fun _ => ⟨rfl, fun e2 H2 h2 _ => step_alloc hC (by rw [← wantedA_congr h2]; exact hw) hop⟩⟩
  | @heavy all base i o e H v H1 wr hw hh hv =>
    intro N
    exact ⟨fun e2 h2 => step_heavy hC (by rw [← wantedA_congr h2]; exact hw) (by rw [← heavyA_congr (looks_ops h2)]; exact hv), (fun h => by rw [hh] at h; cases h)⟩
  | @apply all base i o e H f args ts fv vs v H1 hw hop hf hv _ ih =>
    intro N
    refine ⟨fun e2 h2 => ?_, (fun h => by unfold isHeavy at h; rw [hop] at h; cases h)⟩
    have hl := looks_ops (C := C) h2
    refine step_apply hC (by rw [← wantedA_congr h2]; exact hw) hop (fv := fv) (vs := vs) ?_ ?_ ih
    · rw [← hl f (by rw [hop]; simp [Op.operands, Call.operands])]; exact hf
    · rw [← evalsA_congr (fun x hx => hl x (by rw [hop]; simp [Op.operands, Call.operands]; simp at hx; exact .inr hx))]; exact hv
  | framed ρ ρ' _ hρ hO hfr hal har hv hn hrest ih => exact framed_sound hg ih hρ hO hfr hal har hv hn hrest
  | wkapp hw _ ih =>
    intro K D w fvC argsC hs hfv hargs
    exact ih K D w fvC argsC hs hfv (hw.rep hargs)
  | @func f first captured args H v H1 _ ih =>
    intro K D w fvC argsC hs hfv hargs
    cases hfv with
    | func xs ys h1 h2 p1 p2 =>
      have hx : RepL K first xs := ⟨h1, p1⟩
      have hyr : RepL K captured ys := ⟨h2, p2⟩
      have hall : RepL K (first ++ args ++ captured) (xs.toArray ++ argsC ++ ys.toArray).toList := by simpa using (hx.append hargs).append hyr
      · obtain ⟨⟨fn, c, hfn, hbody, hname⟩, ih⟩ := ih
        refine ⟨{ target := .fn (.func f) ys.toArray, args := xs.toArray ++ argsC }, .enter f (xs.toArray ++ argsC ++ ys.toArray), rfl, ?_, fun c cs => ⟨Frame.enter C.P f (xs.toArray ++ argsC ++ ys.toArray) .normal, .inl ⟨f, _, rfl, rfl⟩, ?_⟩⟩
        · simp only [invoke, callFunc, Sem.run_bind, run_program, Result.andThen_ok, hfn, hname, hbody]
          rfl
        · obtain ⟨K', w', fr, vc, st, _, hleave, hle, hf, hs', hr⟩ := ih K D w (xs.toArray ++ argsC ++ ys.toArray) (c :: cs) hs hall
          exact ⟨K', w', vc, st.trans (Steps.one (step_leave_returned hleave)), hle, hf, hs', hr⟩
  | @call f fn c args H x e1 H1 vs hfn hbody hname hlen _ hx hres ih =>
    refine ⟨⟨fn, c, hfn, hbody, hname⟩, ?_⟩
    intro K D w argsC cs hs hargs
    have hal : argsC.size = args.length := by have := hargs.1; simpa using this
    have hre : RepE K fn.ntmps (Env.args 0 args) (argsC ++ Array.replicate (fn.ntmps - argsC.size) undef) := by
      refine ⟨by simp; omega, fun j y hy => ?_⟩
      obtain ⟨v, hv, hr⟩ := args_env hargs 0 [] rfl (List.replicate (fn.ntmps - argsC.size) undef) j y hy
      refine ⟨v, ?_, hr⟩
      rw [← hv]
      simp [← Array.getElem?_toList]
    obtain ⟨K1, w1, t1, ds1, l1, f1, s1, r1, d1, st1⟩ := ih K D [] w _ { fn := f, tmps := #[], todo := [], defers := [], mode := .run, kind := .normal } [] cs rfl (Nat.le_refl _) (by simpa using hs) hre
    have hent := enter_atR (P := C.P) (args := argsC) hfn hbody
    -- to where the frame returns
    have hret : ∃ todo, Steps C.P (lone (Frame.enter C.P f argsC .normal) cs w) (lone { (({ fn := f, tmps := #[], todo := [], defers := [], mode := .run, kind := .normal } : Frame).atR { tmps := t1, defers := ds1.map mk } todo) with mode := .returning } cs w1) := by
      rw [hent]
      rcases hx with rfl | rfl
      · exact ⟨_, st1.trans (Steps.one (stepR_end rfl))⟩
      · obtain ⟨k1, st1⟩ := st1
        exact ⟨_, st1.trans (Steps.one (stepR_ret rfl))⟩
    obtain ⟨todo, hret⟩ := hret
    obtain ⟨w2, hun, s2⟩ := unwind_marks ds1 w1 { (({ fn := f, tmps := #[], todo := [], defers := [], mode := .run, kind := .normal } : Frame).atR { tmps := t1, defers := ds1.map mk } todo) with mode := .returning } cs s1 rfl rfl
    obtain ⟨u, hu, hur⟩ := results_sound (a := { tmps := t1, defers := [] }) hC s2 r1 hres
    exact ⟨K1, w2, _, u, hret.trans hun, rfl, ⟨rfl, rfl, rfl, fn, hfn, hu⟩, l1.full (fun i b hb => (hs.obj i b hb).2.2.1), ⟨f1.1, fun i hi hb => f1.2 i hi hb⟩, s2, hur⟩
  | @yield l args H e1 H1 e2 H2 x R R1 R2 hg hrd hlen hps _ hg1 hrd1 _ hg2 iha ihb =>
    intro K D w fvC argsC hs hfv hargs
    cases hfv with
    | yieldf hb =>
      rename_i b
      obtain ⟨o1, o2, o3, o4⟩ := hs.obj l b hb
      rw [hg] at o4
      obtain ⟨L, hL, q1, q2, q3, q4, q5, q6, hG⟩ := o4
      have hal : argsC.size = args.length := by have := hargs.1; simpa using this
      have hpl : L.params.size = R.params.length := by rw [← q4]; simp
      obtain ⟨tm, htm⟩ : ∃ tm, tm = (L.params.zip argsC).foldl (fun tmps (t, a) => tmps.setIfInBounds t a) L.tmps := ⟨_, rfl⟩
      refine ⟨{ target := .fn (.yield b) #[], args := argsC }, .round b L.fn tm L.assign L.body, by simp [Deferred.ofValue], ?_, fun c cs => ⟨Frame.round b L.fn tm L.assign L.body .normal, .inr ⟨b, L.fn, tm, L.assign, L.body, rfl, rfl⟩, ?_⟩⟩
      · simp only [invoke, Instr.yield, Sem.run_bind, getLoop_run hL, Result.andThen_ok]
        rw [if_neg (by omega), htm]
        rfl
      · have hre : RepE K R.N (R.tmps.sets (R.params.zip args)) tm := by
          have h1 : (R.params.zip args).map (·.1) = R.params := by rw [List.map_fst_zip]; omega
          have h2 : (R.params.zip args).map (·.2) = args := by rw [List.map_snd_zip]; omega
          have := setAll_rep (K := K) (N := R.N) (ps := R.params.zip args) (us := argsC.toList) q3 (fun p hp => by
            have hm := (List.of_mem_zip hp).1
            have := List.all_eq_true.1 hps _ hm
            simpa using this) (by rw [h2]; exact hargs)
          rw [h1] at this
          rw [htm]
          have e1 : (L.params.zip argsC).foldl (fun tmps (t, a) => tmps.setIfInBounds t a) L.tmps = (R.params.zip argsC.toList).foldl (fun tmps (t, a) => tmps.setIfInBounds t a) L.tmps := by
            rw [← Array.foldl_toList, Array.toList_zip, q4]
          rw [e1]
          exact this
        obtain ⟨bf, hbf⟩ : ∃ bf : Frame, bf = { fn := L.fn, tmps := #[], todo := [], defers := [], mode := .run, kind := .normal, roundOf := some b } := ⟨_, rfl⟩
        have hround : Frame.round b L.fn tm L.assign L.body .normal = bf.atR { tmps := tm, defers := [] } [.code L.assign, .beginRound, .code L.body] := by
          rw [hbf]; simp [Frame.round, Frame.atR]
        have hro : bf.roundOf = some b := by rw [hbf]
        have hki : bf.kind = .normal := by rw [hbf]
        obtain ⟨K1, w1, t1, ds1, l1, f1, s1, r1, d1, st1⟩ := iha K D [] w tm bf [.beginRound, .code L.body] (c :: cs) (by rw [hro]; rfl) (Nat.le_refl _) (by simpa using hs) hre
        have hds1 := d1 rfl
        subst hds1
        have hln : l < H.n := (hs.obj l b hb).2.2.1
        have hb1 : K1.β l = some b := l1.β _ _ hln hb
        obtain ⟨a1, a2, a3, a4⟩ := s1.obj l b hb1
        rw [hg1] at a4
        obtain ⟨L1, hL1, u1, u2, u3, u4, u5, u6, hG1⟩ := a4
        have hbeg : (Instr.beginRound b).run C.P w1 = .ok () (World.putObj' w1 b (.loop { L1 with state := .busy })) := by
          simp only [Instr.beginRound, Sem.run_bind, getLoop_run hL1, Result.andThen_ok]
          rw [run_setObj hL1 (fun _ _ _ => by simp)]
          simp only [Result.andThen_ok, u1, hrd1]
          rfl
        have s2 : Sat C K1 (H1.set l (.loop { R1 with st := .busy })) ([] ++ D) (World.putObj' w1 b (.loop { L1 with state := .busy })) := s1.putLoop hb1 hg1 hL1 rfl u2 rfl rfl rfl rfl rfl rfl rfl rfl rfl
        obtain ⟨K2, w2, t2, ds2, l2, f2, s3, r2, d2, st2⟩ := ihb K1 D [] _ t1 bf [] (c :: cs) (by rw [hro]; rfl) (by simpa [AH.set] using f1.1) s2 r1
        have hds2 := d2 rfl
        subst hds2
        have hb2 : K2.β l = some b := l2.β _ _ hln hb1
        obtain ⟨c1, c2, c3, c4⟩ := s3.obj l b hb2
        rw [hg2] at c4
        obtain ⟨L2, hL2, v1, v2, v3, v4, v5, v6, hG2⟩ := c4
        have hend : ∀ jump : Option Code, (Instr.endRound b jump).run C.P w2 = .ok (.bool jump.isNone) (World.putObj' w2 b (.loop { L2 with state := if jump.isNone then .ready else .done, pending := jump })) := by
          intro jump
          simp only [Instr.endRound, Sem.run_bind, getLoop_run hL2, Result.andThen_ok]
          rw [run_setObj hL2 (fun _ _ _ => by simp)]
          rfl
        have hst0 : Steps C.P (lone (Frame.round b L.fn tm L.assign L.body .normal) (c :: cs) w) (lone (bf.atR { tmps := t1, defers := [] } [.code L.body]) (c :: cs) (World.putObj' w1 b (.loop { L1 with state := .busy }))) := by
          rw [hround, q5]
          exact st1.trans (Steps.one (stepR_beginRound hro hbeg))
        rw [← q6] at st2
        have s4 : ∀ {L' : Loop}, L' = { L2 with state := if x.code.isNone then .ready else .done, pending := x.code } → Sat C K2 (H2.set l (.loop { R2 with st := (if x = .normal then .ready else .done), pend := x })) ([] ++ D) (World.putObj' w2 b (.loop L')) := by
          rintro L' rfl
          refine s3.putLoop hb2 hg2 hL2 ?_ rfl rfl rfl rfl rfl rfl rfl rfl rfl rfl
          cases x <;> rfl
        have hval : (x.code.isNone) = decide (x = .normal) := by cases x <;> rfl
        refine ⟨K2, _, .bool (decide (x = .normal)), ?_, (l1.trans l2).full (fun i b hb => (hs.obj i b hb).2.2.1), ⟨f2.1, fun i hi hbi => ?_⟩, s4 rfl, .bool _⟩
        rotate_left
        · obtain ⟨p1, p2⟩ := f1.2 i hi hbi
          obtain ⟨p3, p4⟩ := f2.2 i hi p1
          refine ⟨p3, ?_⟩
          have hil : i ≠ l := fun e => by rw [e, hb] at hbi; cases hbi
          simp only [AH.set] at p4 ⊢
          rw [if_neg hil] at p4 ⊢
          exact p4.trans p2
        refine hst0.trans ?_
        cases x with
        | normal => exact st2.trans (Steps.one (stepR_round_end hro hki (hend none)))
        | ret => obtain ⟨k1, st2⟩ := st2; exact st2.trans (Steps.one (stepR_round_ret hro hki (hend (some .ret))))
        | exit id => obtain ⟨k1, hk, st2⟩ := st2; exact st2.trans (Steps.one (stepR_round_exit hro hki (by rw [hk]; rfl) (hend (some (.exit id)))))
end ev
end Go.Abs
