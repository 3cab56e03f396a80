/- The walk of the routes that are yielded, over any yield. Conditions: what the yield does is told. -/
import Derived.Test.YtdlofkamkiojlaaDoorXGe
set_option maxRecDepth 100000
set_option maxHeartbeats 4000000
set_option linter.unusedVariables false
namespace Go.Abs
open Go
section
variable {P : AH → Prop} {C : Ctx} {F : Fr} {e e0 e1 : Env} {H H1 : AH} {Q : AX → Env → AH → Prop} {N base M i : Nat} {S : List Nat} {all l : List Oper} {o : Oper} {v : AV} {R : Env → AH → Prop}
theorem Wg.appH {f : Operand} {args : Array Operand} {ts : Array TypeId} {fv : AV} {vs : List AV} (hM : M ≤ i) (hd : dstOk N o.dst = true) (hw : wantedA all e o = some true) (hop : o.op = .call { callee := .value f, args, argTypes := ts })
    (hf : evalA C e f = some fv) (hv : evalsA C e args.toList = some vs) (hc : Ev C (.app fv vs H v H1)) (h : Wg P C N all base M S (i + 1) l (e.put o.dst v) H1 R) (hP : P H := by trivial) : Wg P C N all base M S i (o :: l) e H R :=
  Wg.stepH hM hd (.apply hw hop hf hv hc) (by unfold isReading; rw [hop]) h hP
theorem Wg.boxA {α : Type} {f : α → List AV} {xs : List α} {t : TypeId} {x : Operand} (hd : dstOk N o.dst = true) (hw : wantedA all e o = some true) (hop : o.op = .box t x) (hx : evalA C e x = some (.agg (eAr f xs))) (hone : ∀ a, (f a).all AV.one = true)
    (h : Wg P C N all base M S (i + 1) l (e.put o.dst (.ro (eAr f xs))) H R) : Wg P C N all base M S i (o :: l) e H R := by
  refine Wg.box hd hw (by unfold isHeavy; rw [hop]) ?_ h
  simp only [heavyA, hop, hx, AV.cells, eAr_ones hone xs]
  rfl
theorem Wp.iterH {T U : Type} (f : T → Option (T ⊕ U)) (E : T → Env) (I : T → AH → Prop) (Pt : U → AX → Env → AH → Prop) {c : Code}
    (hb : ∀ s o H, f s = some o → I s H → Wp C F c (E s) H fun x e H' => match o with
      | .inl s' => x = .normal ∧ Env.le (E s') e ∧ I s' H'
      | .inr t => x ≠ .normal ∧ Pt t x e H') : ∀ n s t H, iter f n s = some t → I s H → Wp C F (.loop c) (E s) H (Pt t) := by
  intro n
  induction n with
  | zero => intro s t H h; cases h
  | succ n ih =>
    intro s t H h hI
    obtain ⟨o, h1, h2⟩ := ob h
    obtain ⟨x, e', H', hev, hq⟩ := hb s o H h1 hI
    cases o with
    | inl s' =>
      obtain ⟨rfl, hle, hI'⟩ := hq
      obtain ⟨y, e2, H2, hev2, hq2⟩ := ih s' t H' h2 hI'
      exact ⟨y, e2, H2, .loop hev (.weaken hle hev2), hq2⟩
    | inr u =>
      injection h2 with h2
      subst h2
      obtain ⟨hx, hp⟩ := hq
      exact ⟨x, e', H', .loopx hev hx, hp⟩
/-- A variable that was just set is only read from here on. -/
theorem Sub.top {t : Nat} {L : List (Nat × AV)} {z cs : List AV} (hm : F.m ≤ H.n) (het : e t = some (.ptr H.n 0)) (hL : Env.le (Env.ofList L) e) : Sub C F (Env.ofList ((t, .ro cs) :: L)) (H.push .gone) e ((H.push (.cells z)).set H.n (.cells cs)) := by
  refine Sub.freeze (fun i => decide (i = H.n)) (fun i hi => ⟨by simp; omega, ?_⟩) (fun i v hv => ?_) rfl (fun i => ?_)
  · show (if i = H.n then AObj.gone else H.g i) = if i = H.n then AObj.cells cs else if i = H.n then .cells z else H.g i
    rw [if_neg (by omega), if_neg (by omega), if_neg (by omega)]
  · unfold Env.ofList Env.set at hv
    by_cases hi : i = t
    · rw [if_pos hi] at hv
      injection hv with hv
      subst hv; subst hi
      refine ⟨_, het, .ptr (k := cs.length) (cs := cs) (by simp) (by simp [AH.set]) (by omega) rfl fun j a a' h1 h2 => ?_⟩
      simp at h1
      rw [h1] at h2; injection h2 with h2; subst h2; exact .refl _
    · rw [if_neg hi] at hv
      exact ⟨v, hL i v hv, .refl _⟩
  · constructor
    · intro hi
      have : i = H.n := by simpa using hi
      show (if i = H.n then AObj.gone else H.g i) = .gone
      rw [if_pos this]
    · intro hi
      have : ¬ i = H.n := by simpa using hi
      left
      show (if i = H.n then AObj.gone else H.g i) = if i = H.n then AObj.cells cs else if i = H.n then .cells z else H.g i
      rw [if_neg this, if_neg this, if_neg this]
theorem top_at (H : AH) (o : AObj) : (H.push o).g H.n = o := by simp [AH.push]
end
end Go.Abs
namespace Go.Abs.Tr
open Go Go.Abs Go.Proofs

section routes
variable {S : Type}
/-- Legs of one place are tried. -/
def onLoop (N : Nat) (on : S → List Leg → List Bool → Int → Option (S × Bool)) (c : Calc) (som : List Leg) (met : List Bool) (l : List Leg) (q : S × Int) : Option ((S × Int) ⊕ (S ⊕ S)) :=
  if (decide (q.2 < (l.length : Int))) then
    (ix l q.2).bind fun x =>
    (inA 6 x.train).bind fun _ =>
    (ix met x.train).bind fun b =>
    if b then (ck (q.2 + 1)).bind fun i => some (.inl (q.1, i))
    else
      (lenC 6 met).bind fun _ =>
      (inA 6 x.train).bind fun _ =>
      (setA met x.train true).bind fun nx =>
      (sl som 0 (som.length : Int)).bind fun s0 =>
      (ap 24 s0 [x]).bind fun more =>
      (lenC 6 nx).bind fun _ =>
      (s92 N c x).bind fun st =>
      (on q.1 more nx st.station).bind fun r =>
      if (!r.2) then some (.inr (.inr r.1))
      else (ck (q.2 + 1)).bind fun i => some (.inl (r.1, i))
  else some (.inr (.inl q.1))
/-- All lists of so many legs from a station on are yielded. -/
def onS (N : Nat) (Y : S → List Leg → Option (S × Bool)) (c : Calc) (to many : Int) : Nat → S → List Leg → List Bool → Int → Option (S × Bool)
  | 0, _, _, _, _ => none
  | f + 1, s, som, met, at' =>
    if ((som.length : Int) == many) then
      if (!(at' == to)) then some (s, true) else Y s som
    else (iter (onLoop N (onS N Y c to many f) c som met (lk c.m at')) N (s, 0)).bind fun o => match o with
      | .inl s => some (s, true)
      | .inr s => some (s, false)
def itLoop (N : Nat) (Y : S → List Leg → Option (S × Bool)) (c : Calc) (frm to : Int) (q : S × Int) : Option ((S × Int) ⊕ S) :=
  if (decide (q.2 < 4)) then
    (s93 N).bind fun u =>
    (ck (q.2 + 1)).bind fun many =>
    (onS N Y c to many N q.1 [] u frm).bind fun r =>
    if (!r.2) then some (.inr r.1)
    else (ck (q.2 + 1)).bind fun i => some (.inl (r.1, i))
  else some (.inr q.1)
/-- All routes are yielded. -/
def itS (N : Nat) (Y : S → List Leg → Option (S × Bool)) (c : Calc) (frm to : Int) (s : S) : Option S := iter (itLoop N Y c frm to) N (s, 0)

def vOn (c : Calc) (to : Int) (l L : Nat) : AV := .func 104 [] [.ro [.int .i64 to], .ro [.yieldf l], .ro (eCalc c), .ptr L 0]
def InvR (L : Nat) (Hf : S → AH) (vo : AV) (s : S) (H : AH) : Prop := (∀ i, i < L → H.g i = (Hf s).g i) ∧ H.g L = .cells [vo] ∧ L + 1 ≤ H.n
def YieldOk (L l : Nat) (Hf : S → AH) (Y : S → List Leg → Option (S × Bool)) : Prop := ∀ s x s' b H, Y s x = some (s', b) → (∀ i, i < L → H.g i = (Hf s).g i) → L ≤ H.n →
  ∃ H', (∀ i, i < L → H'.g i = (Hf s').g i) ∧ (∀ i, L ≤ i → H'.g i = H.g i) ∧ H'.n = H.n ∧ Ev ctx (.app (.yieldf l) [lst eLeg x .unk] H (.bool b) H')
theorem InvR.push {L : Nat} {Hf : S → AH} {vo : AV} {s : S} {H : AH} (h : InvR L Hf vo s H) (o : AObj) : InvR L Hf vo s (H.push o) := by
  obtain ⟨h1, h2, h3⟩ := h
  refine ⟨fun i hi => ?_, ?_, by show L + 1 ≤ H.n + 1; omega⟩
  · rw [push_lt H o (by omega)]; exact h1 i hi
  · rw [push_lt H o (by omega)]; exact h2
theorem ldOn {e : Env} {H : AH} {o : Oper} {x : Operand} {L : Nat} {vo : AV} (hop : o.op = .load 141 x) (hx : evalA ctx e x = some (.ptr L 0)) (h : H.g L = .cells [vo]) : lightA ctx e H o = some vo := by
  simp only [lightA, hop, T141, hx, loadA, h]
  rfl
abbrev F104 (m : Nat) : Fr := { r := false, N := 64, m := m }
theorem at104 : ctx.P.funcs[104]? = some Tryd.f104 := by kernel_rfl

theorem on_ev {N L l : Nat} {Hf : S → AH} {Y : S → List Leg → Option (S × Bool)} (hY : YieldOk L l Hf Y) (c : Calc) (to many : Int) : ∀ (f : Nat) (s : S) (som : List Leg) (met : List Bool) (at' : Int) (s' : S) (b : Bool), onS N Y c to many f s som met at' = some (s', b) →
    ∀ H, InvR L Hf (vOn c to l L) s H → ∃ H', InvR L Hf (vOn c to l L) s' H' ∧ H.n ≤ H'.n ∧
      Ev ctx (.call 104 [lst eLeg som .unk, .agg (eAr eBool met), .int .i64 at', .int .i64 many, .ro [.int .i64 to], .ro [.yieldf l], .ro (eCalc c), .ptr L 0] H (.bool b) H') := by
  intro f
  induction f with
  | zero => intro s som met at' s' b h; cases h
  | succ f ih =>
    intro s som met at' s' b h H hI
    unfold onS at h
    have key : Wp ctx (F104 H.n) (Tryd.f104.body.get rfl) (Env.args 0 [lst eLeg som .unk, .agg (eAr eBool met), .int .i64 at', .int .i64 many, .ro [.int .i64 to], .ro [.yieldf l], .ro (eCalc c), .ptr L 0]) H
        fun x e' H' => x = .ret ∧ InvR L Hf (vOn c to l L) s' H' ∧ H.n ≤ H'.n ∧ ∃ vs, resA ctx e' H' [.tmp 12] = some vs ∧ retA vs = .bool b := by
      show Wp ctx (F104 H.n) (.seq _ _) _ _ _
      refine Wp.seq ?_
      refine Wp.reg rfl ?_
      refine Wg.boxA (f := eBool) (xs := met) rfl rfl rfl rfl (fun _ => rfl) ?_
      refine Wg.li rfl rfl rfl rfl (fun _ => rfl) ?_
      refine Wg.nil ⟨fun _ => ?_, fun h => absurd rfl h⟩
      refine Wp.scope ?_
      repeat refine Wp.seq ?_
      refine Wp.reg rfl ?_
      iterate 4 refine Wg.li rfl rfl rfl rfl (fun _ => rfl) ?_
      refine Wg.nil ⟨fun _ => ?_, fun h => absurd rfl h⟩
      repeat refine Wp.seq ?_
      refine Wp.cond ((som.length : Int) == many) rfl (fun hb => ?_) (fun hb => ?_)
      · have h := iT h hb
        repeat refine Wp.seq ?_
        refine Wp.reg rfl ?_
        iterate 4 refine Wg.li rfl rfl rfl rfl (fun _ => rfl) ?_
        cases hb2 : (at' == to) with
        | false =>
          have h := iT h (by rw [hb2]; rfl)
          injection h with h
          injection h with h1 h2
          subst h1; subst h2
          iterate 3 refine Wg.skip rfl rfl ?_
          iterate 2 refine Wg.li rfl rfl rfl rfl (fun _ => rfl) ?_
          refine Wg.nil ⟨fun _ => ?_, fun h => absurd rfl h⟩
          refine Wp.ret ?_
          repeat refine ⟨fun h => absurd h (by decide), fun _ => ?_⟩
          exact ⟨rfl, hI, Nat.le_refl _, _, rfl, rfl⟩
        | true =>
          have h := iF h (by rw [hb2]; rfl)
          iterate 2 refine Wg.li rfl rfl rfl rfl (fun _ => rfl) ?_
          obtain ⟨H', h1, h2, h3, hev⟩ := hY s som s' b H h hI.1 (by have := hI.2.2; omega)
          refine Wg.appH (Nat.le_of_ble_eq_true rfl) rfl rfl rfl rfl rfl hev ?_
          iterate 2 refine Wg.li rfl rfl rfl rfl (fun _ => rfl) ?_
          refine Wg.nil ⟨fun _ => ?_, fun h => absurd rfl h⟩
          refine Wp.ret ?_
          repeat refine ⟨fun h => absurd h (by decide), fun _ => ?_⟩
          exact ⟨rfl, ⟨h1, by rw [h2 L (Nat.le_refl _)]; exact hI.2.1, by have := hI.2.2; omega⟩, by omega, _, rfl, rfl⟩
      · have h := iF h hb
        refine Wp.skip ⟨fun _ => ?_, fun h => absurd rfl h⟩
        repeat refine Wp.seq ?_
        refine Wp.label ⟨fun _ => ?_, fun h => absurd rfl h⟩
        repeat refine Wp.seq ?_
        refine Wp.reg rfl ?_
        iterate 3 refine Wg.li rfl rfl rfl rfl (fun _ => rfl) ?_
        refine Wg.look (f := eLeg) (m := c.m) (k := at') rfl rfl rfl rfl rfl rfl rfl rfl rfl ?_
        iterate 2 refine Wg.li rfl rfl rfl rfl (fun _ => rfl) ?_
        refine Wg.nil ⟨fun _ => ?_, fun h => absurd rfl h⟩
        repeat refine Wp.seq ?_
        refine Wp.block ?_
        obtain ⟨ol, hx, h⟩ := ob h
        have hE : ∀ (cp : Cap) (e : Env), (∀ t v, Env.ofList [(0, lst eLeg som .unk), (3, .int .i64 many), (6, .ro (eCalc c)), (7, .ptr L 0), (9, .ro (eAr eBool met)), (31, lst eLeg (lk c.m at') cp), (32, .int .i64 ((lk c.m at').length : Int)), (33, .int .i64 0)] t = some v → e t = some v) →
            EnvFz H e [(0, lst eLeg som .unk), (3, .int .i64 many), (6, .ro (eCalc c)), (7, .ptr L 0), (9, .ro (eAr eBool met)), (31, lst eLeg (lk c.m at') .unk), (32, .int .i64 ((lk c.m at').length : Int)), (33, .int .i64 0)] := fun cp e he =>
          .same (he _ _ rfl) (.same (he _ _ rfl) (.same (he _ _ rfl) (.same (he _ _ rfl) (.same (he _ _ rfl) (.unk (c := cp) (he _ _ rfl) (.same (he _ _ rfl) (.same (he _ _ rfl) .nil)))))))
        refine Sub.fz (hE _ _ (Env.le_cons rfl (Env.le_cons rfl (Env.le_cons rfl (Env.le_cons rfl (Env.le_cons rfl (Env.le_cons rfl (Env.le_cons rfl (Env.le_cons rfl Env.le_nil))))))))) _ _ ?_
        refine Wp.after (Wp.iterH (onLoop N (onS N Y c to many f) c som met (lk c.m at'))
          (fun q => Env.ofList [(0, lst eLeg som .unk), (3, .int .i64 many), (6, .ro (eCalc c)), (7, .ptr L 0), (9, .ro (eAr eBool met)), (31, lst eLeg (lk c.m at') .unk), (32, .int .i64 ((lk c.m at').length : Int)), (33, .int .i64 q.2)])
          (fun q H' => InvR L Hf (vOn c to l L) q.1 H' ∧ H.n ≤ H'.n)
          (fun o x e' H' => match o with
            | .inl s => x = .exit 0 ∧ InvR L Hf (vOn c to l L) s H' ∧ H.n ≤ H'.n
            | .inr s => x = .ret ∧ InvR L Hf (vOn c to l L) s H' ∧ H.n ≤ H'.n ∧ ∃ vs, resA ctx e' H' [.tmp 12] = some vs ∧ retA vs = .bool false) ?_ N (s, 0) _ H hx ⟨hI, Nat.le_refl _⟩) ?_
        · rintro ⟨s, j⟩ o H ho ⟨hI, hn⟩
          rename_i H00
          unfold onLoop at ho
          simp only at ho hI hn
          repeat refine Wp.seq ?_
          refine Wp.reg rfl ?_
          refine Wg.li rfl rfl rfl rfl (fun _ => rfl) ?_
          refine Wg.nil ⟨fun _ => ?_, fun h => absurd rfl h⟩
          repeat refine Wp.seq ?_
          refine Wp.cond (decide (j < ((lk c.m at').length : Int))) rfl (fun hb => ?_) (fun hb => ?_)
          · have ho := iT ho hb
            obtain ⟨x, hx, ho⟩ := ob ho
            refine Wp.skip ⟨fun _ => ?_, fun h => absurd rfl h⟩
            repeat refine Wp.seq ?_
            refine Wp.block ?_
            repeat refine Wp.seq ?_
            refine Wp.reg rfl ?_
            refine Wg.idx (f := eLeg) (xs := lk c.m at') (c := .unk) rfl rfl rfl rfl rfl rfl rfl lLeg (by decide) hx ?_
            refine Wg.li rfl rfl rfl rfl (fun _ => rfl) ?_
            refine Wg.alloc rfl rfl rfl rfl ?_
            refine stW (id := H.n) (a := .agg (eLeg x)) (cs := ty80.zero) (Nat.le_of_ble_eq_true rfl) rfl rfl rfl rfl rfl rfl rfl rfl (top_at H _) rfl ?_
            refine Wg.nil ⟨fun _ => ?_, fun h => absurd rfl h⟩
            refine Sub.top (t := 14) (cs := eLeg x) (L := [(0, lst eLeg som .unk), (3, .int .i64 many), (6, .ro (eCalc c)), (7, .ptr L 0), (9, .ro (eAr eBool met)), (31, lst eLeg (lk c.m at') .unk), (32, .int .i64 ((lk c.m at').length : Int)), (33, .int .i64 j)]) hn rfl (Env.le_cons rfl (Env.le_cons rfl (Env.le_cons rfl (Env.le_cons rfl (Env.le_cons rfl (Env.le_cons rfl (Env.le_cons rfl (Env.le_cons rfl Env.le_nil)))))))) _ _ ?_
            have hI1 := hI.push .gone
            have hn1 : (H.push .gone).n = H.n + 1 := rfl
            generalize H.push .gone = H1 at hI1 hn1 ⊢
            repeat refine Wp.seq ?_
            refine Wp.reg rfl ?_
            iterate 2 refine Wg.li rfl rfl rfl rfl (fun _ => rfl) ?_
            obtain ⟨u1, hu1, ho⟩ := ob ho
            refine Wg.idxR (f := eBool) (xs := met) rfl rfl rfl rfl rfl rfl rfl hu1 ?_
            obtain ⟨bb, hbb, ho⟩ := ob ho
            refine Wg.ldR (f := eBool) (xs := met) (j := x.train) rfl rfl rfl rfl rfl rfl rfl lBool rfl hbb ?_
            refine Wg.nil ⟨fun _ => ?_, fun h => absurd rfl h⟩
            repeat refine Wp.seq ?_
            refine Wp.cond bb rfl (fun hb2 => ?_) (fun hb2 => ?_)
            · have ho := iT ho hb2
              obtain ⟨j1, hj1, ho⟩ := ob ho
              injection ho with ho
              subst ho
              refine Wp.exit ?_
              repeat refine ⟨fun h => absurd h (by decide), fun _ => ?_⟩
              refine ⟨fun _ => ?_, fun h => absurd (by decide) h⟩
              refine Wp.reg rfl ?_
              refine Wg.bin (k := .i64) (k2 := .i64) (a := j) (b := 1) rfl rfl rfl rfl rfl (bAdd hj1) ?_
              refine Wg.li rfl rfl rfl rfl (fun _ => rfl) ?_
              exact Wg.nil ⟨rfl, (Env.le_cons rfl (Env.le_cons rfl (Env.le_cons rfl (Env.le_cons rfl (Env.le_cons rfl (Env.le_cons rfl (Env.le_cons rfl (Env.le_cons rfl Env.le_nil)))))))), hI1, by omega⟩
            · have ho := iF ho hb2
              refine Wp.skip ⟨fun _ => ?_, fun h => absurd rfl h⟩
              obtain ⟨u2, hu2, ho⟩ := ob ho
              obtain ⟨u3, hu3, ho⟩ := ob ho
              obtain ⟨nx, hnx, ho⟩ := ob ho
              obtain ⟨s0, hs0, ho⟩ := ob ho
              obtain ⟨more, hmore, ho⟩ := ob ho
              obtain ⟨u4, hu4, ho⟩ := ob ho
              obtain ⟨st, hst, ho⟩ := ob ho
              obtain ⟨r, hr, ho⟩ := ob ho
              repeat refine Wp.seq ?_
              refine Wp.reg rfl ?_
              refine Wg.ldAR (f := eBool) (xs := met) rfl rfl rfl rfl rfl rfl rfl lBool hu2 ?_
              refine Wg.alloc rfl rfl rfl rfl ?_
              refine Wg.stA (f := eBool) (id := H1.n) (xs := List.replicate 6 false) (ys := met) (Nat.le_of_ble_eq_true rfl) rfl rfl rfl rfl rfl rfl rfl (fun _ => rfl) (top_at H1 _) lBool hu2 rfl ?_
              refine Wg.nil ⟨fun _ => ?_, fun h => absurd rfl h⟩
              repeat refine Wp.seq ?_
              refine Wp.reg rfl ?_
              iterate 2 refine Wg.li rfl rfl rfl rfl (fun _ => rfl) ?_
              refine Wg.idxP (id := H1.n) (off := 0) rfl rfl rfl rfl rfl rfl rfl hu3 ?_
              refine Wg.stP (f := eBool) (id := H1.n) (xs := met) (a := true) (j := x.train) (Nat.le_of_ble_eq_true rfl) rfl rfl rfl rfl rfl rfl rfl rfl rfl (by simp) (by simp [AH.set]) lBool hnx ?_
              refine Wg.nil ⟨fun _ => ?_, fun h => absurd rfl h⟩
              have hset : ∀ A B, ((H1.push (.cells ty129.zero)).set H1.n A).set H1.n B = (H1.push (.cells ty129.zero)).set H1.n B := by
                intro A B
                unfold AH.set
                simp only [AH.mk.injEq, true_and]
                funext q
                split
                · rfl
                · rfl
              rw [hset]
              refine Sub.top (t := 15) (cs := eAr eBool nx) (L := [(0, lst eLeg som .unk), (3, .int .i64 many), (6, .ro (eCalc c)), (7, .ptr L 0), (9, .ro (eAr eBool met)), (14, .ro (eLeg x)), (31, lst eLeg (lk c.m at') .unk), (32, .int .i64 ((lk c.m at').length : Int)), (33, .int .i64 j)]) (Nat.le_trans hn (by omega)) rfl (Env.le_cons rfl (Env.le_cons rfl (Env.le_cons rfl (Env.le_cons rfl (Env.le_cons rfl (Env.le_cons rfl (Env.le_cons rfl (Env.le_cons rfl (Env.le_cons rfl Env.le_nil))))))))) _ _ ?_
              have hI2 := hI1.push .gone
              have hn2 : (H1.push .gone).n = H1.n + 1 := rfl
              generalize H1.push .gone = H2 at hI2 hn2 ⊢
              repeat refine Wp.seq ?_
              refine Wp.drwP (fun H => H.g L = .cells [vOn c to l L]) _ [0, 7, 10, 11, 12] rfl (by kernel_rfl) (Nat.le_refl _) ?_
              refine Wg.lp rfl rfl rfl rfl (fun H' h => ldOn rfl rfl h) hI2.2.1 ?_
              iterate 5 refine Wg.li rfl rfl rfl rfl (fun _ => rfl) ?_
              refine Wg.sl3 (f := eLeg) (xs := som) (c := .unk) (a := 0) (b := (som.length : Int)) rfl rfl rfl rfl rfl rfl none rfl rfl rfl (.inl ⟨rfl, rfl⟩) hs0 lLeg (by decide) ?_
              iterate 2 refine Wg.li rfl rfl rfl rfl (fun _ => rfl) ?_
              refine Wg.appF (f := eLeg) (xs := s0) (ys := [x]) (zs := more) (c2 := .full) (Nat.le_of_ble_eq_true rfl) rfl rfl rfl rfl rfl rfl rfl rfl rfl lLeg (by decide) (by decide) (by simp) hmore ?_ hI2.2.1
              have hI3 := hI2.push (ownT more)
              have hn3 : (H2.push (ownT more)).n = H2.n + 1 := rfl
              generalize H2.push (ownT more) = H3 at hI3 hn3 ⊢
              refine Wg.ldAR (f := eBool) (xs := nx) rfl rfl rfl rfl rfl rfl rfl lBool hu4 ?_
              iterate 2 refine Wg.li rfl rfl rfl rfl (fun _ => rfl) ?_
              refine Wg.call rfl rfl rfl rfl (s92_ev hst _) ?_
              iterate 2 refine Wg.li rfl rfl rfl rfl (fun _ => rfl) ?_
              obtain ⟨s1, b1⟩ := r
              obtain ⟨H4, hI4, hn4, hev⟩ := ih s more nx st.station s1 b1 hr H3 hI3
              refine Wg.appH (Nat.le_of_ble_eq_true rfl) rfl rfl rfl rfl rfl (.wkapp (.cons (.unk (.refl _)) (.cons (.refl _) (.cons (.refl _) (.cons (.refl _) .nil)))) (.func hev)) ?_ hI3.2.1
              refine Wg.li rfl rfl rfl rfl (fun _ => rfl) ?_
              refine Wg.nil ⟨fun _ => ?_, fun h => absurd rfl h⟩ hI4.2.1
              refine Wp.cond (!b1) rfl (fun hb3 => ?_) (fun hb3 => ?_)
              · have ho := iT ho hb3
                injection ho with ho
                subst ho
                repeat refine Wp.seq ?_
                refine Wp.reg rfl ?_
                refine Wg.li rfl rfl rfl rfl (fun _ => rfl) ?_
                refine Wg.nil ⟨fun _ => ?_, fun h => absurd rfl h⟩
                refine Wp.ret ?_
                repeat refine ⟨fun h => absurd h (by decide), fun _ => ?_⟩
                exact ⟨by decide, by decide, hI4, by omega, _, rfl, rfl⟩
              · have ho := iF ho hb3
                obtain ⟨j1, hj1, ho⟩ := ob ho
                injection ho with ho
                subst ho
                refine Wp.skip ?_
                repeat refine ⟨fun h => absurd h (by decide), fun _ => ?_⟩
                refine ⟨fun _ => ?_, fun h => absurd (by decide) h⟩
                refine Wp.reg rfl ?_
                refine Wg.bin (k := .i64) (k2 := .i64) (a := j) (b := 1) rfl rfl rfl rfl rfl (bAdd hj1) ?_
                refine Wg.li rfl rfl rfl rfl (fun _ => rfl) ?_
                exact Wg.nil ⟨rfl, (Env.le_cons rfl (Env.le_cons rfl (Env.le_cons rfl (Env.le_cons rfl (Env.le_cons rfl (Env.le_cons rfl (Env.le_cons rfl (Env.le_cons rfl Env.le_nil)))))))), hI4, by omega⟩
          · have ho := iF ho hb
            injection ho with ho
            subst ho
            refine Wp.exit ?_
            repeat refine ⟨fun h => absurd h (by decide), fun _ => ?_⟩
            exact ⟨by decide, by decide, hI, hn⟩
        · intro x e' H' hP
          rcases ol with s2 | s2
          · injection h with h
            injection h with h1 h2
            subst h1; subst h2
            obtain ⟨rfl, hI', hn'⟩ := hP
            refine ⟨fun _ => ?_, fun h => absurd (by decide) h⟩
            repeat refine Wp.seq ?_
            refine Wp.reg rfl ?_
            refine Wg.li rfl rfl rfl rfl (fun _ => rfl) ?_
            refine Wg.nil ⟨fun _ => ?_, fun h => absurd rfl h⟩
            refine Wp.ret ?_
            repeat refine ⟨fun h => absurd h (by decide), fun _ => ?_⟩
            exact ⟨by decide, hI', hn', _, rfl, rfl⟩
          · injection h with h
            injection h with h1 h2
            subst h1; subst h2
            obtain ⟨rfl, hI', hn', vs, hr1, hr2⟩ := hP
            repeat refine ⟨fun h => absurd h (by decide), fun _ => ?_⟩
            exact ⟨by decide, hI', hn', vs, hr1, hr2⟩
    obtain ⟨x, e', H', hev, hx, hI', hn, vs, hr, hv⟩ := key
    refine ⟨H', hI', hn, ?_⟩
    rw [← hv]
    exact .call at104 rfl rfl (Nat.le_of_ble_eq_true rfl) hev (.inr hx) hr
abbrev F103 (m : Nat) : Fr := { r := false, N := 19, m := m }
theorem at103 : ctx.P.funcs[103]? = some Tryd.f103 := by kernel_rfl
theorem routes_it {N L l : Nat} {Hf : S → AH} {Y : S → List Leg → Option (S × Bool)} (hY : YieldOk L l Hf Y) (c : Calc) (frm to : Int) {s s' : S} (hL : (Hf s).n = L) (h : itS N Y c frm to s = some s') :
    ∃ H', (∀ i, i < L → H'.g i = (Hf s').g i) ∧ L ≤ H'.n ∧ Ev ctx (.app (.func 103 [] [.ro [.int .i64 to], .ro (eCalc c), .ro [.int .i64 frm]]) [.yieldf l] (Hf s) (.tuple []) H') := by
  unfold itS at h
  have key : Wp ctx (F103 (Hf s).n) (Tryd.f103.body.get rfl) (Env.args 0 [.yieldf l, .ro [.int .i64 to], .ro (eCalc c), .ro [.int .i64 frm]]) (Hf s)
      fun x e' H' => (x = .normal ∨ x = .ret) ∧ (∀ i, i < L → H'.g i = (Hf s').g i) ∧ L ≤ H'.n := by
    show Wp ctx (F103 (Hf s).n) (.seq _ _) _ _ _
    repeat refine Wp.seq ?_
    refine Wp.reg rfl ?_
    refine Wg.box rfl rfl rfl rfl ?_
    refine Wg.nil ⟨fun _ => ?_, fun h => absurd rfl h⟩
    repeat refine Wp.seq ?_
    refine Wp.reg rfl ?_
    refine Wg.alloc rfl rfl rfl rfl ?_
    refine Wg.nil ⟨fun _ => ?_, fun h => absurd rfl h⟩
    repeat refine Wp.seq ?_
    refine Wp.reg rfl ?_
    refine Wg.li rfl rfl rfl rfl (fun _ => rfl) ?_
    refine stW (id := (Hf s).n) (a := .func 104 [] [.ro [.int .i64 to], .ro [.yieldf l], .ro (eCalc c), .ptr (Hf s).n 0]) (cs := [.nilFunc]) (Nat.le_of_ble_eq_true rfl) rfl rfl rfl rfl rfl rfl rfl rfl (top_at _ _) rfl ?_
    refine Wg.nil ⟨fun _ => ?_, fun h => absurd rfl h⟩
    repeat refine Wp.seq ?_
    refine Wp.reg rfl ?_
    refine Wg.li rfl rfl rfl rfl (fun _ => rfl) ?_
    refine Wg.nil ⟨fun _ => ?_, fun h => absurd rfl h⟩
    repeat refine Wp.seq ?_
    refine Wp.block ?_
    have hI : InvR L Hf (vOn c to l L) s (((Hf s).push (.cells [.nilFunc])).set (Hf s).n (.cells [.func 104 [] [.ro [.int .i64 to], .ro [.yieldf l], .ro (eCalc c), .ptr (Hf s).n 0]])) := by
      refine ⟨fun i hi => ?_, ?_, ?_⟩
      · simp only [AH.set, AH.push]; rw [if_neg (by omega), if_neg (by omega)]
      · simp only [AH.set]; rw [if_pos hL.symm, hL]; rfl
      · show L + 1 ≤ (Hf s).n + 1; omega
    refine Sub.le (e0 := Env.ofList [(3, .ro [.int .i64 frm]), (5, .ptr L 0), (8, .int .i64 0)]) (Env.le_cons rfl (Env.le_cons (by rw [← hL]; rfl) (Env.le_cons rfl Env.le_nil))) _ _ ?_
    refine Wp.after (Wp.iterH (itLoop N Y c frm to) (fun q => Env.ofList [(3, .ro [.int .i64 frm]), (5, .ptr L 0), (8, .int .i64 q.2)]) (fun q H' => InvR L Hf (vOn c to l L) q.1 H')
      (fun s x e' H' => (x = .exit 0 ∨ x = .ret) ∧ InvR L Hf (vOn c to l L) s H') ?_ N (s, 0) _ _ h hI) ?_
    · rintro ⟨s, j⟩ o H ho hI
      unfold itLoop at ho
      simp only at ho hI
      repeat refine Wp.seq ?_
      refine Wp.reg rfl ?_
      refine Wg.li rfl rfl rfl rfl (fun _ => rfl) ?_
      refine Wg.nil ⟨fun _ => ?_, fun h => absurd rfl h⟩
      repeat refine Wp.seq ?_
      refine Wp.cond (decide (j < 4)) rfl (fun hb => ?_) (fun hb => ?_)
      · have ho := iT ho hb
        obtain ⟨u, hu, ho⟩ := ob ho
        obtain ⟨many, hmany, ho⟩ := ob ho
        obtain ⟨r, hr, ho⟩ := ob ho
        obtain ⟨s1, b1⟩ := r
        refine Wp.skip ⟨fun _ => ?_, fun h => absurd rfl h⟩
        repeat refine Wp.seq ?_
        refine Wp.block ?_
        repeat refine Wp.seq ?_
        refine Wp.reg rfl ?_
        iterate 2 refine Wg.li rfl rfl rfl rfl (fun _ => rfl) ?_
        refine Wg.nil ⟨fun _ => ?_, fun h => absurd rfl h⟩
        repeat refine Wp.seq ?_
        refine Wp.drw _ [2] rfl (by kernel_rfl) (Nat.le_refl _) ?_
        refine Wg.ld rfl rfl rfl rfl (ldOn rfl rfl hI.2.1) rfl ?_
        refine Wg.call rfl rfl rfl rfl (s93_ev hu _) ?_
        iterate 2 refine Wg.li rfl rfl rfl rfl (fun _ => rfl) ?_
        refine Wg.bin (k := .i64) (k2 := .i64) (a := j) (b := 1) rfl rfl rfl rfl rfl (bAdd hmany) ?_
        obtain ⟨H4, hI4, hn4, hev⟩ := on_ev hY c to many N s [] u frm s1 b1 hr H hI
        refine Wg.appH (Nat.le_of_ble_eq_true rfl) rfl rfl rfl rfl rfl (.wkapp (.cons (.unk (.refl _)) (.cons (.refl _) (.cons (.refl _) (.cons (.refl _) .nil)))) (.func hev)) ?_
        refine Wg.li rfl rfl rfl rfl (fun _ => rfl) ?_
        refine Wg.nil ⟨fun _ => ?_, fun h => absurd rfl h⟩
        refine Wp.cond (!b1) rfl (fun hb3 => ?_) (fun hb3 => ?_)
        · have ho := iT ho hb3
          injection ho with ho
          subst ho
          refine Wp.ret ?_
          repeat refine ⟨fun h => absurd h (by decide), fun _ => ?_⟩
          exact ⟨by decide, .inr (by decide), hI4⟩
        · have ho := iF ho hb3
          obtain ⟨j1, hj1, ho⟩ := ob ho
          injection ho with ho
          subst ho
          refine Wp.skip ?_
          repeat refine ⟨fun h => absurd h (by decide), fun _ => ?_⟩
          refine ⟨fun _ => ?_, fun h => absurd (by decide) h⟩
          refine Wp.reg rfl ?_
          refine Wg.bin (k := .i64) (k2 := .i64) (a := j) (b := 1) rfl rfl rfl rfl rfl (bAdd hj1) ?_
          refine Wg.li rfl rfl rfl rfl (fun _ => rfl) ?_
          exact Wg.nil ⟨rfl, (Env.le_cons rfl (Env.le_cons rfl (Env.le_cons rfl Env.le_nil))), hI4⟩
      · have ho := iF ho hb
        injection ho with ho
        subst ho
        refine Wp.exit ?_
        repeat refine ⟨fun h => absurd h (by decide), fun _ => ?_⟩
        exact ⟨by decide, .inl (by decide), hI⟩
    · rintro x e' H' ⟨hx, hI'⟩
      rcases hx with rfl | rfl
      · exact ⟨.inl rfl, hI'.1, by have := hI'.2.2; omega⟩
      · exact ⟨.inr rfl, hI'.1, by have := hI'.2.2; omega⟩
  obtain ⟨x, e', H', hev, hx, hI', hn⟩ := key
  exact ⟨H', hI', hn, .func (.call at103 rfl rfl (Nat.le_of_ble_eq_true rfl) hev hx rfl)⟩
end routes
end Go.Abs.Tr
