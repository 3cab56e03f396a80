/- Rules by which a function is walked in the abstract relation. Conditions: none (lemmas). -/
import Derived.Test.YtdlofkamkiojlaaDoorXThm
set_option linter.unusedVariables false
set_option linter.unusedSimpArgs false
namespace Go.Abs
open Go

section wp
variable {C : Ctx} {F : Fr} {e e1 : Env} {H H1 : AH} {Q : AX → Env → AH → Prop} {N base M i : Nat} {all l : List Oper} {o : Oper} {v : AV} {R : Env → AH → Prop}

def Wp (C : Ctx) (F : Fr) (c : Code) (e : Env) (H : AH) (Q : AX → Env → AH → Prop) : Prop := ∃ x e' H', Ev C (.code F c e H x e' H') ∧ Q x e' H'
def Wo (C : Ctx) (N : Nat) (all : List Oper) (base M i : Nat) (l : List Oper) (e : Env) (H : AH) (R : Env → AH → Prop) : Prop :=
  ∃ tr e' H', Ev C (.ops N all base i l e H tr e' H') ∧ (∀ k, i + k ≤ M → heapAt H tr k = H) ∧ R e' H'

theorem Wp.conseq {c : Code} {Q' : AX → Env → AH → Prop} (h : Wp C F c e H Q) (hq : ∀ x e H, Q x e H → Q' x e H) : Wp C F c e H Q' :=
  let ⟨x, e', H', hev, h⟩ := h; ⟨x, e', H', hev, hq _ _ _ h⟩
theorem Wp.skip (h : Q .normal e H) : Wp C F .skip e H Q := ⟨_, _, _, .skip, h⟩
theorem Wp.label {s} (h : Q .normal e H) : Wp C F (.label s) e H Q := ⟨_, _, _, .label, h⟩
theorem Wp.exit {id : Nat} (h : Q (.exit id) e H) : Wp C F (.exit id) e H Q := ⟨_, _, _, .exit, h⟩
theorem Wp.ret (h : Q .ret e H) : Wp C F .ret e H Q := ⟨_, _, _, .ret, h⟩
theorem Wp.seq {a b : Code} (h : Wp C F a e H fun x e1 H1 => (x = .normal → Wp C F b e1 H1 Q) ∧ (x ≠ .normal → Q x e1 H1)) : Wp C F (.seq a b) e H Q := by
  obtain ⟨x, e', H', hev, h1, h2⟩ := h
  by_cases hx : x = .normal
  · subst hx
    obtain ⟨y, e2, H2, hev2, hq⟩ := h1 rfl
    exact ⟨y, e2, H2, .seq hev hev2, hq⟩
  · exact ⟨x, e', H', .seqx hev hx, h2 hx⟩
theorem Wp.cond {c : Operand} {a b : Code} (t : Bool) (hc : evalA C e c = some (.bool t)) (h1 : t = true → Wp C F a e H Q) (h2 : t = false → Wp C F b e H Q) : Wp C F (.cond c a b) e H Q := by
  cases t with
  | true => obtain ⟨x, e', H', hev, h⟩ := h1 rfl; exact ⟨x, e', H', .cond hc hev, h⟩
  | false => obtain ⟨x, e', H', hev, h⟩ := h2 rfl; exact ⟨x, e', H', .cond hc hev, h⟩
theorem Wp.block {id : Nat} {c : Code} (h : Wp C F c e H fun x e1 H1 => Q (if x = .exit id then .normal else x) e1 H1) : Wp C F (.block id c) e H Q :=
  let ⟨x, e', H', hev, h⟩ := h; ⟨_, e', H', .block hev, h⟩
theorem Wp.scope {c : Code} (h : Wp C F c e H Q) : Wp C F (.scope c) e H Q :=
  let ⟨x, e', H', hev, h⟩ := h; ⟨_, e', H', .scope hev, h⟩
theorem Wp.weaken {c : Code} {e0 : Env} (hle : Env.le e0 e) (h : Wp C F c e0 H Q) : Wp C F c e H Q :=
  let ⟨x, e', H', hev, h⟩ := h; ⟨x, e', H', .weaken hle hev, h⟩
/-- A piece of code that falls through, told by the temporaries that are looked at later. -/
theorem Wp.cut {a b : Code} (e0 : Env) (H0 : AH) (h : Wp C F a e H fun x e1 H1 => x = .normal ∧ Env.le e0 e1 ∧ H1 = H0) (k : Wp C F b e0 H0 Q) : Wp C F (.seq a b) e H Q := by
  obtain ⟨x, e', H', hev, rfl, hle, rfl⟩ := h
  obtain ⟨y, e2, H2, hev2, hq⟩ := k
  exact ⟨y, e2, H2, .seq hev (.weaken hle hev2), hq⟩
/-- The loop. -/
theorem Wp.loop {α : Type} (μ : α → Nat) (Inv : α → Prop) (env : α → Env) (heap : α → AH) {c : Code} (Q : α → AX → Env → AH → Prop)
    (h : ∀ a, Inv a → Wp C F c (env a) (heap a) fun x e H => (x = .normal ∧ ∃ a', μ a' < μ a ∧ Inv a' ∧ Env.le (env a') e ∧ H = heap a' ∧ ∀ x e H, Q a' x e H → Q a x e H) ∨ (x ≠ .normal ∧ Q a x e H)) :
    ∀ a, Inv a → Wp C F (.loop c) (env a) (heap a) (Q a) := by
  intro a
  induction hm : μ a using Nat.strongRecOn generalizing a with
  | ind n ih =>
    intro hi
    obtain ⟨x, e', H', hev, hq⟩ := h a hi
    rcases hq with ⟨rfl, a', hlt, hi', hle, rfl, hQ⟩ | ⟨hx, hQ⟩
    · obtain ⟨y, e2, H2, hev2, hq2⟩ := ih (μ a') (by omega) a' rfl hi'
      exact ⟨y, e2, H2, .loop hev (.weaken hle hev2), hQ _ _ _ hq2⟩
    · exact ⟨x, e', H', .loopx hev hx, hQ⟩

/-- The highest place of a region up to which what is read must not change. -/
def hotMax (all : List Oper) : Nat := all.zipIdx.foldl (fun m (o, i) => if isReading o then (beside all i).foldl (fun m j => max m (max i (j + 1))) m else m) 0
theorem foldl_max_le {α : Type} (f : α → Nat) : ∀ (l : List α) (m : Nat), m ≤ l.foldl (fun m x => max m (f x)) m ∧ ∀ x ∈ l, f x ≤ l.foldl (fun m x => max m (f x)) m := by
  intro l
  induction l with
  | nil => intro m; exact ⟨Nat.le_refl _, fun x h => by cases h⟩
  | cons y l ih =>
    intro m
    obtain ⟨h1, h2⟩ := ih (max m (f y))
    simp only [List.foldl_cons]
    refine ⟨by omega, fun x hx => ?_⟩
    rcases List.mem_cons.1 hx with rfl | hx
    · omega
    · exact h2 x hx
theorem hotMax_go (all : List Oper) : ∀ (l : List (Oper × Nat)) (m : Nat),
    m ≤ l.foldl (fun m (o, i) => if isReading o then (beside all i).foldl (fun m j => max m (max i (j + 1))) m else m) m ∧
    ∀ o i, (o, i) ∈ l → isReading o = true → ∀ j ∈ beside all i, max i (j + 1) ≤ l.foldl (fun m (o, i) => if isReading o then (beside all i).foldl (fun m j => max m (max i (j + 1))) m else m) m := by
  intro l
  induction l with
  | nil => intro m; exact ⟨Nat.le_refl _, fun o i h => by cases h⟩
  | cons y l ih =>
    obtain ⟨o', i'⟩ := y
    intro m
    simp only [List.foldl_cons]
    obtain ⟨h1, h2⟩ := ih (if isReading o' then (beside all i').foldl (fun m j => max m (max i' (j + 1))) m else m)
    obtain ⟨k1, k2⟩ := foldl_max_le (fun j => max i' (j + 1)) (beside all i') m
    refine ⟨?_, fun o i hm hr j hj => ?_⟩
    · refine Nat.le_trans ?_ h1
      split
      · exact k1
      · exact Nat.le_refl _
    · rcases List.mem_cons.1 hm with he | hm
      · injection he with he1 he2
        subst he1; subst he2
        refine Nat.le_trans ?_ h1
        rw [if_pos hr]
        exact k2 j hj
      · exact h2 o i hm hr j hj
theorem hotMax_le {all : List Oper} {i : Nat} {o : Oper} (ho : all[i]? = some o) (hr : isReading o = true) {j : Nat} (hj : j ∈ beside all i) : i ≤ hotMax all ∧ j + 1 ≤ hotMax all := by
  have h := (hotMax_go all all.zipIdx 0).2 o i (by rw [List.mem_zipIdx_iff_getElem?]; simpa using ho) hr j hj
  unfold hotMax
  omega

theorem Wp.region {id : Nat} {ops : Array Oper} (M : Nat) {H0 : AH} (ha : allocsA C H ops.toList = some H0) (h : Wo C F.N ops.toList H.n M 0 ops.toList e H0 fun e' H' => Q .normal e' H') : Wp C F (.region id ops false) e H Q := by
  obtain ⟨tr, e', H', hev, _, hq⟩ := h
  exact ⟨_, _, _, .region ha hev (fun h => by cases h), hq⟩
theorem Wp.draw {id : Nat} {ops : Array Oper} (M : Nat) {H0 : AH} (ha : allocsA C H ops.toList = some H0) (hr : regOk ops.toList = true) (hm : hotMax ops.toList ≤ M)
    (h : Wo C F.N ops.toList H.n M 0 ops.toList e H0 fun e' H' => Q .normal e' H') : Wp C F (.region id ops true) e H Q := by
  obtain ⟨tr, e', H', hev, hh, hq⟩ := h
  refine ⟨_, _, _, .region ha hev (fun _ => ⟨hr, fun i o ho hrd hw j hj => ?_⟩), hq⟩
  obtain ⟨h1, h2⟩ := hotMax_le ho hrd hj
  have e1 := hh i (by omega)
  have e2 := hh j (by omega)
  have e3 := hh (j + 1) (by omega)
  rw [e1, e2, e3]
  exact ⟨rfl, rfl⟩

theorem Wo.nil (h : R e H) : Wo C N all base M i [] e H R := ⟨[], e, H, .nil, fun k _ => by cases k <;> rfl, h⟩
/-- An operation that leaves the objects as they are. -/
theorem Wo.step (hd : dstOk N o.dst = true) (hs : Ev C (.step all base i o e H v H)) (h : Wo C N all base M (i + 1) l (e.put o.dst v) H R) : Wo C N all base M i (o :: l) e H R := by
  obtain ⟨tr, e', H', hev, hh, hq⟩ := h
  refine ⟨(v, H) :: tr, e', H', .cons hd hs hev, fun k hk => ?_, hq⟩
  cases k with
  | zero => rfl
  | succ k => exact hh k (by omega)
theorem Wo.stepH (hM : M ≤ i) (hd : dstOk N o.dst = true) (hs : Ev C (.step all base i o e H v H1)) (h : Wo C N all base M (i + 1) l (e.put o.dst v) H1 R) : Wo C N all base M i (o :: l) e H R := by
  obtain ⟨tr, e', H', hev, hh, hq⟩ := h
  refine ⟨(v, H1) :: tr, e', H', .cons hd hs hev, fun k hk => ?_, hq⟩
  cases k with
  | zero => rfl
  | succ k => omega

theorem Wo.light (hd : dstOk N o.dst = true) (hw : wantedA all e o = some true) (hh : isHeavy o = false) (ha : isAlloc o = false) (hl : lightA C e H o = some v)
    (h : Wo C N all base M (i + 1) l (e.put o.dst v) H R) : Wo C N all base M i (o :: l) e H R := Wo.step hd (.light hw hh ha hl) h
theorem Wo.skipped (hd : dstOk N o.dst = true) (hw : wantedA all e o = some false) (h : Wo C N all base M (i + 1) l (e.put o.dst (.tuple [])) H R) : Wo C N all base M i (o :: l) e H R := Wo.step hd (.skipped hw) h
/-- A variable that is set once. -/
theorem Wo.box (hd : dstOk N o.dst = true) (hw : wantedA all e o = some true) (hh : isHeavy o = true) (hl : heavyA C false e H o = some (v, H))
    (h : Wo C N all base M (i + 1) l (e.put o.dst v) H R) : Wo C N all base M i (o :: l) e H R := Wo.step hd (.heavy false hw hh hl) h
theorem Wo.heavy (wr : Bool) (hM : M ≤ i) (hd : dstOk N o.dst = true) (hw : wantedA all e o = some true) (hh : isHeavy o = true) (hl : heavyA C wr e H o = some (v, H1))
    (h : Wo C N all base M (i + 1) l (e.put o.dst v) H1 R) : Wo C N all base M i (o :: l) e H R := Wo.stepH hM hd (.heavy wr hw hh hl) h
theorem Wo.alloc {t : TypeId} {d : ATy} (hd : dstOk N o.dst = true) (hw : wantedA all e o = some true) (hop : o.op = .alloc t) (ht : C.T t = some d)
    (h : Wo C N all base M (i + 1) l (e.put o.dst (.ptr (base + rank all i) 0)) H R) : Wo C N all base M i (o :: l) e H R := Wo.step hd (.alloc hw hop ht) h
/-- A call that leaves the objects as they are. -/
theorem Wo.call {f : FuncId} {args : Array Operand} {ts : Array TypeId} {vs : List AV} (hd : dstOk N o.dst = true) (hw : wantedA all e o = some true) (hop : o.op = .call { callee := .value (.func f), args, argTypes := ts })
    (hv : evalsA C e args.toList = some vs) (hc : Ev C (.call f vs H v H)) (h : Wo C N all base M (i + 1) l (e.put o.dst v) H R) : Wo C N all base M i (o :: l) e H R :=
  Wo.step hd (.apply hw hop rfl hv (.func (first := []) (captured := []) (by simpa using hc))) h
theorem Wo.callv {f : Operand} {args : Array Operand} {ts : Array TypeId} {fv : AV} {vs : List AV} (hd : dstOk N o.dst = true) (hw : wantedA all e o = some true) (hop : o.op = .call { callee := .value f, args, argTypes := ts })
    (hf : evalA C e f = some fv) (hv : evalsA C e args.toList = some vs) (hc : Ev C (.app fv vs H v H)) (h : Wo C N all base M (i + 1) l (e.put o.dst v) H R) : Wo C N all base M i (o :: l) e H R :=
  Wo.step hd (.apply hw hop hf hv hc) h
/-- A guarded operation, in both cases. -/
theorem Env.put_same {t : Tmp} {b : Bool} (h : e t = some (.bool b)) : e.set t (.bool b) = e := by
  funext j
  unfold Env.set
  split
  · rename_i hj; rw [hj]; exact h.symm
  · rfl
theorem Wo.guard {j : Nat} {want : Bool} {d : Tmp} (b : Bool) (hg : o.guard = some (j, want)) (hd : (all[j]?).bind (·.dst) = some d) (he : e d = some (.bool b))
    (h1 : b = want → Wo C N all base M i (o :: l) (e.set d (.bool want)) H R) (h2 : b = !want → Wo C N all base M i (o :: l) (e.set d (.bool !want)) H R) : Wo C N all base M i (o :: l) e H R := by
  by_cases hb : b = want
  · have := h1 hb
    rw [← hb, Env.put_same he] at this
    exact this
  · have hb' : b = !want := by cases b <;> cases want <;> simp_all
    have := h2 hb'
    rw [← hb', Env.put_same he] at this
    exact this

/-- A function that is handed no address: walked on the empty heap. -/
theorem Ev.of_pure {f : FuncId} {fn : Func} {c : Code} {args : List AV} {v : AV} (hf : C.P.funcs[f]? = some fn) (hb : fn.body = some c) (hn : (fn.name == "runtime.NumGoroutine") = false) (hl : args.length ≤ fn.ntmps)
    (ha : ∀ a ∈ args, Pure a) (hv : Pure v)
    (h : Wp C { r := false, N := fn.ntmps, m := 0 } c (Env.args 0 args) AH.nil fun x e' H' => (x = .normal ∨ x = .ret) ∧ ∃ vs, resA C e' H' fn.results.toList = some vs ∧ retA vs = v) : ∀ H, Ev C (.call f args H v H) := by
  intro H
  obtain ⟨x, e', H', hev, hx, vs, hr, rfl⟩ := h
  exact .frame (.call hf hb hn hl hev hx hr) ha hv
end wp
end Go.Abs
