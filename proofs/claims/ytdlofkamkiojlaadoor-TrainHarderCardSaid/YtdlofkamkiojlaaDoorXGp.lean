/- Rules by which printed walks go: what a function computes is told by a function that may answer nothing. Conditions: none (definitions and lemmas). -/
import Derived.Test.YtdlofkamkiojlaaDoorXMon
set_option linter.unusedVariables false
set_option linter.unusedSimpArgs false
namespace Go.Abs
open Go

/-! ### What printed functions are made of -/
def ck (n : Int) : Option Int := some (IntKind.i64.wrap n)
def ix {α : Type} (l : List α) (i : Int) : Option α := if 0 ≤ i then l[i.toNat]? else none
def ap {α : Type} (eb : Nat) (xs ys : List α) : Option (List α) := if (2 * (xs.length + ys.length) + 1024) * eb ≤ 2 ^ 48 then some (xs ++ ys) else none
def remC (a b : Int) : Option Int := if b = 0 then none else some (a.tmod b)
def shlC (a b : Int) : Option Int := if 0 ≤ b then some (IntKind.i64.wrap (a * 2 ^ min b.toNat 64)) else none
def shrC (a b : Int) : Option Int := if 0 ≤ b then some (a.fdiv (2 ^ min b.toNat 64)) else none
def andC (a b : Int) : Int := IntKind.i64.wrap (BitVec.ofInt 64 a &&& BitVec.ofInt 64 b).toNat
def orC (a b : Int) : Int := IntKind.i64.wrap (BitVec.ofInt 64 a ||| BitVec.ofInt 64 b).toNat
abbrev mx (a b : Int) : Int := if b > a then b else a
abbrev mn (a b : Int) : Int := if b < a then b else a
def iter {S T : Type} (f : S → Option (S ⊕ T)) : Nat → S → Option T
  | 0, _ => none
  | n + 1, s => (f s).bind fun o => match o with
    | .inl s' => iter f n s'
    | .inr t => some t

def sl {α : Type} (xs : List α) (lo hi : Int) : Option (List α) := if 0 ≤ lo ∧ lo ≤ hi ∧ hi ≤ xs.length then some ((xs.drop lo.toNat).take (hi.toNat - lo.toNat)) else none
theorem ob {α β : Type} {x : Option α} {f : α → Option β} {b : β} (h : x.bind f = some b) : ∃ a, x = some a ∧ f a = some b := Option.bind_eq_some_iff.1 h
theorem iT {α : Type} {b : Bool} {x y z : α} (h : (if b then x else y) = z) (hb : b = true) : x = z := by rw [if_pos hb] at h; exact h
theorem iF {α : Type} {b : Bool} {x y z : α} (h : (if b then x else y) = z) (hb : b = false) : y = z := by rw [if_neg (by rw [hb]; decide)] at h; exact h
theorem ck_wrap {n m : Int} (h : ck n = some m) : IntKind.i64.wrap n = m := Option.some.inj h
theorem ix_some {α : Type} {l : List α} {i : Int} {a : α} (h : ix l i = some a) : 0 ≤ i ∧ l[i.toNat]? = some a := by
  unfold ix at h
  split at h
  · rename_i hi; exact ⟨hi, h⟩
  · cases h
theorem ap_some {α : Type} {eb : Nat} {xs ys zs : List α} (h : ap eb xs ys = some zs) : zs = xs ++ ys ∧ (2 * (xs.length + ys.length) + 1024) * eb ≤ 2 ^ 48 := by
  unfold ap at h
  split at h
  · injection h with h; rename_i hr; exact ⟨h.symm, hr⟩
  · cases h
theorem ck_ok {n : Int} (h : -9223372036854775808 ≤ n ∧ n ≤ 9223372036854775807) : ck n = some n := congrArg some (wrap64_in _ h.1 h.2)
theorem ix_ok {α : Type} {l : List α} {i : Nat} (h : i < l.length) : ix l (i : Int) = some l[i] := by
  unfold ix
  rw [if_pos (by omega), Int.toNat_natCast, List.getElem?_eq_getElem h]

section bins
variable {C : Ctx} {t : TypeId} {a b c : Int}
theorem bAdd (h : ck (a + b) = some c) : binA C .add t (.int .i64 a) (.int .i64 b) = some (.int .i64 c) := by simp [binA, ck_wrap h]
theorem bSub (h : ck (a - b) = some c) : binA C .sub t (.int .i64 a) (.int .i64 b) = some (.int .i64 c) := by simp [binA, ck_wrap h]
theorem bMul (h : ck (a * b) = some c) : binA C .mul t (.int .i64 a) (.int .i64 b) = some (.int .i64 c) := by simp [binA, ck_wrap h]
theorem bRem (h : remC a b = some c) : binA C .rem t (.int .i64 a) (.int .i64 b) = some (.int .i64 c) := by
  unfold remC at h
  split at h
  · cases h
  · rename_i hb; injection h with h; simp [binA, hb, h]
theorem bShl (h : shlC a b = some c) : binA C .shl t (.int .i64 a) (.int .i64 b) = some (.int .i64 c) := by
  unfold shlC at h
  split at h
  · rename_i hb; injection h with h; simp only [binA, if_pos hb]; rw [← h]; rfl
  · cases h
theorem bShr (h : shrC a b = some c) : binA C .shr t (.int .i64 a) (.int .i64 b) = some (.int .i64 c) := by
  unfold shrC at h
  split at h
  · rename_i hb; injection h with h; simp only [binA, if_pos hb]; rw [← h]; rfl
  · cases h
theorem bAnd : binA C .and t (.int .i64 a) (.int .i64 b) = some (.int .i64 (andC a b)) := rfl
theorem bOr : binA C .or t (.int .i64 a) (.int .i64 b) = some (.int .i64 (orC a b)) := rfl
end bins

/-! ### Regions -/
def hotMaxS (S : List Nat) (all : List Oper) : Nat := all.zipIdx.foldl (fun m (o, i) => if isReading o && !S.contains i then (beside all i).foldl (fun m j => max m (max i (j + 1))) m else m) 0
theorem hotMaxS_go (S : List Nat) (all : List Oper) : ∀ (l : List (Oper × Nat)) (m : Nat),
    m ≤ l.foldl (fun m (o, i) => if isReading o && !S.contains i then (beside all i).foldl (fun m j => max m (max i (j + 1))) m else m) m ∧
    ∀ o i, (o, i) ∈ l → isReading o = true → i ∉ S → ∀ j ∈ beside all i, max i (j + 1) ≤ l.foldl (fun m (o, i) => if isReading o && !S.contains i then (beside all i).foldl (fun m j => max m (max i (j + 1))) m else m) m := by
  intro l
  induction l with
  | nil => intro m; exact ⟨Nat.le_refl _, fun o i h => by cases h⟩
  | cons y l ih =>
    obtain ⟨o', i'⟩ := y
    intro m
    simp only [List.foldl_cons]
    obtain ⟨h1, h2⟩ := ih (if isReading o' && !S.contains i' then (beside all i').foldl (fun m j => max m (max i' (j + 1))) m else m)
    obtain ⟨k1, k2⟩ := foldl_max_le (fun j => max i' (j + 1)) (beside all i') m
    refine ⟨?_, fun o i hm hr hS j hj => ?_⟩
    · refine Nat.le_trans ?_ h1
      split
      · exact k1
      · exact Nat.le_refl _
    · rcases List.mem_cons.1 hm with he | hm
      · injection he with he1 he2
        subst he1; subst he2
        refine Nat.le_trans ?_ h1
        have hc : S.contains i = false := by simpa using hS
        rw [if_pos (by rw [hr, hc]; rfl)]
        exact k2 j hj
      · exact h2 o i hm hr hS j hj
theorem hotMaxS_le {S : List Nat} {all : List Oper} {i : Nat} {o : Oper} (ho : all[i]? = some o) (hr : isReading o = true) (hS : i ∉ S) {j : Nat} (hj : j ∈ beside all i) : i ≤ hotMaxS S all ∧ j + 1 ≤ hotMaxS S all := by
  have h := (hotMaxS_go S all all.zipIdx 0).2 o i (by rw [List.mem_zipIdx_iff_getElem?]; simpa using ho) hr hS j hj
  unfold hotMaxS
  omega

section wg
variable {P : AH → Prop} {C : Ctx} {F : Fr} {e e0 e1 : Env} {H H1 : AH} {Q : AX → Env → AH → Prop} {N base M i : Nat} {S : List Nat} {all l : List Oper} {o : Oper} {v : AV} {R : Env → AH → Prop}

def Wg (P : AH → Prop) (C : Ctx) (N : Nat) (all : List Oper) (base M : Nat) (S : List Nat) (i : Nat) (l : List Oper) (e : Env) (H : AH) (R : Env → AH → Prop) : Prop :=
  ∃ tr e' H' e0, Ev C (.ops N all base i l e H tr e' H') ∧ (∀ k, i + k ≤ M → heapAt H tr k = H) ∧
    (∀ k o, l[k]? = some o → isReading o = true → (i + k) ∈ S → wantedA all (envAt e l tr k) o = some false ∨ ∃ v, ∀ H', P H' → lightA C (envAt e l tr k) H' o = some v) ∧ (∀ k, P (heapAt H tr k)) ∧ Env.le e0 e' ∧ R e0 H'
theorem Wg.weaken (hle : Env.le e0 e) (h : Wg P C N all base M S i l e0 H R) : Wg P C N all base M S i l e H R := by
  obtain ⟨tr, e', H', e2, hev, hh, hs, hp, hl, hr⟩ := h
  obtain ⟨e3, hev3, hl3⟩ := ops_mono hle hev
  refine ⟨tr, e3, H', e2, hev3, hh, fun k o h1 h2 h3 => ?_, hp, Env.le_trans hl hl3, hr⟩
  rcases hs k o h1 h2 h3 with h | ⟨v, h⟩
  · exact .inl (wantedA_mono (envAt_mono hle) h)
  · exact .inr ⟨v, fun H' hH => lightA_mono (envAt_mono hle) (h H' hH)⟩
theorem Wg.conseq {R' : Env → AH → Prop} (h : Wg P C N all base M S i l e H R') (k : ∀ e H, R' e H → R e H) : Wg P C N all base M S i l e H R :=
  let ⟨tr, e', H', e2, h1, h2, h3, h4, h5, h6⟩ := h; ⟨tr, e', H', e2, h1, h2, h3, h4, h5, k _ _ h6⟩
theorem Wp.reg {id : Nat} {ops : Array Oper} {H0 : AH} (ha : allocsA C H ops.toList = some H0) (h : Wg (fun _ => True) C F.N ops.toList H.n 0 [] 0 ops.toList e H0 fun e' H' => Q .normal e' H') : Wp C F (.region id ops false) e H Q := by
  obtain ⟨tr, e', H', e2, hev, _, _, _, hl, hq⟩ := h
  exact ⟨_, _, _, .drop hl (.region ha hev (fun h => by cases h)), hq⟩
theorem Wp.drwP {id : Nat} {ops : Array Oper} (P : AH → Prop) (M : Nat) (S : List Nat) {H0 : AH} (ha : allocsA C H ops.toList = some H0) (hr : regOk ops.toList = true) (hm : hotMaxS S ops.toList ≤ M)
    (h : Wg P C F.N ops.toList H.n M S 0 ops.toList e H0 fun e' H' => Q .normal e' H') : Wp C F (.region id ops true) e H Q := by
  obtain ⟨tr, e', H', e2, hev, hh, hs, hp, hl, hq⟩ := h
  refine ⟨_, _, _, .drop hl (.region ha hev (fun _ => ⟨hr, fun i o ho hrd hw j hj => ?_⟩)), hq⟩
  by_cases hS : i ∈ S
  · rcases hs i o ho hrd (by simpa using hS) with h | ⟨v, h⟩
    · rw [hw] at h; cases h
    · rw [h _ (hp i), h _ (hp j), h _ (hp (j + 1))]; exact ⟨rfl, rfl⟩
  · obtain ⟨h1, h2⟩ := hotMaxS_le ho hrd hS hj
    have e1 := hh i (by omega)
    have e2 := hh j (by omega)
    have e3 := hh (j + 1) (by omega)
    rw [e1, e2, e3]
    exact ⟨rfl, rfl⟩
theorem Wp.drw {id : Nat} {ops : Array Oper} (M : Nat) (S : List Nat) {H0 : AH} (ha : allocsA C H ops.toList = some H0) (hr : regOk ops.toList = true) (hm : hotMaxS S ops.toList ≤ M)
    (h : Wg (fun _ => True) C F.N ops.toList H.n M S 0 ops.toList e H0 fun e' H' => Q .normal e' H') : Wp C F (.region id ops true) e H Q := Wp.drwP _ M S ha hr hm h
theorem Wg.nil (h : R e H) (hP : P H := by trivial) : Wg P C N all base M S i [] e H R :=
  ⟨[], e, H, e, .nil, fun k _ => by cases k <;> rfl, fun k o h => by simp at h, fun k => by cases k <;> exact hP, Env.le_refl e, h⟩
theorem Wg.step (hd : dstOk N o.dst = true) (hs : Ev C (.step all base i o e H v H)) (hS : isReading o = true → i ∈ S → wantedA all e o = some false ∨ ∃ v, ∀ H', P H' → lightA C e H' o = some v)
    (h : Wg P C N all base M S (i + 1) l (e.put o.dst v) H R) : Wg P C N all base M S i (o :: l) e H R := by
  obtain ⟨tr, e', H', e2, hev, hh, hc, hp, hl, hq⟩ := h
  refine ⟨(v, H) :: tr, e', H', e2, .cons hd hs hev, fun k hk => ?_, fun k o' h1 h2 h3 => ?_, fun k => ?_, hl, hq⟩
  · cases k with
    | zero => rfl
    | succ k => exact hh k (by omega)
  · cases k with
    | zero => simp at h1; subst h1; exact hS h2 h3
    | succ k => exact hc k o' (by simpa using h1) h2 (by rw [show i + 1 + k = i + (k + 1) by omega]; exact h3)
  · cases k with
    | zero => have := hp 0; cases tr <;> exact this
    | succ k => exact hp k
theorem Wg.stepH (hM : M ≤ i) (hd : dstOk N o.dst = true) (hs : Ev C (.step all base i o e H v H1)) (hr : isReading o = false)
    (h : Wg P C N all base M S (i + 1) l (e.put o.dst v) H1 R) (hP : P H := by trivial) : Wg P C N all base M S i (o :: l) e H R := by
  obtain ⟨tr, e', H', e2, hev, hh, hc, hp, hl, hq⟩ := h
  refine ⟨(v, H1) :: tr, e', H', e2, .cons hd hs hev, fun k hk => ?_, fun k o' h1 h2 h3 => ?_, fun k => ?_, hl, hq⟩
  · cases k with
    | zero => rfl
    | succ k => omega
  · cases k with
    | zero => simp at h1; subst h1; rw [hr] at h2; cases h2
    | succ k => exact hc k o' (by simpa using h1) h2 (by rw [show i + 1 + k = i + (k + 1) by omega]; exact h3)
  · cases k with
    | zero => exact hP
    | succ k => exact hp k
/-- An operation that needs no object. -/
theorem Wg.li (hd : dstOk N o.dst = true) (hw : wantedA all e o = some true) (hh : isHeavy o = false) (ha : isAlloc o = false) (hl : ∀ H', lightA C e H' o = some v)
    (h : Wg P C N all base M S (i + 1) l (e.put o.dst v) H R) : Wg P C N all base M S i (o :: l) e H R := Wg.step hd (.light hw hh ha (hl H)) (fun _ _ => .inr ⟨v, fun H' _ => hl H'⟩) h
/-- An operation that reads what stays the same all through the region. -/
theorem Wg.lp (hd : dstOk N o.dst = true) (hw : wantedA all e o = some true) (hh : isHeavy o = false) (ha : isAlloc o = false) (hl : ∀ H', P H' → lightA C e H' o = some v) (hP : P H)
    (h : Wg P C N all base M S (i + 1) l (e.put o.dst v) H R) : Wg P C N all base M S i (o :: l) e H R := Wg.step hd (.light hw hh ha (hl H hP)) (fun _ _ => .inr ⟨v, hl⟩) h
/-- An operation that reads an object. -/
theorem Wg.ld (hd : dstOk N o.dst = true) (hw : wantedA all e o = some true) (hh : isHeavy o = false) (ha : isAlloc o = false) (hl : lightA C e H o = some v) (hS : S.contains i = false)
    (h : Wg P C N all base M S (i + 1) l (e.put o.dst v) H R) : Wg P C N all base M S i (o :: l) e H R := by
  refine Wg.step hd (.light hw hh ha hl) (fun _ hi => ?_) h
  have hc : S.contains i = true := by simpa using hi
  rw [hS] at hc; cases hc
theorem Wg.skip (hd : dstOk N o.dst = true) (hw : wantedA all e o = some false) (h : Wg P C N all base M S (i + 1) l (e.put o.dst (.tuple [])) H R) : Wg P C N all base M S i (o :: l) e H R :=
  Wg.step hd (.skipped hw) (fun _ _ => .inl hw) h
theorem reading_heavy (hh : isHeavy o = true) : isReading o = false := by
  unfold isHeavy at hh
  unfold isReading
  split at hh <;> rename_i h <;> first | (rw [h]) | cases hh
theorem Wg.box (hd : dstOk N o.dst = true) (hw : wantedA all e o = some true) (hh : isHeavy o = true) (hl : heavyA C false e H o = some (v, H))
    (h : Wg P C N all base M S (i + 1) l (e.put o.dst v) H R) : Wg P C N all base M S i (o :: l) e H R := Wg.step hd (.heavy false hw hh hl) (fun h => by rw [reading_heavy hh] at h; cases h) h
theorem Wg.heavy (wr : Bool) (hM : M ≤ i) (hd : dstOk N o.dst = true) (hw : wantedA all e o = some true) (hh : isHeavy o = true) (hl : heavyA C wr e H o = some (v, H1))
    (h : Wg P C N all base M S (i + 1) l (e.put o.dst v) H1 R) (hP : P H := by trivial) : Wg P C N all base M S i (o :: l) e H R := Wg.stepH hM hd (.heavy wr hw hh hl) (reading_heavy hh) h hP
theorem Wg.alloc {t : TypeId} {d : ATy} (hd : dstOk N o.dst = true) (hw : wantedA all e o = some true) (hop : o.op = .alloc t) (ht : C.T t = some d)
    (h : Wg P C N all base M S (i + 1) l (e.put o.dst (.ptr (base + rank all i) 0)) H R) : Wg P C N all base M S i (o :: l) e H R := Wg.step hd (.alloc hw hop ht) (fun h => by unfold isReading at h; rw [hop] at h; cases h) h
/-- A call that leaves the objects as they are. -/
theorem Wg.call {f : FuncId} {args : Array Operand} {ts : Array TypeId} {vs : List AV} (hd : dstOk N o.dst = true) (hw : wantedA all e o = some true) (hop : o.op = .call { callee := .value (.func f), args, argTypes := ts })
    (hv : evalsA C e args.toList = some vs) (hc : Ev C (.call f vs H v H)) (h : Wg P C N all base M S (i + 1) l (e.put o.dst v) H R) : Wg P C N all base M S i (o :: l) e H R :=
  Wg.step hd (.apply hw hop rfl hv (.func (first := []) (captured := []) (by simpa using hc))) (fun h => by unfold isReading at h; rw [hop] at h; cases h) h
theorem Wg.callW {f : FuncId} {args : Array Operand} {ts : Array TypeId} {vs vs' : List AV} (hd : dstOk N o.dst = true) (hw : wantedA all e o = some true) (hop : o.op = .call { callee := .value (.func f), args, argTypes := ts })
    (hv : evalsA C e args.toList = some vs) (hk : WkL vs vs') (hc : Ev C (.call f vs' H v H)) (h : Wg P C N all base M S (i + 1) l (e.put o.dst v) H R) : Wg P C N all base M S i (o :: l) e H R :=
  Wg.step hd (.apply hw hop rfl hv (.wkapp hk (.func (first := []) (captured := []) (by simpa using hc)))) (fun h => by unfold isReading at h; rw [hop] at h; cases h) h
theorem Wg.callv {f : Operand} {args : Array Operand} {ts : Array TypeId} {fv : AV} {vs : List AV} (hd : dstOk N o.dst = true) (hw : wantedA all e o = some true) (hop : o.op = .call { callee := .value f, args, argTypes := ts })
    (hf : evalA C e f = some fv) (hv : evalsA C e args.toList = some vs) (hc : Ev C (.app fv vs H v H)) (h : Wg P C N all base M S (i + 1) l (e.put o.dst v) H R) : Wg P C N all base M S i (o :: l) e H R :=
  Wg.step hd (.apply hw hop hf hv hc) (fun h => by unfold isReading at h; rw [hop] at h; cases h) h
/-- An operation on numbers. -/
theorem Wg.bin {op : BinOp} {t t2 : TypeId} {x y : Operand} {a b : Int} {k k2 : IntKind} (hd : dstOk N o.dst = true) (hw : wantedA all e o = some true) (hop : o.op = .binOp op t x y t2) (hx : evalA C e x = some (.int k a)) (hy : evalA C e y = some (.int k2 b))
    (hr : binA C op t (.int k a) (.int k2 b) = some v) (h : Wg P C N all base M S (i + 1) l (e.put o.dst v) H R) : Wg P C N all base M S i (o :: l) e H R := by
  refine Wg.li hd hw (by unfold isHeavy; rw [hop]) (by unfold isAlloc; rw [hop]) (fun H' => ?_) h
  simp only [lightA, hop, hx, hy, nilA_int]
  exact hr
theorem Wg.neg {t : TypeId} {x : Operand} {a c : Int} (hd : dstOk N o.dst = true) (hw : wantedA all e o = some true) (hop : o.op = .unOp .neg t x) (hx : evalA C e x = some (.int .i64 a))
    (hr : ck (0 - a) = some c) (h : Wg P C N all base M S (i + 1) l (e.put o.dst (.int .i64 c)) H R) : Wg P C N all base M S i (o :: l) e H R := by
  refine Wg.li hd hw (by unfold isHeavy; rw [hop]) (by unfold isAlloc; rw [hop]) (fun H' => ?_) h
  simp only [lightA, hop, hx, unA, ck_wrap hr]
/-- An element of a slice. -/
theorem Wg.idx {α : Type} {f : α → List AV} {xs : List α} {c : Cap} {k : IntKind} {j : Int} {x ix' : Operand} {t : TypeId} {d : ATy} {esz eb : Nat} {ez : List AV} {a : α} (hd : dstOk N o.dst = true) (hw : wantedA all e o = some true)
    (hop : o.op = .indexAddr t x ix') (ht : C.T t = some d) (hsh : d.shape = .slice esz eb ez) (hx : evalA C e x = some (lst f xs c)) (hi : evalA C e ix' = some (.int k j)) (hf : ∀ a, (f a).length = esz) (hp : 0 < esz)
    (ha : ix xs j = some a) (h : Wg P C N all base M S (i + 1) l (e.put o.dst (.ro (f a))) H R) : Wg P C N all base M S i (o :: l) e H R := by
  obtain ⟨h0, ha⟩ := ix_some ha
  have h1 := (List.getElem?_eq_some_iff.1 ha).1
  refine Wg.li hd hw (by unfold isHeavy; rw [hop]) (by unfold isAlloc; rw [hop]) (fun H' => ?_) h
  simp only [lightA, hop, ht, hx, hi, indexAddrA, hsh, lst]
  rw [if_pos ⟨h0, by omega, flatMap_len hf xs, hp⟩, flatMap_at hf xs j.toNat a ha]
/-- A choice between truth values. -/
theorem Wg.pick {c x y : Operand} {t : Bool} (hd : dstOk N o.dst = true) (hw : wantedA all e o = some true) (hop : o.op = .pick c x y) (hc : evalA C e c = some (.bool t)) (hx : t = true → evalA C e x = some v) (hy : t = false → evalA C e y = some v)
    (h : Wg P C N all base M S (i + 1) l (e.put o.dst v) H R) : Wg P C N all base M S i (o :: l) e H R := by
  refine Wg.li hd hw (by unfold isHeavy; rw [hop]) (by unfold isAlloc; rw [hop]) (fun H' => ?_) h
  simp only [lightA, hop, hc]
  cases t
  · exact hy rfl
  · exact hx rfl
/-- The operations up to one, and what is known behind them. -/
theorem Wg.cut (n : Nat) (e1 : Env) (h : Wg P C N all base M S i (l.take n) e H fun e' H' => Env.le e1 e' ∧ H' = H) (kk : Wg P C N all base M S (i + n) (l.drop n) e1 H R) (hn : n ≤ l.length) : Wg P C N all base M S i l e H R := by
  obtain ⟨tr, e', H', e2, hev, hh, hs, hp, hl, hle, rfl⟩ := h
  obtain ⟨tr2, e3, H3, e4, hev2, hh2, hs2, hp2, hl2, hr⟩ := Wg.weaken (Env.le_trans hle hl) kk
  have key : ∀ (l1 l2 : List Oper) (i : Nat) (e : Env) (H0 : AH) (tr : List (AV × AH)) (e' : Env) (H' : AH), Ev C (.ops N all base i l1 e H0 tr e' H') → ∀ (tr2 : List (AV × AH)) (e3 : Env) (H3 : AH), Ev C (.ops N all base (i + l1.length) l2 e' H' tr2 e3 H3) →
      Ev C (.ops N all base i (l1 ++ l2) e H0 (tr ++ tr2) e3 H3) ∧ tr.length = l1.length ∧ (∀ k, heapAt H0 (tr ++ tr2) k = if k ≤ l1.length then heapAt H0 tr k else heapAt H' tr2 (k - l1.length)) ∧
      (∀ k, envAt e (l1 ++ l2) (tr ++ tr2) k = if k ≤ l1.length then envAt e l1 tr k else envAt e' l2 tr2 (k - l1.length)) ∧ envAt e l1 tr l1.length = e' ∧ heapAt H0 tr l1.length = H' := by
    intro l1
    induction l1 with
    | nil =>
      intro l2 i e H0 tr e' H' h tr2 e3 H3 h2
      cases h
      refine ⟨by simpa using h2, rfl, fun k => ?_, fun k => ?_, rfl, rfl⟩
      · by_cases hk : k ≤ 0
        · have : k = 0 := by omega
          subst this
          cases tr2 <;> rfl
        · simp [hk]
      · by_cases hk : k ≤ 0
        · have : k = 0 := by omega
          subst this
          cases tr2 <;> cases l2 <;> rfl
        · simp [hk]
    | cons o l1 ih =>
      intro l2 i e H0 tr e' H' h tr2 e3 H3 h2
      cases h with
      | cons hd hs hr =>
        obtain ⟨g1, g2, g3, g4, g5, g6⟩ := ih l2 _ _ _ _ _ _ hr tr2 e3 H3 (by rw [show i + 1 + l1.length = i + (o :: l1).length by simp; omega]; exact h2)
        refine ⟨.cons hd hs g1, by simp [g2], fun k => ?_, fun k => ?_, g5, g6⟩
        · cases k with
          | zero => simp [heapAt]
          | succ k =>
            have := g3 k
            simp only [List.cons_append, heapAt, List.length_cons, Nat.add_le_add_iff_right, Nat.add_sub_add_right]
            exact this
        · cases k with
          | zero => simp [envAt]
          | succ k =>
            have := g4 k
            simp only [List.cons_append, envAt, List.length_cons, Nat.add_le_add_iff_right, Nat.add_sub_add_right]
            exact this
  have hlen : (l.take n).length = n := by simp; omega
  obtain ⟨g1, g2, g3, g4, g5, g6⟩ := key (l.take n) (l.drop n) i e H' tr e' H' hev tr2 e3 H3 (by rw [hlen]; exact hev2)
  rw [List.take_append_drop] at g1 g4
  refine ⟨tr ++ tr2, e3, H3, e4, g1, fun k hk => ?_, fun k o h1 h2 h3 => ?_, fun k => by rw [g3]; split; exact hp k; exact hp2 _, hl2, hr⟩
  · rw [g3]
    split
    · exact hh k hk
    · rename_i hkn
      rw [hlen] at hkn ⊢
      exact hh2 _ (by omega)
  · rw [g4]
    split
    · rename_i hkn
      rw [hlen] at hkn
      by_cases hk : k < n
      · exact hs k o (by rw [List.getElem?_take, if_pos hk]; exact h1) h2 h3
      · have hk : k = n := by omega
        subst hk
        have := hs2 0 o (by simpa using h1) h2 (by simpa using h3)
        have hz : envAt e' (l.drop k) tr2 0 = e' := by cases tr2 <;> cases (l.drop k) <;> rfl
        rw [hz] at this
        have g5' := g5
        rw [hlen] at g5'
        rw [g5']
        exact this
    · rename_i hkn
      rw [hlen] at hkn ⊢
      exact hs2 (k - n) o (by rw [List.getElem?_drop, show n + (k - n) = k by omega]; exact h1) h2 (by rw [show i + n + (k - n) = i + k by omega]; exact h3)
theorem Env.le_put {d : Tmp} {v : AV} (hn : e0 d = none) (h : Env.le e0 e) : Env.le e0 (e.put (some d) v) := by
  intro j u hj
  simp only [Env.put, Env.set]
  split
  · rename_i hjd; rw [hjd, hn] at hj; cases hj
  · exact h j u hj
theorem Env.le_puts {d : Tmp} {v : AV} (hn : e d = none) (h : Env.le e e1) (hv : e1 d = some v) : Env.le (e.put (some d) v) e1 := by
  intro j u hj
  simp only [Env.put, Env.set] at hj
  split at hj
  · rename_i hjd; injection hj with hj; rw [hjd, ← hj]; exact hv
  · exact h j u hj

/-! ### Loops -/
theorem Wp.iterS {T U : Type} (f : T → Option (T ⊕ U)) (E : T → Env) (Hh : T → AH) (P : U → AX → Env → AH → Prop) {c : Code}
    (hb : ∀ s o, f s = some o → Wp C F c (E s) (Hh s) fun x e H => match o with
      | .inl s' => x = .normal ∧ Sub C F (E s') (Hh s') e H
      | .inr t => x ≠ .normal ∧ P t x e H) : ∀ n s t, iter f n s = some t → Wp C F (.loop c) (E s) (Hh s) (P t) := by
  intro n
  induction n with
  | zero => intro s t h; cases h
  | succ n ih =>
    intro s t h
    obtain ⟨o, h1, h2⟩ := ob h
    obtain ⟨x, e', H', hev, hq⟩ := hb s o h1
    cases o with
    | inl s' =>
      obtain ⟨rfl, hsub⟩ := hq
      obtain ⟨y, e2, H2, hev2, hq2⟩ := hsub _ _ (ih s' t h2)
      exact ⟨y, e2, H2, .loop hev hev2, hq2⟩
    | inr u =>
      injection h2 with h2
      subst h2
      obtain ⟨hx, hp⟩ := hq
      exact ⟨x, e', H', .loopx hev hx, hp⟩
theorem Sub.refl : Sub C F e H e H := fun c Q h => h
theorem Sub.use {c : Code} (h : Sub C F e0 H1 e H) (k : Wp C F c e0 H1 Q) : Wp C F c e H Q := h c Q k

/-! ### The same state under other numbers, told with less -/
def hp (L : List AObj) : AH := { n := L.length, g := fun i => L.getD i .gone }
def rhoF (ρ : List (Option Nat)) (i : Nat) : Option Nat := (ρ[i]?).join
def ObjCv (ρ : Nat → Option Nat) (H : AH) (o o' : AObj) : Prop := ∃ m, FzO (fun _ => false) H o m ∧ RnO ρ m o'
def ObjsCv (ρ : Nat → Option Nat) (H : AH) : List (Option Nat) → List AObj → Prop
  | [], [] => True
  | none :: r, _ :: L => ObjsCv ρ H r L
  | some j :: r, o :: L => ObjCv ρ H (H.g j) o ∧ ObjsCv ρ H r L
  | _, _ => False
theorem ObjsCv.at {ρ : Nat → Option Nat} : ∀ {r : List (Option Nat)} {L : List AObj}, ObjsCv ρ H r L → r.length = L.length ∧ ∀ i j, r[i]? = some (some j) → ObjCv ρ H (H.g j) (L.getD i .gone) := by
  intro r
  induction r with
  | nil =>
    intro L h
    cases L with
    | nil => exact ⟨rfl, fun i j h => by simp at h⟩
    | cons _ _ => cases h
  | cons a r ih =>
    intro L h
    cases L with
    | nil => cases a <;> cases h
    | cons o L =>
      cases a with
      | none =>
        obtain ⟨h1, h2⟩ := ih h
        refine ⟨by simp [h1], fun i j hij => ?_⟩
        cases i with
        | zero => simp at hij
        | succ i => simpa using h2 i j (by simpa using hij)
      | some k =>
        obtain ⟨h0, h⟩ := h
        obtain ⟨h1, h2⟩ := ih h
        refine ⟨by simp [h1], fun i j hij => ?_⟩
        cases i with
        | zero => simp at hij; subst hij; simpa using h0
        | succ i => simpa using h2 i j (by simpa using hij)
theorem rho_inj : ∀ {r : List (Option Nat)}, (r.filterMap id).Nodup → ∀ i i' j, rhoF r i = some j → rhoF r i' = some j → i = i' := by
  intro r
  induction r with
  | nil => intro _ i i' j h; simp [rhoF] at h
  | cons a r ih =>
    intro hn i i' j h h'
    have mem : ∀ i, rhoF r i = some j → j ∈ r.filterMap id := by
      intro i hi
      unfold rhoF at hi
      cases hr : r[i]? with
      | none => rw [hr] at hi; cases hi
      | some b => rw [hr] at hi; simp at hi; subst hi; exact List.mem_filterMap.2 ⟨some j, List.mem_of_getElem? hr, rfl⟩
    have hn' : (r.filterMap id).Nodup := by
      cases a with
      | none => simpa using hn
      | some a => simp at hn; simpa using hn.2
    have hj : ∀ b, a = some b → b = j → j ∉ r.filterMap id := by
      intro b hb hbj
      subst hb; subst hbj
      simp at hn
      intro hm
      obtain ⟨x, hx, hx2⟩ := List.mem_filterMap.1 hm
      simp at hx2
      subst hx2
      exact hn.1 hx
    cases i with
    | zero =>
      cases i' with
      | zero => rfl
      | succ i' =>
        exfalso
        have h1 : a = some j := by simpa [rhoF] using h
        exact hj j h1 rfl (mem i' (by simpa [rhoF] using h'))
    | succ i =>
      cases i' with
      | zero =>
        exfalso
        have h1 : a = some j := by simpa [rhoF] using h'
        exact hj j h1 rfl (mem i (by simpa [rhoF] using h))
      | succ i' =>
        have := ih hn' i i' j (by simpa [rhoF] using h) (by simpa [rhoF] using h')
        omega
def EnvCv (ρ : Nat → Option Nat) (H : AH) (e : Env) (L : List (Nat × AV)) : Prop := ∀ t v', Env.ofList L t = some v' → ∃ u v, e t = some u ∧ Fz (fun _ => false) H u v ∧ Rn ρ v v'
theorem Sub.canon (r : List (Option Nat)) (L : List AObj) (E : List (Nat × AV)) (hm : F.m = 0) (hnd : (r.filterMap id).Nodup) (hO : ObjsCv (rhoF r) H r L) (hE : EnvCv (rhoF r) H e E) : Sub C F (Env.ofList E) (hp L) e H := by
  obtain ⟨hlen, hO⟩ := hO.at
  have hr : ∀ i j, rhoF r i = some j → r[i]? = some (some j) := by
    intro i j h
    unfold rhoF at h
    cases hr : r[i]? with
    | none => rw [hr] at h; cases h
    | some b => rw [hr] at h; simp at h; rw [h]
  have hO' : ∀ i j, rhoF r i = some j → ObjCv (rhoF r) H (H.g j) (L.getD i .gone) := fun i j h => hO i j (hr i j h)
  intro c Q hw
  -- what each object is told to be
  obtain ⟨mo, hmo⟩ : ∃ mo : Nat → AObj, ∀ j, ((∃ i, rhoF r i = some j) → FzO (fun _ => false) H (H.g j) (mo j)) ∧ (¬ (∃ i, rhoF r i = some j) → mo j = H.g j) ∧ ∀ i, rhoF r i = some j → RnO (rhoF r) (mo j) (L.getD i .gone) := by
    refine Classical.axiomOfChoice (r := fun j m => ((∃ i, rhoF r i = some j) → FzO (fun _ => false) H (H.g j) m) ∧ (¬ (∃ i, rhoF r i = some j) → m = H.g j) ∧ ∀ i, rhoF r i = some j → RnO (rhoF r) m (L.getD i .gone)) fun j => ?_
    by_cases hex : ∃ i, rhoF r i = some j
    · obtain ⟨i, hi⟩ := hex
      obtain ⟨m, h1, h2⟩ := hO' i j hi
      refine ⟨m, fun _ => h1, fun h => absurd ⟨i, hi⟩ h, fun i' hi' => ?_⟩
      rw [rho_inj hnd _ _ _ hi' hi]
      exact h2
    · exact ⟨H.g j, fun h => absurd h hex, fun _ => rfl, fun i hi => absurd ⟨i, hi⟩ hex⟩
  let H2 : AH := { n := H.n, g := mo }
  have h2 : ∀ i j, rhoF r i = some j → FzO (fun _ => false) H (H.g j) (H2.g j) ∧ RnO (rhoF r) (H2.g j) (L.getD i .gone) := fun i j hij => ⟨(hmo j).1 ⟨i, hij⟩, (hmo j).2.2 i hij⟩
  obtain ⟨e2, he⟩ : ∃ e2 : Env, ∀ t, (∀ v, e2 t = some v → ∃ u, e t = some u ∧ Fz (fun _ => false) H u v) ∧ ∀ v', Env.ofList E t = some v' → ∃ v, e2 t = some v ∧ Rn (rhoF r) v v' := by
    refine Classical.axiomOfChoice (r := fun t (o : Option AV) => (∀ v, o = some v → ∃ u, e t = some u ∧ Fz (fun _ => false) H u v) ∧ ∀ v', Env.ofList E t = some v' → ∃ v, o = some v ∧ Rn (rhoF r) v v') fun t => ?_
    cases hv : Env.ofList E t with
    | none => refine ⟨none, ?_, ?_⟩ <;> (intro v h; cases h)
    | some v' =>
      obtain ⟨u, v, h1, h2, h3⟩ := hE t v' hv
      refine ⟨some v, ?_, ?_⟩ <;> (intro w h; injection h with h; subst h)
      · exact ⟨u, h1, h2⟩
      · exact ⟨v, rfl, h3⟩
  have he2 : ∀ t v', Env.ofList E t = some v' → ∃ v, e2 t = some v ∧ Rn (rhoF r) v v' := fun t => (he t).2
  have s1 : Sub C F e2 H2 e H := by
    refine Sub.freeze (fun _ => false) (fun i hi => by omega) (fun t v h => (he t).1 v h) rfl (fun i => ⟨fun h => absurd h (by decide), fun _ => ?_⟩)
    by_cases hex : ∃ k, rhoF r k = some i
    · exact (hmo i).1 hex
    · exact .inl ((hmo i).2.1 hex)
  have s2 : Sub C F (Env.ofList E) (hp L) e2 H2 := by
    refine Sub.rename (rhoF r) (by omega) (fun i hi => by omega) (fun i j hij => ⟨?_, (h2 i j hij).2⟩) (rho_inj hnd) he2
    have := (List.getElem?_eq_some_iff.1 (hr i j hij)).1
    show i < L.length
    omega
  exact s1 c Q (s2 c Q hw)

theorem EnvCv.nil {ρ : Nat → Option Nat} : EnvCv ρ H e [] := fun t v h => by cases h
theorem EnvCv.add {ρ : Nat → Option Nat} {t : Nat} {u w v : AV} {L : List (Nat × AV)} (h : e t = some u) (hf : Fz (fun _ => false) H u w) (hr : Rn ρ w v) (k : EnvCv ρ H e L) : EnvCv ρ H e ((t, v) :: L) := by
  intro j x hj
  unfold Env.ofList Env.set at hj
  by_cases hji : j = t
  · rw [if_pos hji] at hj
    injection hj with hj
    subst hj; subst hji
    exact ⟨u, w, h, hf, hr⟩
  · rw [if_neg hji] at hj
    exact k j x hj
theorem EnvCv.pure {ρ : Nat → Option Nat} {t : Nat} {v : AV} {L : List (Nat × AV)} (h : e t = some v) (hp : Pure v) (k : EnvCv ρ H e L) : EnvCv ρ H e ((t, v) :: L) := .add h (.refl _) (.pure hp) k
theorem EnvCv.ptr {ρ : Nat → Option Nat} {t i j off : Nat} {L : List (Nat × AV)} (h : e t = some (.ptr j off)) (hr : ρ i = some j) (k : EnvCv ρ H e L) : EnvCv ρ H e ((t, .ptr i off) :: L) := .add h (.refl _) (.ptr hr) k
theorem EnvCv.unk {α : Type} {f : α → List AV} {xs : List α} {ρ : Nat → Option Nat} {t : Nat} {c : Cap} {L : List (Nat × AV)} (h : e t = some (lst f xs c)) (hp : ∀ a, ∀ x ∈ f a, Pure x) (k : EnvCv ρ H e L) : EnvCv ρ H e ((t, lst f xs .unk) :: L) :=
  .add h (.list rfl (fun j a a' h1 h2 => by rw [h1] at h2; injection h2 with h2; subst h2; exact .refl _) (.inr rfl)) (.pure (Pure.lst hp xs (fun _ h => by cases h))) k
/-- A growing list: the number of its token, and whether it has one. -/
def capT {α : Type} (xs : List α) (k : Nat) : Cap := match xs with
  | [] => .full
  | _ :: _ => .tok k
def ownT {α : Type} (xs : List α) : AObj := match xs with
  | [] => .gone
  | _ :: _ => .own
theorem capT_pos {α : Type} {xs : List α} (h : 0 < xs.length) (k : Nat) : capT xs k = .tok k := by cases xs with | nil => cases h | cons => rfl
theorem ownT_pos {α : Type} {xs : List α} (h : 0 < xs.length) : ownT xs = .own := by cases xs with | nil => cases h | cons => rfl
theorem EnvCv.grow {α : Type} {f : α → List AV} {xs : List α} {ρ : Nat → Option Nat} {t i j : Nat} {L : List (Nat × AV)} (h : e t = some (lst f xs (capT xs j))) (hp : ∀ a, ∀ x ∈ f a, Pure x) (hr : ρ i = some j) (k : EnvCv ρ H e L) : EnvCv ρ H e ((t, lst f xs (capT xs i)) :: L) := by
  refine .add h (.refl _) ?_ k
  cases xs with
  | nil => exact .pure (Pure.lst hp [] (fun _ h => by cases h))
  | cons x xs =>
    refine .list rfl (fun j a a' h1 h2 => ?_) (.inr (.inr ⟨i, j, rfl, rfl, hr⟩))
    rw [h1] at h2; injection h2 with h2; subst h2
    obtain ⟨b, _, hb⟩ := List.mem_flatMap.1 (List.mem_of_getElem? h1)
    exact .pure (hp b _ hb)
/-- A list that is to grow, and is empty so far. -/
theorem EnvCv.grow0 {α : Type} {f : α → List AV} {ρ : Nat → Option Nat} {t i : Nat} {L : List (Nat × AV)} (h : e t = some (.list 0 [] .full)) (k : EnvCv ρ H e L) : EnvCv ρ H e ((t, lst f ([] : List α) (capT ([] : List α) i)) :: L) :=
  .add h (.refl _) (.pure (Pure.list (fun _ h => by cases h) (fun _ h => by cases h))) k
theorem ObjCv.pure {ρ : Nat → Option Nat} {o : AObj} {cs : List AV} (h : o = .cells cs) (hp : ∀ a ∈ cs, Pure a) : ObjCv ρ H o (.cells cs) := by
  subst h
  exact ⟨_, .inl rfl, .cells rfl fun j a a' h1 h2 => by rw [h1] at h2; injection h2 with h2; subst h2; exact .pure (hp _ (List.mem_of_getElem? h1))⟩
theorem ObjCv.grow {α : Type} {xs : List α} {ρ : Nat → Option Nat} {o : AObj} (h : o = ownT xs) : ObjCv ρ H o (ownT xs) := by
  subst h
  refine ⟨_, .inl rfl, ?_⟩
  cases xs with
  | nil => exact .gone
  | cons => exact .own
theorem ObjCv.gone {ρ : Nat → Option Nat} {o : AObj} : ObjCv ρ H o .gone := ⟨_, .inl rfl, .gone⟩

/-! ### Told with less -/
def WkC (cs cs' : List AV) : Prop := cs'.length = cs.length ∧ ∀ (j : Nat) a a', cs[j]? = some a → cs'[j]? = some a' → Wk a a'
theorem WkC.refl (cs : List AV) : WkC cs cs := ⟨rfl, fun j a a' h1 h2 => by rw [h1] at h2; injection h2 with h2; subst h2; exact .refl _⟩
theorem WkC.nil : WkC [] [] := .refl []
theorem WkC.cons {a a' : AV} {cs cs' : List AV} (h : Wk a a') (k : WkC cs cs') : WkC (a :: cs) (a' :: cs') := by
  refine ⟨by simp [k.1], fun j b b' h1 h2 => ?_⟩
  cases j with
  | zero => simp at h1 h2; subst h1; subst h2; exact h
  | succ j => exact k.2 j b b' (by simpa using h1) (by simpa using h2)
theorem WkC.app {cs cs' ds ds' : List AV} (h : WkC cs cs') (k : WkC ds ds') : WkC (cs ++ ds) (cs' ++ ds') := by
  refine ⟨by simp [h.1, k.1], fun j b b' h1 h2 => ?_⟩
  by_cases hj : j < cs.length
  · rw [List.getElem?_append_left hj] at h1
    rw [List.getElem?_append_left (by rw [h.1]; exact hj)] at h2
    exact h.2 j b b' h1 h2
  · rw [List.getElem?_append_right (by omega)] at h1
    rw [List.getElem?_append_right (by rw [h.1]; omega), h.1] at h2
    exact k.2 _ b b' h1 h2
theorem Wk.unk {n : Nat} {cs cs' : List AV} {c : Cap} (h : WkC cs cs') : Wk (.list n cs c) (.list n cs' .unk) := .list h.1 h.2 (.inr rfl)
theorem Wk.st {cs cs' : List AV} (h : WkC cs cs') : Wk (.agg cs) (.agg cs') := .agg h.1 h.2
theorem Wk.rd {cs cs' : List AV} (h : WkC cs cs') : Wk (.ro cs) (.ro cs') := .ro h.1 h.2
theorem Wk.fz {a a' : AV} (h : Wk a a') : Fz (fun _ => false) H a a' := by
  induction h with
  | refl a => exact .refl a
  | list hl _ hc ih => exact .list hl ih hc
  | agg hl _ ih => exact .agg hl ih
  | ro hl _ ih => exact .ro hl ih
  | nilmap => exact .nilmap
theorem EnvCv.wk {ρ : Nat → Option Nat} {t : Nat} {u v : AV} {L : List (Nat × AV)} (h : e t = some u) (hw : Wk u v) (hp : Pure v) (k : EnvCv ρ H e L) : EnvCv ρ H e ((t, v) :: L) := .add h hw.fz (.pure hp) k
theorem ObjCv.wk {ρ : Nat → Option Nat} {o : AObj} {cs cs' : List AV} (h : o = .cells cs) (hw : WkC cs cs') (hp : ∀ a ∈ cs', Pure a) : ObjCv ρ H o (.cells cs') := by
  subst h
  exact ⟨.cells cs', .inr ⟨cs, cs', rfl, rfl, hw.1, fun j a a' h1 h2 => (hw.2 j a a' h1 h2).fz⟩, .cells rfl fun j a a' h1 h2 => by rw [h1] at h2; injection h2 with h2; subst h2; exact .pure (hp _ (List.mem_of_getElem? h1))⟩
theorem ne_len {α : Type} {l : List α} (h : l.isEmpty = false) : 0 < l.length := by cases l with | nil => cases h | cons => simp

/-! ### append -/
section app
variable {α : Type} {f : α → List AV} {xs ys zs : List α} {c c2 : Cap} {s x : Operand} {t u : TypeId} {d du : ATy} {esz eb esz2 eb2 : Nat} {ez ez2 : List AV}
theorem AH.set_gone {H : AH} {k : Nat} (h : H.g k = .gone) : H.set k .gone = H := by
  cases H with
  | mk n g =>
    simp only [AH.set, AH.mk.injEq, true_and]
    funext j
    split
    · rename_i hj; rw [hj]; exact h.symm
    · rfl
/-- Onto a growing list. -/
theorem Wg.appG {k : Nat} (hM : M ≤ i) (hd : dstOk N o.dst = true) (hw : wantedA all e o = some true) (hop : o.op = .call { callee := .builtin .append, args := #[s, x], argTypes := #[t, u] }) (ht : C.T t = some d) (hu : C.T u = some du)
    (hsh : d.shape = .slice esz eb ez) (hsh2 : du.shape = .slice esz2 eb2 ez2) (hs : evalA C e s = some (lst f xs (capT xs k))) (hx : evalA C e x = some (lst f ys c2)) (hf : ∀ a, (f a).length = esz) (hp : 0 < esz) (hb : 0 < eb) (hy : 0 < ys.length)
    (hg : H.g k = ownT xs) (ha : ap eb xs ys = some zs) (h : Wg P C N all base M S (i + 1) l (e.put o.dst (lst f zs (capT zs H.n))) ((H.set k .gone).push (ownT zs)) R) (hP : P H := by trivial) : Wg P C N all base M S i (o :: l) e H R := by
  obtain ⟨rfl, hbd⟩ := ap_some ha
  rw [capT_pos (by simp; omega), ownT_pos (by simp; omega)] at h
  have hm : (ys.flatMap f).length = ys.length * esz := flatMap_len hf ys
  cases xs with
  | nil =>
    rw [AH.set_gone hg] at h
    refine Wg.stepH hM hd (.heavy false hw (by unfold isHeavy; rw [hop]) ?_) (reading_heavy (by unfold isHeavy; rw [hop])) h hP
    simp only [heavyA, hop, ht, hu, hs, hx, lst, hsh, hsh2, readA, hm, if_true, capT]
    rw [if_pos ⟨by simp, hp, hb, by simpa using hbd⟩, if_neg (by omega)]
    simp
  | cons x0 xs =>
    refine Wg.stepH hM hd (.heavy false hw (by unfold isHeavy; rw [hop]) ?_) (reading_heavy (by unfold isHeavy; rw [hop])) h hP
    have hl := flatMap_len hf (x0 :: xs)
    simp only [heavyA, hop, ht, hu, hs, hx, lst, hsh, hsh2, readA, hm, if_true, capT]
    rw [if_pos ⟨hl, hp, hb, hbd⟩, if_neg (by omega)]
    simp only [hg, ownT]
    simp
    omega
/-- Onto a list without spare places. -/
theorem Wg.appF (hM : M ≤ i) (hd : dstOk N o.dst = true) (hw : wantedA all e o = some true) (hop : o.op = .call { callee := .builtin .append, args := #[s, x], argTypes := #[t, u] }) (ht : C.T t = some d) (hu : C.T u = some du)
    (hsh : d.shape = .slice esz eb ez) (hsh2 : du.shape = .slice esz2 eb2 ez2) (hs : evalA C e s = some (lst f xs .full)) (hx : evalA C e x = some (lst f ys c2)) (hf : ∀ a, (f a).length = esz) (hp : 0 < esz) (hb : 0 < eb) (hy : 0 < ys.length)
    (ha : ap eb xs ys = some zs) (h : Wg P C N all base M S (i + 1) l (e.put o.dst (lst f zs (capT zs H.n))) (H.push (ownT zs)) R) (hP : P H := by trivial) : Wg P C N all base M S i (o :: l) e H R := by
  obtain ⟨rfl, hbd⟩ := ap_some ha
  rw [capT_pos (by simp; omega), ownT_pos (by simp; omega)] at h
  have hm : (ys.flatMap f).length = ys.length * esz := flatMap_len hf ys
  refine Wg.stepH hM hd (.heavy false hw (by unfold isHeavy; rw [hop]) ?_) (reading_heavy (by unfold isHeavy; rw [hop])) h hP
  simp only [heavyA, hop, ht, hu, hs, hx, lst, hsh, hsh2, readA, hm, if_true]
  rw [if_pos ⟨flatMap_len hf xs, hp, hb, hbd⟩, if_neg (by omega)]
  simp
/-- Nothing is appended. -/
theorem Wg.app0 (hd : dstOk N o.dst = true) (hw : wantedA all e o = some true) (hop : o.op = .call { callee := .builtin .append, args := #[s, x], argTypes := #[t, u] }) (ht : C.T t = some d) (hu : C.T u = some du)
    (hsh : d.shape = .slice esz eb ez) (hsh2 : du.shape = .slice esz2 eb2 ez2) (hs : evalA C e s = some (lst f xs c)) (hx : evalA C e x = some (lst f ys c2)) (hf : ∀ a, (f a).length = esz) (hp : 0 < esz) (hb : 0 < eb) (hy : ys.isEmpty = true)
    (ha : ap eb xs ys = some zs) (h : Wg P C N all base M S (i + 1) l (e.put o.dst (lst f xs c)) H R) : Wg P C N all base M S i (o :: l) e H R := by
  obtain ⟨rfl, hbd⟩ := ap_some ha
  have hy : ys = [] := by simpa using hy
  subst hy
  refine Wg.step hd (.heavy false hw (by unfold isHeavy; rw [hop]) ?_) (fun h => by rw [reading_heavy (by unfold isHeavy; rw [hop])] at h; cases h) h
  simp only [heavyA, hop, ht, hu, hs, hx, lst, hsh, hsh2, readA, List.length_nil, List.flatMap_nil, Nat.zero_mul, if_true]
  rw [if_pos ⟨flatMap_len hf xs, hp, hb, by simpa using hbd⟩]
end app
def slCap (c : Cap) (h0 n : Nat) : Option Nat → Cap
  | some m => if m = h0 then .full else .unk
  | none => if c = .full ∧ h0 = n then .full else .unk
/-- x[lo:hi], x[lo:hi:hi]. -/
theorem Wg.slc {α : Type} {f : α → List AV} {xs ys : List α} {c : Cap} {x : Operand} {lo hi mx : Option Operand} {t : TypeId} {d : ATy} {esz eb : Nat} {ez : List AV} {l0 h0 : Nat} {m0 : Option Nat} (hd : dstOk N o.dst = true) (hw : wantedA all e o = some true)
    (hop : o.op = .slice t x lo hi mx) (ht : C.T t = some d) (hsh : d.shape = .slice esz eb ez) (hx : evalA C e x = some (lst f xs c)) {lv hv mv : Option AV} (hl : lo.map (evalA C e) = lv.map some) (hh : hi.map (evalA C e) = hv.map some) (hm : mx.map (evalA C e) = mv.map some)
    (hb : boundsA xs.length lv hv mv = some (l0, h0, m0)) (hys : ys = (xs.drop l0).take (h0 - l0)) (hle : h0 ≤ xs.length) (hle2 : l0 ≤ h0)
    (hf : ∀ a, (f a).length = esz) (hp : 0 < esz) (h : Wg P C N all base M S (i + 1) l (e.put o.dst (lst f ys (slCap c h0 xs.length m0))) H R) : Wg P C N all base M S i (o :: l) e H R := by
  refine Wg.li hd hw (by unfold isHeavy; rw [hop]) (by unfold isAlloc; rw [hop]) (fun H' => ?_) h
  have hlen := flatMap_len hf xs
  have key : ∀ (n : Nat) (xs : List α), (xs.drop n).flatMap f = (xs.flatMap f).drop (n * esz) := by
    intro n
    induction n with
    | zero => intro xs; simp
    | succ n ih =>
      intro xs
      cases xs with
      | nil => simp
      | cons a xs =>
        rw [List.drop_succ_cons, ih, List.flatMap_cons, Nat.succ_mul, Nat.add_comm, ← List.drop_drop, List.drop_append_of_le_length (Nat.le_of_eq (hf a).symm), List.drop_of_length_le (Nat.le_of_eq (hf a)), List.nil_append]
  have key2 : ∀ (n : Nat) (xs : List α), (xs.take n).flatMap f = (xs.flatMap f).take (n * esz) := by
    intro n
    induction n with
    | zero => intro xs; simp
    | succ n ih =>
      intro xs
      cases xs with
      | nil => simp
      | cons a xs =>
        rw [List.take_succ_cons, List.flatMap_cons, List.flatMap_cons, ih, List.take_append, hf a, Nat.succ_mul, Nat.add_sub_cancel, List.take_of_length_le (l := f a) (by rw [hf a]; omega)]
  have hres : sliceA d (lst f xs c) lv hv mv = some (lst f ys (slCap c h0 xs.length m0)) := by
    simp only [sliceA, hsh, lst]
    rw [if_pos ⟨hlen, hp⟩]
    simp only [hb]
    subst hys
    rw [key2, key]
    simp only [List.length_take, List.length_drop]
    rw [Nat.min_eq_left (by omega)]
    cases m0 <;> rfl
  simp only [lightA, hop, ht, hx, hl, hh, hm]
  cases lv <;> cases hv <;> cases mv <;> simpa using hres
theorem sl_b {α : Type} {xs ys : List α} {lo hi : Int} (h : sl xs lo hi = some ys) (lv hv mv : Option AV) (m0 : Option Nat) (h1 : lv = none ∧ lo = 0 ∨ lv = some (.int .i64 lo)) (h2 : (hv = none ∧ mv = none ∧ hi = xs.length) ∨ hv = some (.int .i64 hi))
    (h3 : (mv = none ∧ m0 = none) ∨ (mv = some (.int .i64 hi) ∧ m0 = some hi.toNat)) : boundsA xs.length lv hv mv = some (lo.toNat, hi.toNat, m0) ∧ ys = (xs.drop lo.toNat).take (hi.toNat - lo.toNat) ∧ hi.toNat ≤ xs.length ∧ lo.toNat ≤ hi.toNat := by
  unfold sl at h
  split at h
  · rename_i hc
    obtain ⟨c1, c2, c3⟩ := hc
    injection h with h
    refine ⟨?_, h.symm, by omega, by omega⟩
    have e1 : hi.toNat ≤ xs.length := by omega
    have e2 : lo.toNat ≤ hi.toNat := by omega
    have e3 : 0 ≤ hi := by omega
    rcases h1 with ⟨rfl, rfl⟩ | rfl <;> rcases h2 with ⟨rfl, rfl, rfl⟩ | rfl <;> rcases h3 with ⟨h3, rfl⟩ | ⟨h3, rfl⟩ <;> first | (cases h3; done) | skip
    all_goals (try subst h3)
    all_goals simp [boundsA, AV.asNat, c1, e1, e2, e3]
    all_goals omega
  · cases h
theorem Wg.sl3 {α : Type} {f : α → List AV} {xs ys : List α} {c : Cap} {x hi mx : Operand} {lo : Option Operand} {t : TypeId} {d : ATy} {esz eb : Nat} {ez : List AV} {a b : Int} (hd : dstOk N o.dst = true) (hw : wantedA all e o = some true)
    (hop : o.op = .slice t x lo (some hi) (some mx)) (ht : C.T t = some d) (hsh : d.shape = .slice esz eb ez) (hx : evalA C e x = some (lst f xs c)) (lv : Option AV) (hl : lo.map (evalA C e) = lv.map some) (hh : evalA C e hi = some (.int .i64 b)) (hm : evalA C e mx = some (.int .i64 b))
    (h1 : lv = none ∧ a = 0 ∨ lv = some (.int .i64 a)) (hs : sl xs a b = some ys)
    (hf : ∀ a, (f a).length = esz) (hp : 0 < esz) (h : Wg P C N all base M S (i + 1) l (e.put o.dst (lst f ys .full)) H R) : Wg P C N all base M S i (o :: l) e H R := by
  obtain ⟨k1, k2, k3, k4⟩ := sl_b hs lv (some (.int .i64 b)) (some (.int .i64 b)) (some b.toNat) h1 (.inr rfl) (.inr ⟨rfl, rfl⟩)
  refine Wg.slc (m0 := some b.toNat) (hv := some (.int .i64 b)) (mv := some (.int .i64 b)) hd hw hop ht hsh hx hl (by simp [hh]) (by simp [hm]) k1 k2 k3 k4 hf hp ?_
  simpa [slCap] using h
theorem Env.set_same {g : Tmp} {b c : Bool} (h : e g = some (.bool b)) (hb : b = c) : e.set g (.bool c) = e := by
  subst hb
  exact Env.put_same h
/-- Operations behind a guard, and the choice that ends them. -/
theorem Wg.grp (n : Nat) (d g : Tmp) (V b : Bool) (hg : e g = some (.bool b)) (hd : e d = none) (hn : n ≤ l.length)
    (hT : b = true → Wg P C N all base M S i (l.take n) (e.set g (.bool true)) H fun e' H' => e' d = some (.bool V) ∧ Env.le (e.set g (.bool true)) e' ∧ H' = H)
    (hF : b = false → Wg P C N all base M S i (l.take n) (e.set g (.bool false)) H fun e' H' => e' d = some (.bool V) ∧ Env.le (e.set g (.bool false)) e' ∧ H' = H)
    (k : Wg P C N all base M S (i + n) (l.drop n) (e.put (some d) (.bool V)) H R) : Wg P C N all base M S i l e H R := by
  have key : Wg P C N all base M S i (l.take n) e H fun e' H' => e' d = some (.bool V) ∧ Env.le e e' ∧ H' = H := by
    cases hb : b with
    | true => have h := hT hb; rw [Env.set_same hg hb] at h; exact h
    | false => have h := hF hb; rw [Env.set_same hg hb] at h; exact h
  exact Wg.cut n (e.put (some d) (.bool V)) (key.conseq fun e' H' ⟨h1, h2, h3⟩ => ⟨Env.le_puts hd h2 h1, h3⟩) k hn
theorem ifAnd (b x : Bool) : (if b then some x else some false) = some (b && x) := by cases b <;> rfl
theorem ifOr (b x : Bool) : (if b then some true else some x) = some (b || x) := by cases b <;> rfl
theorem some_b {a b : Bool} (h : some a = some b) : some (AV.bool a) = some (AV.bool b) := by injection h with h; rw [h]
theorem Wp.after {c : Code} {Q' : AX → Env → AH → Prop} (h : Wp C F c e H Q') (hq : ∀ x e H, Q' x e H → Q x e H) : Wp C F c e H Q := h.conseq hq
end wg

/-- Lists in lists. -/
def eLs {α : Type} (f : α → List AV) (l : List α) : List AV := [lst f l .unk]
def eBool (b : Bool) : List AV := [.bool b]
theorem lLs {α : Type} {f : α → List AV} (l : List α) : (eLs f l).length = 1 := rfl
theorem lBool (b : Bool) : (eBool b).length = 1 := rfl
theorem pLs {α : Type} {f : α → List AV} (h : ∀ a, ∀ x ∈ f a, Pure x) (l : List α) : ∀ x ∈ eLs f l, Pure x := fun x hx => by
  simp only [eLs, List.mem_cons, List.not_mem_nil, or_false] at hx
  subst hx
  exact Pure.lst h l (fun _ h => by cases h)
theorem pBool (b : Bool) : ∀ x ∈ eBool b, Pure x := fun x hx => by
  simp only [eBool, List.mem_cons, List.not_mem_nil, or_false] at hx
  subst hx
  exact .bool b
theorem pv {l : List AV} (h : ∀ x ∈ l, Pure x) : Pure (.agg l) := .agg h
end Go.Abs
