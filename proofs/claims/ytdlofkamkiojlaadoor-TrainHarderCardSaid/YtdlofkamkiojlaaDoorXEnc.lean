/- Rules for walks over plain data: lists, sums in range, loops. Conditions: none (lemmas). -/
import Derived.Test.YtdlofkamkiojlaaDoorXWp
set_option linter.unusedVariables false
set_option linter.unusedSimpArgs false
namespace Go.Abs
open Go

/-- A slice that reads as this list. -/
def lst {α : Type} (f : α → List AV) (l : List α) (c : Cap) : AV := .list l.length (l.flatMap f) c
theorem flatMap_len {α : Type} {f : α → List AV} {n : Nat} (h : ∀ a, (f a).length = n) : ∀ l : List α, (l.flatMap f).length = l.length * n := by
  intro l
  induction l with
  | nil => simp
  | cons a l ih => simp only [List.flatMap_cons, List.length_append, List.length_cons, ih, h a, Nat.succ_mul]; omega
theorem flatMap_at {α : Type} {f : α → List AV} {n : Nat} (h : ∀ a, (f a).length = n) : ∀ (l : List α) (i : Nat) (a : α), l[i]? = some a → ((l.flatMap f).drop (i * n)).take n = f a := by
  intro l
  induction l with
  | nil => intro i a hi; simp at hi
  | cons b l ih =>
    intro i a hi
    cases i with
    | zero =>
      simp at hi
      subst hi
      simp [List.take_append_of_le_length (Nat.le_of_eq (h b).symm), List.take_of_length_le (Nat.le_of_eq (h b))]
    | succ i =>
      have := ih i a (by simpa using hi)
      rw [List.flatMap_cons, Nat.succ_mul, Nat.add_comm, ← List.drop_drop, List.drop_append_of_le_length (Nat.le_of_eq (h b).symm), List.drop_of_length_le (Nat.le_of_eq (h b)), List.nil_append]
      exact this
theorem Pure.lst {α : Type} {f : α → List AV} (h : ∀ a, ∀ x ∈ f a, Pure x) (l : List α) {c : Cap} (hc : ∀ id, c ≠ .tok id) : Pure (lst f l c) :=
  .list (fun x hx => by obtain ⟨a, _, ha⟩ := List.mem_flatMap.1 hx; exact h a x ha) hc

theorem Env.le_nil {e : Env} : Env.le (Env.ofList []) e := fun i v h => by cases h
theorem Env.le_cons {e : Env} {i : Nat} {v : AV} {l : List (Nat × AV)} (h : e i = some v) (k : Env.le (Env.ofList l) e) : Env.le (Env.ofList ((i, v) :: l)) e := by
  intro j u hj
  unfold Env.ofList Env.set at hj
  by_cases hji : j = i
  · rw [if_pos hji] at hj
    injection hj with hj
    rw [hji, h, hj]
  · rw [if_neg hji] at hj
    exact k j u hj

section wp
variable {C : Ctx} {F : Fr} {e e1 : Env} {H H1 : AH} {Q : AX → Env → AH → Prop} {N base M i : Nat} {all l : List Oper} {o : Oper} {v : AV} {R : Env → AH → Prop}

/-- Where paths meet again. -/
theorem Wo.join {e0 : Env} {H0 : AH} (h : Wo C N all base M i l e H fun e' H' => Env.le e0 e' ∧ H' = H0) (k : ∀ e', Env.le e0 e' → R e' H0) : Wo C N all base M i l e H R := by
  obtain ⟨tr, e', H', hev, hh, hle, rfl⟩ := h
  exact ⟨tr, e', H', hev, hh, k e' hle⟩
theorem Wp.join {c : Code} {e0 : Env} {H0 : AH} (h : Wp C F c e H fun x e' H' => x = .normal ∧ Env.le e0 e' ∧ H' = H0) (k : ∀ e', Env.le e0 e' → Q .normal e' H0) : Wp C F c e H Q := by
  obtain ⟨x, e', H', hev, rfl, hle, rfl⟩ := h
  exact ⟨.normal, e', H', hev, k e' hle⟩

/-- An element of a slice. -/
theorem Wo.idx {α : Type} {f : α → List AV} {xs : List α} {c : Cap} {k : IntKind} {j : Int} {x ix : Operand} {t : TypeId} {d : ATy} {esz eb : Nat} {ez : List AV} {a : α} (hd : dstOk N o.dst = true) (hw : wantedA all e o = some true)
    (hop : o.op = .indexAddr t x ix) (ht : C.T t = some d) (hsh : d.shape = .slice esz eb ez) (hx : evalA C e x = some (lst f xs c)) (hi : evalA C e ix = some (.int k j)) (hf : ∀ a, (f a).length = esz) (hp : 0 < esz)
    (h0 : 0 ≤ j) (ha : xs[j.toNat]? = some a) (h : Wo C N all base M (i + 1) l (e.put o.dst (.ro (f a))) H R) : Wo C N all base M i (o :: l) e H R := by
  have h1 := (List.getElem?_eq_some_iff.1 ha).1
  refine Wo.light hd hw (by unfold isHeavy; rw [hop]) (by unfold isAlloc; rw [hop]) ?_ h
  simp only [lightA, hop, ht, hx, hi, indexAddrA, hsh, lst]
  rw [if_pos ⟨h0, by omega, flatMap_len hf xs, hp⟩, flatMap_at hf xs j.toNat a ha]

theorem nilA_int {op : BinOp} {t : TypeId} {k : IntKind} {n : Int} {y : Operand} : nilA C op t (.int k n) y = none := by
  unfold nilA
  split
  · rename_i h; cases h
  · rfl
/-- A slice that holds something is not nil. -/
theorem Wo.notnil {α : Type} {f : α → List AV} {xs : List α} {c : Cap} {t t2 : TypeId} {x : Operand} {d : ATy} {esz eb : Nat} {ez : List AV} (hd : dstOk N o.dst = true) (hw : wantedA all e o = some true) (hop : o.op = .binOp .eql t x (.const (.slice none 0 0)) t2)
    (hx : evalA C e x = some (lst f xs c)) (ht : C.T t = some d) (hsh : d.shape = .slice esz eb ez) (hf : ∀ a, (f a).length = esz) (hp : 0 < esz) (h0 : 0 < xs.length)
    (h : Wo C N all base M (i + 1) l (e.put o.dst (.bool false)) H R) : Wo C N all base M i (o :: l) e H R := by
  refine Wo.light hd hw (by unfold isHeavy; rw [hop]) (by unfold isAlloc; rw [hop]) ?_ h
  have hne : (xs.flatMap f).isEmpty = false := by
    have := flatMap_len hf xs
    cases hc : xs.flatMap f with
    | nil => rw [hc, List.length_nil] at this; have := Nat.mul_pos h0 hp; omega
    | cons a l => rfl
  have hy : evalA C e (.const (.slice none 0 0)) = some (.list 0 [] .full) := rfl
  simp only [lightA, hop, hx, hy, nilA, lst, ht, hsh]
  simp only [hne, Bool.false_eq_true, if_false]

/-- Sums and differences in range. -/
theorem Wo.add {t t2 : TypeId} {x y : Operand} {a b : Int} (hd : dstOk N o.dst = true) (hw : wantedA all e o = some true) (hop : o.op = .binOp .add t x y t2) (hx : evalA C e x = some (.int .i64 a)) (hy : evalA C e y = some (.int .i64 b))
    (hr : -9223372036854775808 ≤ a + b ∧ a + b ≤ 9223372036854775807) (h : Wo C N all base M (i + 1) l (e.put o.dst (.int .i64 (a + b))) H R) : Wo C N all base M i (o :: l) e H R := by
  refine Wo.light hd hw (by unfold isHeavy; rw [hop]) (by unfold isAlloc; rw [hop]) ?_ h
  simp only [lightA, hop, hx, hy, nilA_int, binA, if_true, wrap64_in _ hr.1 hr.2]
theorem Wo.sub {t t2 : TypeId} {x y : Operand} {a b : Int} (hd : dstOk N o.dst = true) (hw : wantedA all e o = some true) (hop : o.op = .binOp .sub t x y t2) (hx : evalA C e x = some (.int .i64 a)) (hy : evalA C e y = some (.int .i64 b))
    (hr : -9223372036854775808 ≤ a - b ∧ a - b ≤ 9223372036854775807) (h : Wo C N all base M (i + 1) l (e.put o.dst (.int .i64 (a - b))) H R) : Wo C N all base M i (o :: l) e H R := by
  refine Wo.light hd hw (by unfold isHeavy; rw [hop]) (by unfold isAlloc; rw [hop]) ?_ h
  simp only [lightA, hop, hx, hy, nilA_int, binA, if_true, wrap64_in _ hr.1 hr.2]
theorem Wo.neg {t : TypeId} {x : Operand} {a : Int} (hd : dstOk N o.dst = true) (hw : wantedA all e o = some true) (hop : o.op = .unOp .neg t x) (hx : evalA C e x = some (.int .i64 a))
    (hr : -9223372036854775808 ≤ -a ∧ -a ≤ 9223372036854775807) (h : Wo C N all base M (i + 1) l (e.put o.dst (.int .i64 (-a))) H R) : Wo C N all base M i (o :: l) e H R := by
  refine Wo.light hd hw (by unfold isHeavy; rw [hop]) (by unfold isAlloc; rw [hop]) ?_ h
  simp only [lightA, hop, hx, unA, Int.zero_sub, wrap64_in _ hr.1 hr.2]
/-- A choice between truth values. -/
theorem Wo.pick {c x y : Operand} {t a b : Bool} (hd : dstOk N o.dst = true) (hw : wantedA all e o = some true) (hop : o.op = .pick c x y) (hc : evalA C e c = some (.bool t)) (hx : evalA C e x = some (.bool a)) (hy : evalA C e y = some (.bool b))
    (h : Wo C N all base M (i + 1) l (e.put o.dst (.bool (if t then a else b))) H R) : Wo C N all base M i (o :: l) e H R := by
  refine Wo.light hd hw (by unfold isHeavy; rw [hop]) (by unfold isAlloc; rw [hop]) ?_ h
  simp only [lightA, hop, hc, hx, hy]
  cases t <;> rfl

/-! ### The same state, told otherwise -/
def Sub (C : Ctx) (F : Fr) (e0 : Env) (H0 : AH) (e : Env) (H : AH) : Prop := ∀ c Q, Wp C F c e0 H0 Q → Wp C F c e H Q
theorem Sub.le {e0 : Env} (h : Env.le e0 e) : Sub C F e0 H e H := fun c Q hw => Wp.weaken h hw
theorem Sub.trans {e0 e2 : Env} {H0 H2 : AH} (h : Sub C F e0 H0 e H) (k : Sub C F e2 H2 e0 H0) : Sub C F e2 H2 e H := fun c Q hw => h c Q (k c Q hw)
theorem Sub.freeze {e0 : Env} {H0 : AH} (S : Nat → Bool) (h1 : ∀ i, i < F.m → S i = false ∧ H0.g i = H.g i) (h2 : ∀ t v, e0 t = some v → ∃ u, e t = some u ∧ Fz S H u v) (h3 : H0.n = H.n)
    (h4 : ∀ i, (S i = true → H0.g i = .gone) ∧ (S i = false → FzO S H (H.g i) (H0.g i))) : Sub C F e0 H0 e H := fun c Q hw =>
  let ⟨x, e', H', hev, hq⟩ := hw; ⟨x, e', H', .freeze S h1 h2 h3 h4 hev, hq⟩
theorem Sub.rename {e0 : Env} {H0 : AH} (ρ : Nat → Option Nat) (h1 : F.m ≤ H0.n) (h2 : ∀ i, i < F.m → ρ i = some i ∧ H0.g i = H.g i) (h3 : ∀ i j, ρ i = some j → i < H0.n ∧ RnO ρ (H.g j) (H0.g i))
    (h4 : ∀ i i' j, ρ i = some j → ρ i' = some j → i = i') (h5 : ∀ t v', e0 t = some v' → ∃ v, e t = some v ∧ Rn ρ v v') : Sub C F e0 H0 e H := fun c Q hw =>
  let ⟨x, e', H', hev, hq⟩ := hw; ⟨x, e', H', .rename ρ h1 h2 h3 h4 h5 hev, hq⟩
theorem Wp.loopS {α : Type} (μ : α → Nat) (Inv : α → Prop) (env : α → Env) (heap : α → AH) {c : Code}
    (h : ∀ a, Inv a → Wp C F c (env a) (heap a) fun x e H => (x = .normal ∧ ∃ a', μ a' < μ a ∧ Inv a' ∧ Sub C F (env a') (heap a') e H) ∨ (x ≠ .normal ∧ Q x e H)) :
    ∀ a, Inv a → Wp C F (.loop c) (env a) (heap a) Q := by
  intro a
  induction hm : μ a using Nat.strongRecOn generalizing a with
  | ind n ih =>
    intro hi
    obtain ⟨x, e', H', hev, hq⟩ := h a hi
    rcases hq with ⟨rfl, a', hlt, hi', hsub⟩ | ⟨hx, hQ⟩
    · obtain ⟨y, e2, H2, hev2, hq2⟩ := hsub _ _ (ih (μ a') (by omega) a' rfl hi')
      exact ⟨y, e2, H2, .loop hev hev2, hq2⟩
    · exact ⟨x, e', H', .loopx hev hx, hQ⟩

/-- An object that holds no address. -/
inductive PureO : AObj → Prop where
  | cells {cs : List AV} : (∀ a ∈ cs, Pure a) → PureO (.cells cs)
  | map {es : List (AV × AV)} : (∀ p ∈ es, Pure p.1) → (∀ p ∈ es, Pure p.2) → PureO (.map es)
  | own : PureO .own
  | gone : PureO .gone
theorem PureO.rn {ρ : Nat → Option Nat} {o : AObj} (h : PureO o) : RnO ρ o o := by
  cases h with
  | cells hp => exact .cells rfl fun j a a' h1 h2 => by rw [h1] at h2; injection h2 with h2; subst h2; exact .pure (hp _ (List.mem_of_getElem? h1))
  | map hp1 hp2 => exact .map rfl fun j p p' h1 h2 => by rw [h1] at h2; injection h2 with h2; subst h2; exact ⟨.pure (hp1 _ (List.mem_of_getElem? h1)), .pure (hp2 _ (List.mem_of_getElem? h1))⟩
  | own => exact .own
  | gone => exact .gone
/-- Temporaries that hold no object from this one on. -/
def EnvLo (n : Nat) (e : Env) (L : List (Nat × AV)) : Prop := ∀ t v, Env.ofList L t = some v → e t = some v ∧ (Pure v ∨ ∃ id off, v = .ptr id off ∧ id < n)
theorem EnvLo.nil {n : Nat} : EnvLo n e [] := fun t v h => by cases h
theorem EnvLo.pure {n t : Nat} {v : AV} {L : List (Nat × AV)} (h : e t = some v) (hp : Pure v) (k : EnvLo n e L) : EnvLo n e ((t, v) :: L) := by
  intro j u hj
  unfold Env.ofList Env.set at hj
  by_cases hji : j = t
  · rw [if_pos hji] at hj
    injection hj with hj
    subst hj; subst hji
    exact ⟨h, .inl hp⟩
  · rw [if_neg hji] at hj
    exact k j u hj
theorem EnvLo.int {n t : Nat} {k : IntKind} {a b : Int} {L : List (Nat × AV)} (h : e t = some (.int k a)) (hab : b = a) (hl : EnvLo n e L) : EnvLo n e ((t, .int k b) :: L) :=
  EnvLo.pure (by rw [h, hab]) (.int _ _) hl
theorem EnvLo.ptr {n t id off : Nat} {L : List (Nat × AV)} (h : e t = some (.ptr id off)) (hp : id < n) (k : EnvLo n e L) : EnvLo n e ((t, .ptr id off) :: L) := by
  intro j u hj
  unfold Env.ofList Env.set at hj
  by_cases hji : j = t
  · rw [if_pos hji] at hj
    injection hj with hj
    subst hj; subst hji
    exact ⟨h, .inr ⟨id, off, rfl, hp⟩⟩
  · rw [if_neg hji] at hj
    exact k j u hj
/-! ### Arrays and variables at places that are not told -/
/-- An element's place in an array. -/
theorem Wo.idxP {k : IntKind} {j : Int} {x ix : Operand} {t : TypeId} {d : ATy} {len esz id off : Nat} {ea : Bool} (hd : dstOk N o.dst = true) (hw : wantedA all e o = some true)
    (hop : o.op = .indexAddr t x ix) (ht : C.T t = some d) (hsh : d.shape = .array len esz ea) (hx : evalA C e x = some (.ptr id off)) (hi : evalA C e ix = some (.int k j)) (h0 : 0 ≤ j) (h1 : j < len)
    (h : Wo C N all base M (i + 1) l (e.put o.dst (.ptr id (off + j.toNat * esz))) H R) : Wo C N all base M i (o :: l) e H R := by
  refine Wo.light hd hw (by unfold isHeavy; rw [hop]) (by unfold isAlloc; rw [hop]) ?_ h
  simp only [lightA, hop, ht, hx, hi, indexAddrA, hsh]
  rw [if_pos ⟨h0, h1⟩]
def eBools (l : List Bool) : List AV := l.map .bool
theorem eqCells_bools : ∀ (l l' : List Bool), l.length = l'.length → eqCells (List.replicate l.length none) (eBools l) (eBools l') = some (decide (l = l')) := by
  intro l
  induction l with
  | nil => intro l' h; cases l' with
    | nil => rfl
    | cons a l' => simp at h
  | cons a l ih =>
    intro l' h
    cases l' with
    | nil => simp at h
    | cons b l' =>
      have := ih l' (by simpa using h)
      show (eqCells (List.replicate l.length none) (eBools l) (eBools l')).map (fun r => (a == b) && r) = _
      rw [this]
      simp only [Option.map_some, Option.some.injEq]
      by_cases hab : a = b <;> simp [hab]
/-! ### append -/
section app
variable {α : Type} {f : α → List AV} {xs ys : List α} {c c2 : Cap} {s x : Operand} {t u : TypeId} {d du : ATy} {esz eb esz2 eb2 : Nat} {ez ez2 : List AV}
end app

/-- Temporaries told with less: slices whose spare places no one speaks of any more. -/
def EnvFz (H : AH) (e : Env) (L : List (Nat × AV)) : Prop := ∀ t v, Env.ofList L t = some v → ∃ u, e t = some u ∧ Fz (fun _ => false) H u v
theorem EnvFz.nil : EnvFz H e [] := fun t v h => by cases h
theorem EnvFz.cons {t : Nat} {u v : AV} {L : List (Nat × AV)} (h : e t = some u) (hf : Fz (fun _ => false) H u v) (k : EnvFz H e L) : EnvFz H e ((t, v) :: L) := by
  intro j w hj
  unfold Env.ofList Env.set at hj
  by_cases hji : j = t
  · rw [if_pos hji] at hj
    injection hj with hj
    subst hj; subst hji
    exact ⟨u, h, hf⟩
  · rw [if_neg hji] at hj
    exact k j w hj
theorem EnvFz.same {t : Nat} {v : AV} {L : List (Nat × AV)} (h : e t = some v) (k : EnvFz H e L) : EnvFz H e ((t, v) :: L) := .cons h (.refl _) k
theorem EnvFz.unk {α : Type} {f : α → List AV} {xs : List α} {c : Cap} {t : Nat} {L : List (Nat × AV)} (h : e t = some (lst f xs c)) (k : EnvFz H e L) : EnvFz H e ((t, lst f xs .unk) :: L) :=
  .cons h (.list rfl (fun j a a' h1 h2 => by rw [h1] at h2; injection h2 with h2; subst h2; exact .refl _) (.inr rfl)) k
theorem Sub.fz {L : List (Nat × AV)} (h : EnvFz H e L) : Sub C F (Env.ofList L) H e H :=
  Sub.freeze (fun _ => false) (fun i _ => ⟨rfl, rfl⟩) h rfl (fun i => ⟨fun h => (by cases h), fun _ => .inl rfl⟩)

/-- Temporaries at the end of a round that appends: the token goes back to its fixed number. -/
def EnvTok (n k : Nat) (e : Env) (L : List (Nat × AV)) : Prop :=
  ∀ t v, Env.ofList L t = some v → (e t = some v ∧ (Pure v ∨ ∃ id off, v = .ptr id off ∧ id < n)) ∨ ∃ m cs, v = .list m cs (.tok n) ∧ e t = some (.list m cs (.tok k)) ∧ ∀ a ∈ cs, Pure a
theorem EnvTok.nil {n k : Nat} : EnvTok n k e [] := fun t v h => by cases h
theorem EnvTok.add {n k t : Nat} {v : AV} {L : List (Nat × AV)} (h : (e t = some v ∧ (Pure v ∨ ∃ id off, v = .ptr id off ∧ id < n)) ∨ ∃ m cs, v = .list m cs (.tok n) ∧ e t = some (.list m cs (.tok k)) ∧ ∀ a ∈ cs, Pure a) (hk : EnvTok n k e L) : EnvTok n k e ((t, v) :: L) := by
  intro j u hj
  unfold Env.ofList Env.set at hj
  by_cases hji : j = t
  · rw [if_pos hji] at hj
    injection hj with hj
    subst hj; subst hji
    exact h
  · rw [if_neg hji] at hj
    exact hk j u hj
theorem EnvTok.pure {n k t : Nat} {v : AV} {L : List (Nat × AV)} (h : e t = some v) (hp : Pure v) (hk : EnvTok n k e L) : EnvTok n k e ((t, v) :: L) := .add (.inl ⟨h, .inl hp⟩) hk
theorem EnvTok.int {n k t : Nat} {kd : IntKind} {a b : Int} {L : List (Nat × AV)} (h : e t = some (.int kd a)) (hab : b = a) (hk : EnvTok n k e L) : EnvTok n k e ((t, .int kd b) :: L) := .pure (by rw [h, hab]) (.int _ _) hk
theorem EnvTok.ptr {n k t id off : Nat} {L : List (Nat × AV)} (h : e t = some (.ptr id off)) (hp : id < n) (hk : EnvTok n k e L) : EnvTok n k e ((t, .ptr id off) :: L) := .add (.inl ⟨h, .inr ⟨id, off, rfl, hp⟩⟩) hk
theorem EnvTok.tok {α : Type} {f : α → List AV} {xs : List α} {n k t : Nat} {L : List (Nat × AV)} (h : e t = some (lst f xs (.tok k))) (hp : ∀ a, ∀ x ∈ f a, Pure x) (hk : EnvTok n k e L) : EnvTok n k e ((t, lst f xs (.tok n)) :: L) :=
  .add (.inr ⟨_, _, rfl, h, fun x hx => by obtain ⟨a, _, ha⟩ := List.mem_flatMap.1 hx; exact hp a x ha⟩) hk
theorem Sub.tok {n0 k : Nat} {L : List (Nat × AV)} {H0 : AH} (hn : H0.n = n0 + 1) (hm : F.m ≤ n0) (hO : ∀ i, i < n0 → H0.g i = H.g i ∧ PureO (H.g i)) (h0 : H0.g n0 = .own) (hk : H.g k = .own) (hle : n0 ≤ k) (hE : EnvTok n0 k e L) : Sub C F (Env.ofList L) H0 e H := by
  refine Sub.rename (fun i => if i < n0 then some i else if i = n0 then some k else none) (by omega) (fun i hi => ⟨if_pos (by omega), (hO i (by omega)).1⟩) (fun i j hij => ?_) (fun i i' j h1 h2 => ?_) (fun t v h => ?_)
  · split at hij
    · rename_i hlt
      injection hij with hij
      subst hij
      refine ⟨by omega, ?_⟩
      rw [(hO i hlt).1]
      exact (hO i hlt).2.rn
    · split at hij
      · rename_i he
        injection hij with hij
        subst hij; subst he
        refine ⟨by omega, ?_⟩
        rw [h0, hk]
        exact .own
      · cases hij
  · split at h1 <;> split at h2
    · injection h1 with h1; injection h2 with h2; omega
    · split at h2
      · injection h1 with h1; injection h2 with h2; omega
      · cases h2
    · split at h1
      · injection h1 with h1; injection h2 with h2; omega
      · cases h1
    · split at h1
      · split at h2
        · omega
        · cases h2
      · cases h1
  · rcases hE t v h with ⟨h1, h2⟩ | ⟨m, cs, rfl, h1, h2⟩
    · refine ⟨v, h1, ?_⟩
      rcases h2 with h2 | ⟨id, off, rfl, hlt⟩
      · exact .pure h2
      · exact .ptr (if_pos hlt)
    · refine ⟨_, h1, .list rfl (fun j a a' g1 g2 => ?_) (.inr (.inr ⟨n0, k, rfl, rfl, ?_⟩))⟩
      · rw [g1] at g2; injection g2 with g2; subst g2; exact .pure (h2 _ (List.mem_of_getElem? g1))
      · simp

/-! ### A region whose trace is looked at -/
def Wt (C : Ctx) (N : Nat) (all : List Oper) (base i : Nat) (l : List Oper) (e : Env) (H : AH) (T : List (AV × AH) → Env → AH → Prop) : Prop :=
  ∃ tr e' H', Ev C (.ops N all base i l e H tr e' H') ∧ T tr e' H'
variable {T : List (AV × AH) → Env → AH → Prop}
theorem Wt.nil (h : T [] e H) : Wt C N all base i [] e H T := ⟨[], e, H, .nil, h⟩
theorem Wt.cons (hd : dstOk N o.dst = true) (hs : Ev C (.step all base i o e H v H1)) (h : Wt C N all base (i + 1) l (e.put o.dst v) H1 fun tr e' H' => T ((v, H1) :: tr) e' H') : Wt C N all base i (o :: l) e H T := by
  obtain ⟨tr, e', H', hev, hq⟩ := h
  exact ⟨_, e', H', .cons hd hs hev, hq⟩
/-- The operations from one on, walked by the common rules; what they read is stable by other means. -/
theorem Wt.light (hd : dstOk N o.dst = true) (hw : wantedA all e o = some true) (hh : isHeavy o = false) (ha : isAlloc o = false) (hl : lightA C e H o = some v)
    (h : Wt C N all base (i + 1) l (e.put o.dst v) H fun tr e' H' => T ((v, H) :: tr) e' H') : Wt C N all base i (o :: l) e H T := .cons hd (.light hw hh ha hl) h
theorem Wt.heavy (wr : Bool) (hd : dstOk N o.dst = true) (hw : wantedA all e o = some true) (hh : isHeavy o = true) (hl : heavyA C wr e H o = some (v, H1))
    (h : Wt C N all base (i + 1) l (e.put o.dst v) H1 fun tr e' H' => T ((v, H1) :: tr) e' H') : Wt C N all base i (o :: l) e H T := .cons hd (.heavy wr hw hh hl) h

/-- Temporaries under other numbers. -/
def EnvRn (ρ : Nat → Option Nat) (e : Env) (L : List (Nat × AV)) : Prop := ∀ t v', Env.ofList L t = some v' → ∃ v, e t = some v ∧ Rn ρ v v'
theorem EnvRn.nil {ρ : Nat → Option Nat} : EnvRn ρ e [] := fun t v h => by cases h
theorem EnvRn.cons {ρ : Nat → Option Nat} {t : Nat} {u v : AV} {L : List (Nat × AV)} (h : e t = some u) (hf : Rn ρ u v) (k : EnvRn ρ e L) : EnvRn ρ e ((t, v) :: L) := by
  intro j w hj
  unfold Env.ofList Env.set at hj
  by_cases hji : j = t
  · rw [if_pos hji] at hj
    injection hj with hj
    subst hj; subst hji
    exact ⟨u, h, hf⟩
  · rw [if_neg hji] at hj
    exact k j w hj
theorem EnvRn.pure {ρ : Nat → Option Nat} {t : Nat} {v : AV} {L : List (Nat × AV)} (h : e t = some v) (hp : Pure v) (k : EnvRn ρ e L) : EnvRn ρ e ((t, v) :: L) := .cons h (.pure hp) k
theorem EnvRn.int {ρ : Nat → Option Nat} {t : Nat} {kd : IntKind} {a b : Int} {L : List (Nat × AV)} (h : e t = some (.int kd a)) (hab : b = a) (k : EnvRn ρ e L) : EnvRn ρ e ((t, .int kd b) :: L) := .pure (by rw [h, hab]) (.int _ _) k
theorem EnvRn.ptr {ρ : Nat → Option Nat} {t i j off : Nat} {L : List (Nat × AV)} (h : e t = some (.ptr j off)) (hp : ρ i = some j) (k : EnvRn ρ e L) : EnvRn ρ e ((t, .ptr i off) :: L) := .cons h (.ptr hp) k

end wp
end Go.Abs
