/- Rules by which printed walks go: slices that an append makes and that are written, and then are written no more. Conditions: none (definitions and lemmas). -/
import Derived.Test.YtdlofkamkiojlaaDoorXGq
set_option linter.unusedVariables false
set_option linter.unusedSimpArgs false
namespace Go.Abs
open Go

inductive FzL (S : Nat → Bool) (H : AH) : List AV → List AV → Prop where
  | nil : FzL S H [] []
  | cons {a a' : AV} {l l' : List AV} : Fz S H a a' → FzL S H l l' → FzL S H (a :: l) (a' :: l')
theorem FzL.len {S : Nat → Bool} {H : AH} {l l' : List AV} (h : FzL S H l l') : l'.length = l.length := by
  induction h with
  | nil => rfl
  | cons _ _ ih => simp [ih]
theorem FzL.get {S : Nat → Bool} {H : AH} {l l' : List AV} (h : FzL S H l l') : ∀ (j : Nat) a a', l[j]? = some a → l'[j]? = some a' → Fz S H a a' := by
  induction h with
  | nil => intro j a a' h; simp at h
  | cons h _ ih =>
    intro j a a' h1 h2
    cases j with
    | zero => simp at h1 h2; subst h1; subst h2; exact h
    | succ j => exact ih j a a' (by simpa using h1) (by simpa using h2)
theorem FzL.refl {S : Nat → Bool} {H : AH} : ∀ l : List AV, FzL S H l l
  | [] => .nil
  | a :: l => .cons (.refl a) (FzL.refl l)
theorem Fz.st {S : Nat → Bool} {H : AH} {l l' : List AV} (h : FzL S H l l') : Fz S H (.agg l) (.agg l') := .agg h.len h.get
theorem Fz.rd {S : Nat → Bool} {H : AH} {l l' : List AV} (h : FzL S H l l') : Fz S H (.ro l) (.ro l') := .ro h.len h.get
/-- A slice over an object that is written no more. -/
theorem Fz.msl {α : Type} {f : α → List AV} {xs : List α} {S : Nat → Bool} {H : AH} {id n : Nat} (hS : S id = true) (hg : H.g id = .cells (eAr f xs)) (hn : xs.length = n) : Fz S H (.ms id 0 n none) (lst f xs .unk) := by
  subst hn
  exact .ms (k := (eAr f xs).length) hS hg (by simp) rfl (fun j a a' h1 h2 => by
    rw [List.drop_zero, List.take_length] at h1
    rw [show (xs.flatMap f)[j]? = (eAr f xs)[j]? from rfl] at h2
    rw [h1] at h2; injection h2 with h2; subst h2; exact .refl _)
theorem Fz.unk {S : Nat → Bool} {H : AH} {n : Nat} {cs : List AV} {c : Cap} : Fz S H (.list n cs c) (.list n cs .unk) :=
  .list rfl (fun j a a' h1 h2 => by rw [h1] at h2; injection h2 with h2; subst h2; exact .refl _) (.inr rfl)
def frzS (Ss : List Nat) (n : Nat) : Nat → Bool := fun i => Ss.contains i || decide (n ≤ i)
theorem frzS_in {Ss : List Nat} {n i : Nat} (h : Ss.contains i = true) : frzS Ss n i = true := by unfold frzS; rw [h]; rfl
inductive FzOs (Ss : List Nat) (n : Nat) (H : AH) : Nat → List AObj → Prop where
  | nil {k : Nat} : FzOs Ss n H k []
  | gone {k : Nat} {l : List AObj} : Ss.contains k = true → FzOs Ss n H (k + 1) l → FzOs Ss n H k (.gone :: l)
  | same {k : Nat} {o : AObj} {l : List AObj} : Ss.contains k = false → H.g k = o → FzOs Ss n H (k + 1) l → FzOs Ss n H k (o :: l)
  | cells {k : Nat} {cs cs' : List AV} {l : List AObj} : Ss.contains k = false → H.g k = .cells cs → FzL (frzS Ss n) H cs cs' → FzOs Ss n H (k + 1) l → FzOs Ss n H k (.cells cs' :: l)
theorem FzOs.at {Ss : List Nat} {n : Nat} {H : AH} : ∀ {l : List AObj} {k : Nat}, FzOs Ss n H k l → ∀ i o, l[i]? = some o → (Ss.contains (k + i) = true → o = .gone) ∧ (Ss.contains (k + i) = false → FzO (frzS Ss n) H (H.g (k + i)) o) := by
  intro l
  induction l with
  | nil => intro k _ i o h; simp at h
  | cons a l ih =>
    intro k h i o hi
    cases i with
    | zero =>
      simp at hi; subst hi
      cases h with
      | gone h1 _ => exact ⟨fun _ => rfl, fun h => (by rw [Nat.add_zero] at h; rw [h1] at h; cases h)⟩
      | same h1 h2 _ => exact ⟨fun h => (by rw [Nat.add_zero] at h; rw [h1] at h; cases h), fun _ => .inl h2.symm⟩
      | cells h1 h2 h3 _ => exact ⟨fun h => (by rw [Nat.add_zero] at h; rw [h1] at h; cases h), fun _ => .inr ⟨_, _, h2, rfl, h3.len, h3.get⟩⟩
    | succ i =>
      have hk : FzOs Ss n H (k + 1) l := by cases h <;> assumption
      have := ih hk i o (by simpa using hi)
      rw [show k + 1 + i = k + (i + 1) by omega] at this
      exact this
inductive FzE (S : Nat → Bool) (H : AH) (e : Env) : List (Nat × AV) → Prop where
  | nil : FzE S H e []
  | cons {t : Nat} {u v : AV} {L : List (Nat × AV)} : e t = some u → Fz S H u v → FzE S H e L → FzE S H e ((t, v) :: L)
theorem FzE.at {S : Nat → Bool} {H : AH} {e : Env} : ∀ {L : List (Nat × AV)}, FzE S H e L → ∀ t v, Env.ofList L t = some v → ∃ u, e t = some u ∧ Fz S H u v := by
  intro L h
  induction h with
  | nil => intro t v h; cases h
  | @cons t u v L h1 h2 _ ih =>
    intro j x hj
    unfold Env.ofList Env.set at hj
    by_cases hji : j = t
    · rw [if_pos hji] at hj
      injection hj with hj
      subst hj; subst hji
      exact ⟨u, h1, h2⟩
    · rw [if_neg hji] at hj
      exact ih j x hj
/-- Objects that are written no more. -/
theorem Sub.frz {C : Ctx} {F : Fr} {e : Env} {H : AH} (Ss : List Nat) (E0 : List (Nat × AV)) (Ls : List AObj) (hm : F.m = 0) (hn : H.n = Ls.length) (hO : FzOs Ss Ls.length H 0 Ls) (hE : FzE (frzS Ss Ls.length) H e E0) :
    Sub C F (Env.ofList E0) (hp Ls) e H := by
  refine Sub.freeze (frzS Ss Ls.length) (fun i hi => by omega) hE.at hn.symm (fun i => ?_)
  by_cases hi : i < Ls.length
  · have h1 : Ls[i]? = some Ls[i] := List.getElem?_eq_getElem hi
    have h2 := hO.at i _ h1
    rw [Nat.zero_add] at h2
    have h3 : (hp Ls).g i = Ls[i] := by show Ls.getD i .gone = _; rw [List.getD_eq_getElem?_getD, h1]; rfl
    have h4 : frzS Ss Ls.length i = Ss.contains i := by unfold frzS; rw [decide_eq_false (by omega), Bool.or_false]
    rw [h3, h4]
    exact h2
  · have h1 : Ls[i]? = none := List.getElem?_eq_none (by omega)
    have h3 : (hp Ls).g i = .gone := by show Ls.getD i .gone = _; rw [List.getD_eq_getElem?_getD, h1]; rfl
    have h4 : frzS Ss Ls.length i = true := by unfold frzS; rw [decide_eq_true (by omega), Bool.or_true]
    exact ⟨fun _ => h3, fun h => by rw [h4] at h; cases h⟩

/-! ### Objects that hold slices over others -/
inductive RnL (ρ : Nat → Option Nat) : List AV → List AV → Prop where
  | nil : RnL ρ [] []
  | cons {a a' : AV} {l l' : List AV} : Rn ρ a a' → RnL ρ l l' → RnL ρ (a :: l) (a' :: l')
theorem RnL.len {ρ : Nat → Option Nat} {l l' : List AV} (h : RnL ρ l l') : l'.length = l.length := by
  induction h with
  | nil => rfl
  | cons _ _ ih => simp [ih]
theorem RnL.get {ρ : Nat → Option Nat} {l l' : List AV} (h : RnL ρ l l') : ∀ (j : Nat) a a', l[j]? = some a → l'[j]? = some a' → Rn ρ a a' := by
  induction h with
  | nil => intro j a a' h; simp at h
  | cons h _ ih =>
    intro j a a' h1 h2
    cases j with
    | zero => simp at h1 h2; subst h1; subst h2; exact h
    | succ j => exact ih j a a' (by simpa using h1) (by simpa using h2)
/-! ### Parts of elements -/
theorem eArK_len {α : Type} {f : α → List AV} {k : Nat} (hf : ∀ a, (f a).length = k) (l : List α) : (eAr f l).length = l.length * k := flatMap_len hf l
theorem eArK_part {α : Type} {f : α → List AV} {k : Nat} (hf : ∀ a, (f a).length = k) {l : List α} {i : Nat} {a : α} (h : l[i]? = some a) {o s : Nat} (ho : o + s ≤ k) : ((eAr f l).drop (i * k + o)).take s = ((f a).drop o).take s := by
  have := flatMap_at hf l i a h
  have e1 : ((eAr f l).drop (i * k + o)).take s = ((((eAr f l).drop (i * k)).take k).drop o).take s := by
    rw [List.drop_take, List.drop_drop, List.take_take, Nat.min_eq_left (by omega)]
  rw [e1]
  show ((((l.flatMap f).drop (i * k)).take k).drop o).take s = _
  rw [this]
theorem eArK_set {α : Type} {f : α → List AV} {k : Nat} (hf : ∀ a, (f a).length = k) : ∀ (l : List α) (i : Nat) (a a' : α) (p : List AV) (o : Nat), l[i]? = some a → o + p.length ≤ k → f a' = (f a).take o ++ p ++ (f a).drop (o + p.length) →
    (eAr f l).take (i * k + o) ++ p ++ (eAr f l).drop (i * k + o + p.length) = eAr f (l.set i a') := by
  intro l
  induction l with
  | nil => intro i a a' p o h; simp at h
  | cons b l ih =>
    intro i a a' p o h ho hfa
    cases i with
    | zero =>
      simp at h; subst h
      have hb := hf b
      simp only [eAr, List.flatMap_cons, List.set_cons_zero, Nat.zero_mul, Nat.zero_add]
      rw [List.take_append_of_le_length (by omega), List.drop_append_of_le_length (by omega), hfa]
      simp
    | succ i =>
      have hb := hf b
      have h2 := ih i a a' p o (by simpa using h) ho hfa
      simp only [eAr, List.flatMap_cons, List.set_cons_succ] at h2 ⊢
      have e : (i + 1) * k + o = k + (i * k + o) := by rw [Nat.succ_mul]; omega
      rw [← h2, e, List.take_append, List.drop_append, hb, List.take_of_length_le (l := f b) (by omega), List.drop_of_length_le (l := f b) (by omega), show k + (i * k + o) - k = i * k + o by omega, show k + (i * k + o) + p.length - k = i * k + o + p.length by omega]
      simp
section ws
variable {P : AH → Prop} {C : Ctx} {F : Fr} {e e0 e1 : Env} {H H1 : AH} {Q : AX → Env → AH → Prop} {N base M i : Nat} {S : List Nat} {all l : List Oper} {o : Oper} {v : AV} {R : Env → AH → Prop}

/-- What an append makes, to be written. -/
theorem Wg.appM {α : Type} {f : α → List AV} {xs ys zs : List α} {c2 : Cap} {s x : Operand} {t u : TypeId} {d du : ATy} {esz eb esz2 eb2 : Nat} {ez ez2 : List AV} (hM : M ≤ i) (hd : dstOk N o.dst = true) (hw : wantedA all e o = some true) (hop : o.op = .call { callee := .builtin .append, args := #[s, x], argTypes := #[t, u] }) (ht : C.T t = some d) (hu : C.T u = some du)
    (hsh : d.shape = .slice esz eb ez) (hsh2 : du.shape = .slice esz2 eb2 ez2) (hs : evalA C e s = some (lst f xs .full)) (hx : evalA C e x = some (lst f ys c2)) (hf : ∀ a, (f a).length = esz) (hp : 0 < esz) (hb : 0 < eb) (hy : 0 < ys.length)
    (ha : ap eb xs ys = some zs) (h : Wg P C N all base M S (i + 1) l (e.put o.dst (.ms H.n 0 zs.length none)) (H.push (.cells (eAr f zs))) R) (hP : P H := by trivial) : Wg P C N all base M S i (o :: l) e H R := by
  obtain ⟨rfl, hbd⟩ := ap_some ha
  have hm : (ys.flatMap f).length = ys.length * esz := flatMap_len hf ys
  refine Wg.stepH hM hd (.heavy true hw (by unfold isHeavy; rw [hop]) ?_) (reading_heavy (by unfold isHeavy; rw [hop])) h hP
  simp only [heavyA, hop, ht, hu, hs, hx, lst, hsh, hsh2, readA, hm, if_true]
  rw [if_pos ⟨flatMap_len hf xs, hp, hb, hbd⟩, if_neg (by omega)]
  simp [eAr]
/-- A part of an element is read. -/
theorem Wg.ldE {α : Type} {f : α → List AV} {xs : List α} {j : Int} {x : Operand} {t : TypeId} {d : ATy} {id off k q : Nat} {a : α} {u : AV} (hd : dstOk N o.dst = true) (hw : wantedA all e o = some true) (hop : o.op = .load t x) (ht : C.T t = some d)
    (hx : evalA C e x = some (.ptr id off)) (ho : off = j.toNat * k + q) (hq : q + d.size ≤ k) (hg : H.g id = .cells (eAr f xs)) (hf : ∀ a, (f a).length = k) (hi : ix xs j = some a) (hfa : pack d.agg (((f a).drop q).take d.size) = some u) (hS : S.contains i = false)
    (h : Wg P C N all base M S (i + 1) l (e.put o.dst u) H R) : Wg P C N all base M S i (o :: l) e H R := by
  obtain ⟨h0, hi⟩ := ix_some hi
  have hlt := (List.getElem?_eq_some_iff.1 hi).1
  subst ho
  refine Wg.ld hd hw (by unfold isHeavy; rw [hop]) (by unfold isAlloc; rw [hop]) ?_ hS h
  have hle : j.toNat * k + k ≤ xs.length * k := by rw [← Nat.succ_mul]; exact Nat.mul_le_mul_right k hlt
  simp only [lightA, hop, ht, hx, loadA, hg]
  rw [if_pos (by rw [eArK_len hf]; omega), eArK_part hf hi hq, hfa]
/-- A part of an element is written. -/
theorem Wg.stE {α : Type} {f : α → List AV} {xs ys : List α} {j : Int} {x y : Operand} {t : TypeId} {d : ATy} {id off k q : Nat} {a a' : α} {u : AV} (hM : M ≤ i) (hd : dstOk N o.dst = true) (hw : wantedA all e o = some true) (hop : o.op = .store t x y) (ht : C.T t = some d)
    (hx : evalA C e x = some (.ptr id off)) (hy : evalA C e y = some u) (hu : u.cells.length = d.size) (hone : u.cells.all AV.one = true) (ho : off = j.toNat * k + q) (hq : q + d.size ≤ k) (hg : H.g id = .cells (eAr f xs)) (hf : ∀ a, (f a).length = k)
    (ha : ix xs j = some a) (hfa : f a' = (f a).take q ++ u.cells ++ (f a).drop (q + u.cells.length)) (hi : setA xs j a' = some ys)
    (h : Wg P C N all base M S (i + 1) l (e.put o.dst (.tuple [])) (H.set id (.cells (eAr f ys))) R) (hP : P H := by trivial) : Wg P C N all base M S i (o :: l) e H R := by
  obtain ⟨h0, hlt, rfl⟩ := setA_some hi
  obtain ⟨_, ha⟩ := ix_some ha
  subst ho
  refine Wg.heavy true hM hd hw (by unfold isHeavy; rw [hop]) ?_ h hP
  have hle : j.toNat * k + k ≤ xs.length * k := by rw [← Nat.succ_mul]; exact Nat.mul_le_mul_right k hlt
  simp only [heavyA, hop, ht, hx, hy, hg]
  rw [if_pos ⟨hu, by rw [eArK_len hf]; omega, hone⟩, ← hu, eArK_set hf xs _ a a' u.cells q ha (by omega) hfa]
end ws
end Go.Abs
