/- Rules by which printed walks go: arrays, maps, slices that are made, function values. Conditions: none (definitions and lemmas). -/
import Derived.Test.YtdlofkamkiojlaaDoorXGp
set_option linter.unusedVariables false
set_option linter.unusedSimpArgs false
namespace Go.Abs
open Go

/-- The cells of an array. -/
def eAr {α : Type} (f : α → List AV) (l : List α) : List AV := l.flatMap f
theorem pAr {α : Type} {f : α → List AV} (h : ∀ a, ∀ x ∈ f a, Pure x) (l : List α) : ∀ x ∈ eAr f l, Pure x := fun x hx => by
  obtain ⟨a, _, ha⟩ := List.mem_flatMap.1 hx
  exact h a x ha
def inA (n : Nat) (j : Int) : Option Unit := if 0 ≤ j ∧ j < n then some () else none
def lenC {α : Type} (n : Nat) (l : List α) : Option Unit := if l.length = n then some () else none
def setA {α : Type} (l : List α) (j : Int) (v : α) : Option (List α) := if 0 ≤ j ∧ j.toNat < l.length then some (l.set j.toNat v) else none
def mkC (eb : Nat) (n : Int) : Option Unit := if 0 ≤ n ∧ n ≤ 2 ^ 40 ∧ eb * n ≤ 2 ^ 48 then some () else none
def lk {α : Type} (m : List (Int × List α)) (k : Int) : List α := match m.find? (fun p => k == p.1) with
  | some p => p.2
  | none => []
def lkC {α : Type} (m : List (Int × List α)) (k : Int) : Cap := match m.find? (fun p => k == p.1) with
  | some _ => .unk
  | none => .full
theorem inA_some {n : Nat} {j : Int} {u : Unit} (h : inA n j = some u) : 0 ≤ j ∧ j < n := by
  unfold inA at h
  split at h
  · assumption
  · cases h
theorem lenC_some {α : Type} {n : Nat} {l : List α} {u : Unit} (h : lenC n l = some u) : l.length = n := by
  unfold lenC at h
  split at h
  · assumption
  · cases h
theorem setA_some {α : Type} {l l' : List α} {j : Int} {v : α} (h : setA l j v = some l') : 0 ≤ j ∧ j.toNat < l.length ∧ l' = l.set j.toNat v := by
  unfold setA at h
  split at h
  · rename_i hc; injection h with h; exact ⟨hc.1, hc.2, h.symm⟩
  · cases h
theorem mkC_some {eb : Nat} {n : Int} {u : Unit} (h : mkC eb n = some u) : 0 ≤ n ∧ n ≤ 2 ^ 40 ∧ eb * n ≤ 2 ^ 48 := by
  unfold mkC at h
  split at h
  · assumption
  · cases h
theorem eAr_len {α : Type} {f : α → List AV} (hf : ∀ a, (f a).length = 1) (l : List α) : (eAr f l).length = l.length := by
  have := flatMap_len hf l
  simpa [eAr] using this
theorem eAr_at {α : Type} {f : α → List AV} (hf : ∀ a, (f a).length = 1) {l : List α} {i : Nat} {a : α} (h : l[i]? = some a) : ((eAr f l).drop i).take 1 = f a := by
  have := flatMap_at hf l i a h
  simpa [eAr] using this
theorem eAr_ones {α : Type} {f : α → List AV} (hf : ∀ a, (f a).all AV.one = true) (l : List α) : (eAr f l).all AV.one = true := by
  induction l with
  | nil => rfl
  | cons a l ih =>
    simp only [eAr, List.flatMap_cons, List.all_append, hf a, Bool.true_and]
    exact ih
theorem eAr_set {α : Type} {f : α → List AV} (hf : ∀ a, (f a).length = 1) : ∀ (l : List α) (i : Nat) (a : α), i < l.length → (eAr f l).take i ++ f a ++ (eAr f l).drop (i + 1) = eAr f (l.set i a) := by
  intro l
  induction l with
  | nil => intro i a h; cases h
  | cons b l ih =>
    intro i a h
    have hb := hf b
    cases i with
    | zero =>
      simp only [eAr, List.flatMap_cons, List.set_cons_zero, List.take_zero, List.nil_append]
      rw [List.drop_append_of_le_length (by omega), List.drop_of_length_le (by omega), List.nil_append]
    | succ i =>
      have h2 := ih i a (by simpa using h)
      simp only [eAr, List.flatMap_cons, List.set_cons_succ] at h2 ⊢
      rw [← h2, List.take_append, List.drop_append, hb, List.take_of_length_le (l := f b) (by omega), List.drop_of_length_le (l := f b) (by omega)]
      simp

theorem EnvCv.ms {ρ : Nat → Option Nat} {e : Env} {H : AH} {t i j off n : Nat} {c : Option Nat} {L : List (Nat × AV)} (h : e t = some (.ms j off n c)) (hr : ρ i = some j) (k : EnvCv ρ H e L) : EnvCv ρ H e ((t, .ms i off n c) :: L) := .add h (.refl _) (.ms hr) k
section wq
variable {P : AH → Prop} {C : Ctx} {F : Fr} {e e0 e1 : Env} {H H1 : AH} {Q : AX → Env → AH → Prop} {N base M i : Nat} {S : List Nat} {all l : List Oper} {o : Oper} {v : AV} {R : Env → AH → Prop}

/-- An element's place in an array. -/
theorem Wg.idxP {k : IntKind} {j : Int} {x ix' : Operand} {t : TypeId} {d : ATy} {len esz id off : Nat} {ea : Bool} {u : Unit} (hd : dstOk N o.dst = true) (hw : wantedA all e o = some true)
    (hop : o.op = .indexAddr t x ix') (ht : C.T t = some d) (hsh : d.shape = .array len esz ea) (hx : evalA C e x = some (.ptr id off)) (hi : evalA C e ix' = some (.int k j)) (hin : inA len j = some u)
    (h : Wg P C N all base M S (i + 1) l (e.put o.dst (.ptr id (off + j.toNat * esz))) H R) : Wg P C N all base M S i (o :: l) e H R := by
  refine Wg.li hd hw (by unfold isHeavy; rw [hop]) (by unfold isAlloc; rw [hop]) (fun H' => ?_) h
  simp only [lightA, hop, ht, hx, hi, indexAddrA, hsh]
  rw [if_pos (inA_some hin)]
/-- An element's place in an array that is only read. -/
theorem Wg.idxR {α : Type} {f : α → List AV} {xs : List α} {k : IntKind} {j : Int} {x ix' : Operand} {t : TypeId} {d : ATy} {len : Nat} {ea : Bool} {u : Unit} (hd : dstOk N o.dst = true) (hw : wantedA all e o = some true)
    (hop : o.op = .indexAddr t x ix') (ht : C.T t = some d) (hsh : d.shape = .array len 1 ea) (hx : evalA C e x = some (.ro (eAr f xs))) (hi : evalA C e ix' = some (.int k j)) (hin : inA len j = some u)
    (h : Wg P C N all base M S (i + 1) l (e.put o.dst (.ro ((eAr f xs).drop j.toNat))) H R) : Wg P C N all base M S i (o :: l) e H R := by
  refine Wg.li hd hw (by unfold isHeavy; rw [hop]) (by unfold isAlloc; rw [hop]) (fun H' => ?_) h
  simp only [lightA, hop, ht, hx, hi, indexAddrA, hsh, Nat.mul_one]
  rw [if_pos (inA_some hin)]
theorem Wg.ldR {α : Type} {f : α → List AV} {xs : List α} {j : Int} {x : Operand} {t : TypeId} {d : ATy} {a : α} {u : AV} (hd : dstOk N o.dst = true) (hw : wantedA all e o = some true) (hop : o.op = .load t x) (ht : C.T t = some d) (hs : d.size = 1) (ha : d.agg = false)
    (hx : evalA C e x = some (.ro ((eAr f xs).drop j.toNat))) (hf : ∀ a, (f a).length = 1) (hfa : f a = [u]) (hi : ix xs j = some a)
    (h : Wg P C N all base M S (i + 1) l (e.put o.dst u) H R) : Wg P C N all base M S i (o :: l) e H R := by
  obtain ⟨h0, hi⟩ := ix_some hi
  have hlt := (List.getElem?_eq_some_iff.1 hi).1
  refine Wg.li hd hw (by unfold isHeavy; rw [hop]) (by unfold isAlloc; rw [hop]) (fun H' => ?_) h
  simp only [lightA, hop, ht, hx, loadA, hs, ha]
  rw [if_pos (by rw [List.length_drop, eAr_len hf]; omega), eAr_at hf hi, hfa]
  rfl
theorem Wg.ldP {α : Type} {f : α → List AV} {xs : List α} {j : Int} {x : Operand} {t : TypeId} {d : ATy} {id off : Nat} {a : α} {u : AV} (hd : dstOk N o.dst = true) (hw : wantedA all e o = some true) (hop : o.op = .load t x) (ht : C.T t = some d) (hs : d.size = 1) (ha : d.agg = false)
    (hx : evalA C e x = some (.ptr id off)) (ho : off = j.toNat) (hg : H.g id = .cells (eAr f xs)) (hf : ∀ a, (f a).length = 1) (hfa : f a = [u]) (hi : ix xs j = some a) (hS : S.contains i = false)
    (h : Wg P C N all base M S (i + 1) l (e.put o.dst u) H R) : Wg P C N all base M S i (o :: l) e H R := by
  obtain ⟨h0, hi⟩ := ix_some hi
  have hlt := (List.getElem?_eq_some_iff.1 hi).1
  subst ho
  refine Wg.ld hd hw (by unfold isHeavy; rw [hop]) (by unfold isAlloc; rw [hop]) ?_ hS h
  simp only [lightA, hop, ht, hx, loadA, hs, ha, hg]
  rw [if_pos (by rw [eAr_len hf]; omega), eAr_at hf hi, hfa]
  rfl
theorem Wg.stP {α : Type} {f : α → List AV} {xs ys : List α} {j : Int} {x y : Operand} {t : TypeId} {d : ATy} {id off : Nat} {a : α} {u : AV} (hM : M ≤ i) (hd : dstOk N o.dst = true) (hw : wantedA all e o = some true) (hop : o.op = .store t x y) (ht : C.T t = some d) (hs : d.size = 1)
    (hx : evalA C e x = some (.ptr id off)) (hy : evalA C e y = some u) (hu : u.cells = f a) (hone : (f a).all AV.one = true) (ho : off = j.toNat) (hg : H.g id = .cells (eAr f xs)) (hf : ∀ a, (f a).length = 1) (hi : setA xs j a = some ys)
    (h : Wg P C N all base M S (i + 1) l (e.put o.dst (.tuple [])) (H.set id (.cells (eAr f ys))) R) (hP : P H := by trivial) : Wg P C N all base M S i (o :: l) e H R := by
  obtain ⟨h0, hlt, rfl⟩ := setA_some hi
  subst ho
  refine Wg.heavy true hM hd hw (by unfold isHeavy; rw [hop]) ?_ h hP
  simp only [heavyA, hop, ht, hx, hy, hg, hu, hs]
  rw [if_pos ⟨hf a, by rw [eAr_len hf]; omega, hone⟩, eAr_set hf xs _ a hlt]
/-- A whole array. -/
theorem Wg.ldA {α : Type} {f : α → List AV} {xs : List α} {n : Nat} {x : Operand} {t : TypeId} {d : ATy} {id : Nat} {w : Unit} (hd : dstOk N o.dst = true) (hw : wantedA all e o = some true) (hop : o.op = .load t x) (ht : C.T t = some d) (hs : d.size = n) (ha : d.agg = true)
    (hx : evalA C e x = some (.ptr id 0)) (hg : H.g id = .cells (eAr f xs)) (hf : ∀ a, (f a).length = 1) (hl : lenC n xs = some w) (hS : S.contains i = false)
    (h : Wg P C N all base M S (i + 1) l (e.put o.dst (.agg (eAr f xs))) H R) : Wg P C N all base M S i (o :: l) e H R := by
  have hlen := lenC_some hl
  refine Wg.ld hd hw (by unfold isHeavy; rw [hop]) (by unfold isAlloc; rw [hop]) ?_ hS h
  have he := eAr_len hf xs
  simp only [lightA, hop, ht, hx, loadA, hs, ha, hg, Nat.zero_add, List.drop_zero]
  rw [if_pos (by omega), List.take_of_length_le (by omega)]
  rfl
theorem Wg.ldAR {α : Type} {f : α → List AV} {xs : List α} {n : Nat} {x : Operand} {t : TypeId} {d : ATy} {w : Unit} (hd : dstOk N o.dst = true) (hw : wantedA all e o = some true) (hop : o.op = .load t x) (ht : C.T t = some d) (hs : d.size = n) (ha : d.agg = true)
    (hx : evalA C e x = some (.ro (eAr f xs))) (hf : ∀ a, (f a).length = 1) (hl : lenC n xs = some w)
    (h : Wg P C N all base M S (i + 1) l (e.put o.dst (.agg (eAr f xs))) H R) : Wg P C N all base M S i (o :: l) e H R := by
  have hlen := lenC_some hl
  refine Wg.li hd hw (by unfold isHeavy; rw [hop]) (by unfold isAlloc; rw [hop]) (fun H' => ?_) h
  have he := eAr_len hf xs
  simp only [lightA, hop, ht, hx, loadA, hs, ha]
  rw [if_pos (by omega), List.take_of_length_le (by omega)]
  rfl
theorem Wg.stA {α : Type} {f : α → List AV} {xs ys : List α} {n : Nat} {x y : Operand} {t : TypeId} {d : ATy} {id : Nat} {w : Unit} (hM : M ≤ i) (hd : dstOk N o.dst = true) (hw : wantedA all e o = some true) (hop : o.op = .store t x y) (ht : C.T t = some d) (hs : d.size = n)
    (hx : evalA C e x = some (.ptr id 0)) (hy : evalA C e y = some (.agg (eAr f ys))) (hone : ∀ a, (f a).all AV.one = true) (hg : H.g id = .cells (eAr f xs)) (hf : ∀ a, (f a).length = 1) (hl : lenC n ys = some w) (hl0 : xs.length = n)
    (h : Wg P C N all base M S (i + 1) l (e.put o.dst (.tuple [])) (H.set id (.cells (eAr f ys))) R) (hP : P H := by trivial) : Wg P C N all base M S i (o :: l) e H R := by
  have hlen := lenC_some hl
  refine Wg.heavy true hM hd hw (by unfold isHeavy; rw [hop]) ?_ h hP
  have h1 := eAr_len hf xs
  have h2 := eAr_len hf ys
  simp only [heavyA, hop, ht, hx, hy, hg, hs, AV.cells]
  rw [if_pos ⟨by omega, by omega, eAr_ones hone ys⟩]
  simp [List.drop_of_length_le (show (eAr f xs).length ≤ n by omega)]
theorem eAr_bools (p : List Bool) : eAr eBool p = eBools p := by
  induction p with
  | nil => rfl
  | cons b p ih =>
    simp only [eAr, List.flatMap_cons, eBools, List.map_cons] at ih ⊢
    rw [ih]
    rfl
/-- Arrays of truth values, compared. -/
theorem Wg.eqAr {op : BinOp} {n : Nat} {p q : List Bool} {x y : Operand} {t t2 : TypeId} {d : ATy} {w w2 : Unit} (hd : dstOk N o.dst = true) (hw : wantedA all e o = some true) (hop : o.op = .binOp op t x y t2) (hoo : op = .eql ∨ op = .neq) (ht : C.T t = some d) (hp : d.plain = some (List.replicate n none))
    (hx : evalA C e x = some (.agg (eAr eBool p))) (hy : evalA C e y = some (.agg (eAr eBool q))) (hl : lenC n p = some w) (hl' : lenC n q = some w2)
    (h : Wg P C N all base M S (i + 1) l (e.put o.dst (.bool (if op = .eql then decide (p = q) else !decide (p = q)))) H R) : Wg P C N all base M S i (o :: l) e H R := by
  have h1 := lenC_some hl
  have h2 := lenC_some hl'
  refine Wg.li hd hw (by unfold isHeavy; rw [hop]) (by unfold isAlloc; rw [hop]) (fun H' => ?_) h
  have hn : nilA C op t (.agg (eAr eBool p)) y = none := by
    unfold nilA
    split
    · rename_i h; cases h
    · rfl
  have he : eqA C t (.agg (eAr eBool p)) (.agg (eAr eBool q)) = some (decide (p = q)) := by
    simp only [eqA, ht, hp]
    rw [eAr_bools, eAr_bools, ← h1, eqCells_bools p q (by omega)]
  simp only [lightA, hop, hx, hy, hn]
  rcases hoo with rfl | rfl
  · simp only [binA, he]; rfl
  · simp only [binA, he]; rfl

/-- A look into a map that is only read. -/
theorem find_legs {α : Type} {f : α → List AV} {dk : ATy} {k0 : IntKind} (hk : dk.shape = .int k0) (k : Int) : ∀ m : List (Int × List α), findA dk (.int .i64 k) (m.map fun p => (AV.int .i64 p.1, lst f p.2 .unk)) = some ((m.find? (fun p => k == p.1)).map fun p => lst f p.2 .unk) := by
  intro m
  have he : ∀ a : Int, keyEq dk (.int .i64 k) (.int .i64 a) = some (k == a) := by
    intro a
    simp [keyEq, hk]
  induction m with
  | nil => simp [findA, he]
  | cons p m ih =>
    simp only [List.map_cons, findA, he, List.find?_cons]
    cases hb : k == p.1 with
    | true => rfl
    | false => simp only [ih]
theorem Wg.look {α : Type} {f : α → List AV} {m : List (Int × List α)} {k : Int} {x y : Operand} {t kt : TypeId} {d dk : ATy} {k0 : IntKind} (hd : dstOk N o.dst = true) (hw : wantedA all e o = some true) (hop : o.op = .lookup t x y false) (ht : C.T t = some d) (hsh : d.shape = .map kt [.list 0 [] .full] false)
    (hkt : C.T kt = some dk) (hdk : dk.shape = .int k0) (hx : evalA C e x = some (.romap (m.map fun p => (AV.int .i64 p.1, lst f p.2 .unk)))) (hy : evalA C e y = some (.int .i64 k))
    (h : Wg P C N all base M S (i + 1) l (e.put o.dst (lst f (lk m k) (lkC m k))) H R) : Wg P C N all base M S i (o :: l) e H R := by
  refine Wg.li hd hw (by unfold isHeavy; rw [hop]) (by unfold isAlloc; rw [hop]) (fun H' => ?_) h
  simp only [lightA, hop, ht, hx, hy, hsh, mapA, hkt, find_legs hdk, lk, lkC]
  cases m.find? (fun p => k == p.1) with
  | none => rfl
  | some p => rfl

/-- make([]T, n). -/
theorem Wg.mk {α : Type} {f : α → List AV} {z : α} {n : Int} {x : Operand} {t : TypeId} {d : ATy} {esz eb : Nat} {ez : List AV} {w : Unit} (hM : M ≤ i) (hd : dstOk N o.dst = true) (hw : wantedA all e o = some true) (hop : o.op = .makeSlice t x x) (ht : C.T t = some d) (hsh : d.shape = .slice esz eb ez)
    (hx : evalA C e x = some (.int .i64 n)) (hz : f z = ez) (hp : 0 < esz) (hez : ez.length = esz) (hc : mkC eb n = some w)
    (h : Wg P C N all base M S (i + 1) l (e.put o.dst (.ms H.n 0 n.toNat (some n.toNat))) (H.push (.cells (eAr f (List.replicate n.toNat z)))) R) (hP : P H := by trivial) : Wg P C N all base M S i (o :: l) e H R := by
  obtain ⟨c1, c2, c3⟩ := mkC_some hc
  refine Wg.heavy true hM hd hw (by unfold isHeavy; rw [hop]) ?_ h hP
  simp only [heavyA, hop, ht, hx, hsh]
  rw [if_pos ⟨c1, Int.le_refl _, c2, by exact_mod_cast c3, hp, hez⟩]
  have : ∀ k, (List.replicate k ez).flatten = eAr f (List.replicate k z) := by
    intro k
    induction k with
    | zero => rfl
    | succ k ih => simp only [List.replicate_succ, List.flatten_cons, eAr, List.flatMap_cons, hz] at ih ⊢; rw [ih]
  rw [this]
/-- An element's place in a slice that was made. -/
theorem Wg.idxM {k : IntKind} {j : Int} {x ix' : Operand} {t : TypeId} {d : ATy} {esz eb id n : Nat} {cap : Option Nat} {ez : List AV} {u : Unit} (hd : dstOk N o.dst = true) (hw : wantedA all e o = some true)
    (hop : o.op = .indexAddr t x ix') (ht : C.T t = some d) (hsh : d.shape = .slice esz eb ez) (hx : evalA C e x = some (.ms id 0 n cap)) (hi : evalA C e ix' = some (.int k j)) (hin : inA n j = some u)
    (h : Wg P C N all base M S (i + 1) l (e.put o.dst (.ptr id (0 + j.toNat * esz))) H R) : Wg P C N all base M S i (o :: l) e H R := by
  refine Wg.li hd hw (by unfold isHeavy; rw [hop]) (by unfold isAlloc; rw [hop]) (fun H' => ?_) h
  simp only [lightA, hop, ht, hx, hi, indexAddrA, hsh]
  rw [if_pos (inA_some hin)]
def neC {α : Type} (l : List α) : Option Unit := if l.isEmpty then none else some ()
theorem neC_some {α : Type} {l : List α} {u : Unit} (h : neC l = some u) : 0 < l.length := by
  unfold neC at h
  split at h
  · cases h
  · rename_i hh; exact ne_len (by simpa using hh)
/-- A slice that holds something is not nil. -/
theorem Wg.notnil {α : Type} {f : α → List AV} {xs : List α} {c : Cap} {t t2 : TypeId} {x : Operand} {d : ATy} {esz eb : Nat} {ez : List AV} {u : Unit} (hd : dstOk N o.dst = true) (hw : wantedA all e o = some true) (hop : o.op = .binOp .eql t x (.const (.slice none 0 0)) t2)
    (hx : evalA C e x = some (lst f xs c)) (ht : C.T t = some d) (hsh : d.shape = .slice esz eb ez) (hf : ∀ a, (f a).length = esz) (hp : 0 < esz) (h0 : neC xs = some u)
    (h : Wg P C N all base M S (i + 1) l (e.put o.dst (.bool false)) H R) : Wg P C N all base M S i (o :: l) e H R := by
  have h0 := neC_some h0
  refine Wg.li hd hw (by unfold isHeavy; rw [hop]) (by unfold isAlloc; rw [hop]) (fun H' => ?_) h
  have hne : (xs.flatMap f).isEmpty = false := by
    have := flatMap_len hf xs
    cases hc : xs.flatMap f with
    | nil => rw [hc, List.length_nil] at this; have := Nat.mul_pos h0 hp; omega
    | cons a l => rfl
  have hy : evalA C e (.const (.slice none 0 0)) = some (.list 0 [] .full) := rfl
  simp only [lightA, hop, hx, hy, nilA, lst, ht, hsh]
  simp only [hne, Bool.false_eq_true, if_false]
end wq
end Go.Abs
