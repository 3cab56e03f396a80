/- The operations that change nothing that can be changed: what the abstract step says, the machine does. Conditions: the table of types fits the program. -/
import Derived.Test.YtdlofkamkiojlaaDoorXRel
import Derived.Laws.Entries
import Derived.IntWalk
set_option linter.unusedVariables false
set_option linter.unusedSimpArgs false
namespace Go.Abs
open Go Go.RowKit

theorem wrap64_in (n : Int) (h1 : -9223372036854775808 ≤ n) (h2 : n ≤ 9223372036854775807) : IntKind.i64.wrap n = n := IntWalk.i64_in n ⟨h1, h2⟩

/-- A zero value that holds no address. -/
def zeroB : List AV → List Value → Bool
  | [], [] => true
  | .bool a :: as, .bool b :: bs => (a == b) && zeroB as bs
  | .int k a :: as, .int k' b :: bs => k == k' && a == b && zeroB as bs
  | .list 0 [] .full :: as, .slice none 0 0 :: bs => zeroB as bs
  | .nilmap :: as, .map none :: bs => zeroB as bs
  | .nilFunc :: as, .nilFunc :: bs => zeroB as bs
  | _, _ => false
theorem RepV.nilslice (K : Kr) : RepV K (.list 0 [] .full) (.slice none 0 0) := .list [] rfl (.inl rfl) (fun _ h => by simp at h) (fun j a v h => by simp at h) (Nat.le_refl _) rfl
theorem zeroB_rep (K : Kr) : ∀ {as : List AV} {vs : List Value}, zeroB as vs = true → RepL K as vs ∧ ∀ a ∈ as, a.one = true := by
  intro as
  induction as with
  | nil => intro vs h; cases vs with
    | nil => exact ⟨.nil K, fun _ h => by simp at h⟩
    | cons v vs => simp [zeroB] at h
  | cons a as ih =>
    intro vs h
    cases vs with
    | nil => cases a <;> simp [zeroB] at h
    | cons v vs =>
      unfold zeroB at h
      split at h
      · rename_i he; cases he
      · rename_i e1 e2; injection e1 with e1 e1'; injection e2 with e2 e2'; subst e1; subst e2; subst e1'; subst e2'
        simp only [Bool.and_eq_true, beq_iff_eq] at h
        obtain ⟨rfl, h⟩ := h
        obtain ⟨i1, i2⟩ := ih h
        exact ⟨.cons (.bool _) i1, fun x hx => by rcases List.mem_cons.1 hx with rfl | hx; exact rfl; exact i2 x hx⟩
      · rename_i e1 e2; injection e1 with e1 e1'; injection e2 with e2 e2'; subst e1; subst e2; subst e1'; subst e2'
        simp only [Bool.and_eq_true, beq_iff_eq] at h
        obtain ⟨⟨rfl, rfl⟩, h⟩ := h
        obtain ⟨i1, i2⟩ := ih h
        exact ⟨.cons (.int _ _) i1, fun x hx => by rcases List.mem_cons.1 hx with rfl | hx; exact rfl; exact i2 x hx⟩
      · rename_i e1 e2; injection e1 with e1 e1'; injection e2 with e2 e2'; subst e1; subst e2; subst e1'; subst e2'
        obtain ⟨i1, i2⟩ := ih h
        exact ⟨.cons (.nilslice K) i1, fun x hx => by rcases List.mem_cons.1 hx with rfl | hx; exact rfl; exact i2 x hx⟩
      · rename_i e1 e2; injection e1 with e1 e1'; injection e2 with e2 e2'; subst e1; subst e2; subst e1'; subst e2'
        obtain ⟨i1, i2⟩ := ih h
        exact ⟨.cons .nilmap i1, fun x hx => by rcases List.mem_cons.1 hx with rfl | hx; exact rfl; exact i2 x hx⟩
      · rename_i e1 e2; injection e1 with e1 e1'; injection e2 with e2 e2'; subst e1; subst e2; subst e1'; subst e2'
        obtain ⟨i1, i2⟩ := ih h
        exact ⟨.cons .nilFunc i1, fun x hx => by rcases List.mem_cons.1 hx with rfl | hx; exact rfl; exact i2 x hx⟩
      · cases h

def aggU : TypeDesc → Bool
  | .struct _ | .array _ _ => true
  | _ => false
structure InfoOk (P : Program) (t : TypeId) (size bytes : Nat) (zero : List AV) (u : TypeDesc) : Prop where
  un : P.underlying t = some u
  i : ∃ i z, P.info? t = some i ∧ i.size = size ∧ i.bytes = bytes ∧ i.zero = some z ∧ zeroB zero z.cells.toList = true ∧ (aggU u = true → ∃ cs, z = .agg cs) ∧ (aggU u = false → ∀ cs, z ≠ .agg cs) ∧ zero.length = size
def ShapeOk (P : Program) (u : TypeDesc) : AShape → Prop
  | .prim => True
  | .bool => u = .bool
  | .int k => u = .int k
  | .struct fs => ∃ fields, u = .struct fields ∧ fields.toList.length = fs.length ∧ ∀ (j : Nat) f fl, fs[j]? = some f → fields[j]? = some fl → fl.offset = f.1 ∧ ∃ b z u', InfoOk P fl.type f.2.1 b z u' ∧ aggU u' = f.2.2
  | .array len esz ea => ∃ e b z u', u = .array len e ∧ InfoOk P e esz b z u' ∧ aggU u' = ea
  | .slice esz eb ez => ∃ e u', u = .slice e ∧ InfoOk P e esz eb ez u'
  | .map kt z ea => ∃ e sz b u', u = .map kt e ∧ InfoOk P e sz b z u' ∧ aggU u' = ea
/-- Two values whose cells are numbers and truth values of these kinds. -/
def PlainOk (P : Program) (t : TypeId) (ks : List (Option IntKind)) : Prop :=
  ∀ (xs ys : List AV) (r : Bool) (us vs : List Value) (K : Kr) (w : World), eqCells ks xs ys = some r → RepL K xs us → RepL K ys vs →
    (Op.equal t (.agg us.toArray) (.agg vs.toArray)).run P w = .ok r w ∧ P.eqGuardType P.depth t = false ∧
    (∀ e, (Instr.checkKey e 10000 t (.agg us.toArray)).run P w = .ok () w)
structure TyOk (P : Program) (t : TypeId) (d : ATy) : Prop where
  i : ∃ b u, InfoOk P t d.size b d.zero u ∧ aggU u = d.agg ∧ ShapeOk P u d.shape
  plain : ∀ ks, d.plain = some ks → PlainOk P t ks
structure CtxOk (C : Ctx) : Prop where
  mixed : C.P.follows .mixedOrders = true
  ty : ∀ t d, C.T t = some d → TyOk C.P t d

theorem run_underlying' {P : Program} {t : TypeId} {u : TypeDesc} (h : P.underlying t = some u) (w : World) : (underlying t).run P w = .ok u w := run_underlying h w
theorem run_typeInfo' {P : Program} {t : TypeId} {i : TypeInfo} (h : P.info? t = some i) (w : World) : (typeInfo t).run P w = .ok i w := by simp [typeInfo, h]
section info
variable {P : Program} {t : TypeId} {size bytes : Nat} {zero : List AV} {u : TypeDesc}
theorem InfoOk.sizeOf (h : InfoOk P t size bytes zero u) (w : World) : (sizeOf t).run P w = .ok size w := by
  obtain ⟨i, z, hi, h1, _⟩ := h.i
  simp [Go.sizeOf, run_typeInfo' hi, h1]
theorem InfoOk.isAgg (h : InfoOk P t size bytes zero u) (w : World) : (isAgg t).run P w = .ok (aggU u) w := by
  have hu := h.un
  simp only [Go.isAgg, Sem.run_bind, run_underlying' hu, Result.andThen_ok]
  cases u <;> rfl
theorem InfoOk.zeroValue (h : InfoOk P t size bytes zero u) (w : World) : ∃ z, (zeroValue t).run P w = .ok z w ∧ zeroB zero z.cells.toList = true ∧ (aggU u = true → ∃ cs, z = .agg cs) ∧ (aggU u = false → ∀ cs, z ≠ .agg cs) := by
  obtain ⟨i, z, hi, h1, h2, h3, h4, h5, h6, h7⟩ := h.i
  exact ⟨z, by simp [Go.zeroValue, run_typeInfo' hi, h3], h4, h5, h6⟩
theorem InfoOk.len (h : InfoOk P t size bytes zero u) : zero.length = size := by obtain ⟨i, z, _, _, _, _, _, _, _, h7⟩ := h.i; exact h7
end info

theorem add_at (b o i : Nat) : (⟨b, o, none⟩ : Addr).add i = ⟨b, o + i, none⟩ := by
  unfold Addr.add
  by_cases h : i = 0
  · rw [if_pos h, h]; rfl
  · rw [if_neg h]

theorem run_loadCellsFrom (P : Program) (w : World) (b o : Nat) : ∀ (vs : List Value) (i : Nat) (acc : Array Value), (∀ j v, vs[j]? = some v → w.cell? ⟨b, o + i + j, none⟩ = some v) →
    (loadCellsFrom ⟨b, o, none⟩ i vs.length acc).run P w = .ok (acc ++ vs.toArray) w := by
  intro vs
  induction vs with
  | nil => intro i acc h; simp [loadCellsFrom]
  | cons v vs ih =>
    intro i acc h
    have h0 := h 0 v rfl
    simp only [List.length_cons, loadCellsFrom, Sem.run_bind, run_load, add_at]
    rw [show o + i = o + i + 0 from rfl, h0]
    simp only [Result.andThen_ok]
    rw [ih (i + 1) (acc.push v) (fun j u hu => by have := h (j + 1) u (by simpa using hu); rw [show o + (i + 1) + j = o + i + (j + 1) by omega]; exact this)]
    simp
theorem run_loadCells (P : Program) (w : World) (b o n : Nat) (vs : List Value) (hl : vs.length = n) (h : ∀ j v, vs[j]? = some v → w.cell? ⟨b, o + j, none⟩ = some v) :
    (loadCells ⟨b, o, none⟩ n).run P w = .ok vs.toArray w := by
  subst hl
  unfold loadCells
  rw [run_loadCellsFrom P w b o vs 0 #[] (by simpa using h)]
  simp

/-- A value of a type, off its cells. -/
theorem run_loadVar {P : Program} {t : TypeId} {size bytes : Nat} {zero : List AV} {u : TypeDesc} (hi : InfoOk P t size bytes zero u) {K : Kr} {w : World} {b o : Nat} {as : List AV} {vs : List Value} {a : AV}
    (hr : RepL K as vs) (ho : ∀ a ∈ as, a.one = true) (hl : as.length = size) (h : ∀ j v, vs[j]? = some v → w.cell? ⟨b, o + j, none⟩ = some v) (hp : pack (aggU u) as = some a) :
    ∃ v, (loadVar t ⟨b, o, none⟩).run P w = .ok v w ∧ RepV K a v := by
  simp only [loadVar, Sem.run_bind, hi.isAgg, Result.andThen_ok]
  cases ha : aggU u with
  | true =>
    rw [ha] at hp
    simp only [pack, if_true] at hp
    injection hp with hp
    subst hp
    simp only [if_true, Sem.run_bind, hi.sizeOf, Result.andThen_ok, run_loadCells P w b o size vs (hr.1.trans hl) h, Sem.run_pure]
    exact ⟨_, rfl, .agg vs hr.1 ho hr.2⟩
  | false =>
    rw [ha] at hp
    simp only [pack, Bool.false_eq_true, if_false] at hp
    split at hp
    · rename_i a'
      injection hp with hp
      subst hp
      obtain ⟨v, us, rfl, hv, hn⟩ := hr.uncons
      obtain rfl := hn.of_nil
      have := h 0 v rfl
      simp only [Bool.false_eq_true, if_false, run_load]
      rw [show o = o + 0 from rfl, this]
      exact ⟨v, rfl, hv⟩
    · cases hp

section ev
variable {C : Ctx} {K : Kr} {H : AH} {D : List Nat} {w : World} {N : Nat} {e : Env} {a : Act}

theorem constA_sound {v : Value} {x : AV} (h : constA v = some x) : RepV K x v := by
  unfold constA at h
  split at h <;> first
    | (injection h with h; subst h; first | exact .bool _ | exact .int _ _ | exact .nilslice K | exact .nilmap | exact .nilFunc)
    | cases h

theorem evalA_sound (hs : Sat C K H D w) (he : RepE K N e a.tmps) {x : Operand} {v : AV} (h : evalA C e x = some v) : RepV K v (a.eval x) := by
  cases x with
  | tmp t =>
    obtain ⟨u, hu, hr⟩ := he.2 t v h
    show RepV K v (a.tmps.getD t undef)
    rw [Array.getD_eq_getD_getElem?, hu]
    exact hr
  | const c => exact constA_sound h
  | global g =>
    simp only [evalA, Option.map_eq_some_iff] at h
    obtain ⟨cs, hc, rfl⟩ := h
    exact hs.glob g cs hc
  | func f =>
    simp only [evalA] at h
    injection h with h
    subst h
    exact .func [] [] rfl rfl (fun j a v h => by simp at h) (fun j a v h => by simp at h)

theorem evalsA_sound (hs : Sat C K H D w) (he : RepE K N e a.tmps) : ∀ {xs : List Operand} {vs : List AV}, evalsA C e xs = some vs → RepL K vs (xs.map a.eval) := by
  intro xs
  induction xs with
  | nil => intro vs h; simp only [evalsA] at h; injection h with h; subst h; exact .nil K
  | cons x xs ih =>
    intro vs h
    simp only [evalsA] at h
    split at h
    · rename_i v us h1 h2
      injection h with h
      subst h
      exact .cons (evalA_sound hs he h1) (ih h2)
    · cases h

theorem partsA_sound (hs : Sat C K H D w) (he : RepE K N e a.tmps) : ∀ {xs : List (Nat × Operand)} {vs : List (Nat × AV)}, partsA C e xs = some vs →
    vs.map (·.1) = (xs.map fun p => (p.1, a.eval p.2)).map (·.1) ∧ RepL K (vs.map (·.2)) ((xs.map fun p => (p.1, a.eval p.2)).map (·.2)) := by
  intro xs
  induction xs with
  | nil => intro vs h; simp only [partsA] at h; injection h with h; subst h; exact ⟨rfl, .nil K⟩
  | cons x xs ih =>
    obtain ⟨i, x⟩ := x
    intro vs h
    simp only [partsA] at h
    split at h
    · rename_i v us h1 h2
      injection h with h
      subst h
      obtain ⟨i1, i2⟩ := ih h2
      refine ⟨?_, ?_⟩
      · simp only [List.map_cons, List.cons.injEq, true_and]; exact i1
      · simp only [List.map_cons]; exact .cons (evalA_sound hs he h1) i2
    · cases h

/-- The cells at an address. -/
theorem addr_cells {d : ATy} {p v : AV} {pv : Value} (hs : Sat C K H D w) (hp : RepV K p pv) (h : loadA d H p = some v) :
    ∃ b o as vs, pv = .pointer (some ⟨b, o, none⟩) ∧ RepL K as vs ∧ (∀ a ∈ as, a.one = true) ∧ as.length = d.size ∧ (∀ j v, vs[j]? = some v → w.cell? ⟨b, o + j, none⟩ = some v) ∧ pack d.agg as = some v := by
  unfold loadA at h
  split at h
  · rename_i cs
    split at h
    · rename_i hle
      cases hp with
      | ro vs hl hh ho hr =>
        rename_i b o
        refine ⟨b, o, cs.take d.size, vs.take d.size, rfl, RepL.take ⟨hl, hr⟩ _, fun a ha => ho a (List.mem_of_mem_take ha), by simp; omega, fun j v hv => ?_, h⟩
        refine hs.g b (o + j) v (hh j v ?_)
        rw [List.getElem?_take] at hv
        split at hv
        · exact hv
        · cases hv
    · cases h
  · rename_i id off
    split at h
    · rename_i cs hg
      split at h
      · rename_i hle
        cases hp with
        | ptr hb =>
          rename_i b
          obtain ⟨h1, h2, h3, h4⟩ := hs.obj id b hb
          rw [hg] at h4
          obtain ⟨vs, us, ty, hh, hr, ho, hG⟩ := h4
          refine ⟨b, off, (cs.drop off).take d.size, (vs.drop off).take d.size, rfl, (hr.drop off).take _, fun a ha => ho a (List.mem_of_mem_drop (List.mem_of_mem_take ha)), by simp; omega, fun j v hv => ?_, h⟩
          rw [List.getElem?_take] at hv
          split at hv
          · rw [List.getElem?_drop] at hv
            rw [cell_of hh]
            rw [List.getElem?_toArray, List.getElem?_append_left (List.getElem?_eq_some_iff.1 hv).1]
            exact hv
          · cases hv
      · cases h
    · cases h
  · cases h
end ev
end Go.Abs
