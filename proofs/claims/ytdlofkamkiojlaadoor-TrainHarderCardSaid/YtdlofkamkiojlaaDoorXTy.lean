/- The types of a program, as the abstract operations want them. Conditions: none (a reckoning off the program, and that it fits). -/
import Derived.Test.YtdlofkamkiojlaaDoorXThm
import Derived.Laws.StructEq
set_option linter.unusedVariables false
set_option linter.unusedSimpArgs false
namespace Go.Abs
open Go Go.RowKit

def zeroA : List Value → Option (List AV)
  | [] => some []
  | .bool b :: l => (zeroA l).map (.bool b :: ·)
  | .int k n :: l => (zeroA l).map (.int k n :: ·)
  | .slice none 0 0 :: l => (zeroA l).map (.list 0 [] .full :: ·)
  | .map none :: l => (zeroA l).map (.nilmap :: ·)
  | .nilFunc :: l => (zeroA l).map (.nilFunc :: ·)
  | _ => none
theorem zeroA_ok : ∀ {vs : List Value} {as : List AV}, zeroA vs = some as → zeroB as vs = true := by
  intro vs
  induction vs with
  | nil => intro as h; simp only [zeroA, Option.some.injEq] at h; subst h; rfl
  | cons v vs ih =>
    intro as h
    unfold zeroA at h
    split at h
    · rename_i e; cases e
    all_goals first
      | (rename_i e; injection e with e1 e2; subst e1; subst e2; simp only [Option.map_eq_some_iff] at h; obtain ⟨l, hl, rfl⟩ := h; simp [zeroB, ih hl])
      | cases h

def isAggV : Value → Bool
  | .agg _ => true
  | _ => false
def infoA (P : Program) (t : TypeId) : Option (Nat × Nat × List AV × TypeDesc) :=
  match P.underlying t, P.info? t with
  | some u, some i => match i.zero with
    | some z => match zeroA z.cells.toList with
      | some zero => if zero.length = i.size ∧ isAggV z = aggU u then some (i.size, i.bytes, zero, u) else none
      | none => none
    | none => none
  | _, _ => none
theorem infoA_ok {P : Program} {t : TypeId} {s b : Nat} {z : List AV} {u : TypeDesc} (h : infoA P t = some (s, b, z, u)) : InfoOk P t s b z u := by
  unfold infoA at h
  split at h
  · rename_i u' i hu hi
    split at h
    · rename_i zv hz
      split at h
      · rename_i zero hzero
        split at h
        · rename_i hc
          simp only [Option.some.injEq, Prod.mk.injEq] at h
          obtain ⟨rfl, rfl, rfl, rfl⟩ := h
          refine ⟨hu, i, zv, hi, rfl, rfl, hz, zeroA_ok hzero, fun ha => ?_, fun ha cs e => ?_, hc.1⟩
          · rw [← hc.2] at ha
            cases zv <;> first | exact ⟨_, rfl⟩ | cases ha
          · rw [← hc.2, e] at ha; cases ha
        · cases h
      · cases h
    · cases h
  · cases h

def fieldsA (P : Program) : List Field → Option (List (Nat × Nat × Bool))
  | [] => some []
  | f :: fs => match infoA P f.type, fieldsA P fs with
    | some (s, _, _, u), some l => some ((f.offset, s, aggU u) :: l)
    | _, _ => none
theorem fieldsA_ok {P : Program} : ∀ {fs : List Field} {l}, fieldsA P fs = some l → fs.length = l.length ∧ ∀ (j : Nat) f fl, l[j]? = some f → fs[j]? = some fl → fl.offset = f.1 ∧ ∃ b z u', InfoOk P fl.type f.2.1 b z u' ∧ aggU u' = f.2.2 := by
  intro fs
  induction fs with
  | nil => intro l h; simp only [fieldsA, Option.some.injEq] at h; subst h; exact ⟨rfl, fun j f fl h => by simp at h⟩
  | cons f fs ih =>
    intro l h
    unfold fieldsA at h
    split at h
    · rename_i s b z u l' hi hl
      injection h with h
      subst h
      obtain ⟨i1, i2⟩ := ih hl
      refine ⟨by simp [i1], fun j g fl hg hfl => ?_⟩
      cases j with
      | zero =>
        simp at hg hfl
        subst hg; subst hfl
        exact ⟨rfl, b, z, u, infoA_ok hi, rfl⟩
      | succ j => exact i2 j g fl (by simpa using hg) (by simpa using hfl)
    · cases h
def shapeA (P : Program) : TypeDesc → Option AShape
  | .bool => some .bool
  | .int k => some (.int k)
  | .struct fs => (fieldsA P fs.toList).map .struct
  | .array len e => (infoA P e).map fun x => .array len x.1 (aggU x.2.2.2)
  | .slice e => (infoA P e).map fun x => .slice x.1 x.2.1 x.2.2.1
  | .map kt e => (infoA P e).map fun x => .map kt x.2.2.1 (aggU x.2.2.2)
  | _ => some .prim
theorem shapeA_ok {P : Program} {u : TypeDesc} {s : AShape} (h : shapeA P u = some s) : ShapeOk P u s := by
  unfold shapeA at h
  split at h
  · injection h with h; subst h; rfl
  · injection h with h; subst h; rfl
  · simp only [Option.map_eq_some_iff] at h
    obtain ⟨l, hl, rfl⟩ := h
    obtain ⟨h1, h2⟩ := fieldsA_ok hl
    exact ⟨_, rfl, h1, fun j f fl hf hfl => h2 j f fl hf (by simpa using hfl)⟩
  · simp only [Option.map_eq_some_iff] at h
    obtain ⟨⟨s, b, z, u'⟩, hl, rfl⟩ := h
    exact ⟨_, b, z, u', rfl, infoA_ok hl, rfl⟩
  · simp only [Option.map_eq_some_iff] at h
    obtain ⟨⟨s, b, z, u'⟩, hl, rfl⟩ := h
    exact ⟨_, u', rfl, infoA_ok hl⟩
  · simp only [Option.map_eq_some_iff] at h
    obtain ⟨⟨s, b, z, u'⟩, hl, rfl⟩ := h
    exact ⟨_, s, b, u', rfl, infoA_ok hl, rfl⟩
  · injection h with h; subst h; trivial

/-! ### Values that are equal just if their cells are -/
def fieldsK (f : TypeId → Option (List (Option IntKind))) : Nat → List Field → Option (List (Option IntKind))
  | _, [] => some []
  | off, x :: xs => if x.name = "_" ∨ x.offset ≠ off then none else match f x.type with
    | some ks => (fieldsK f (off + ks.length) xs).map (ks ++ ·)
    | none => none
def plainK (P : Program) : Nat → TypeId → Option (List (Option IntKind))
  | 0, _ => none
  | d + 1, t => match P.info? t with
    | none => none
    | some i => match P.underlying t with
      | some (.int k) => if i.size = 1 then some [some k] else none
      | some .bool => if i.size = 1 then some [none] else none
      | some (.struct fs) => if P.stoodInHeld t then none else match fieldsK (plainK P d) 0 fs.toList with
        | some ks => if ks.length = i.size then some ks else none
        | none => none
      | some (.array len e) => match plainK P d e with
        | some ks => if (List.replicate len ks).flatten.length = i.size then some (List.replicate len ks).flatten else none
        | none => none
      | _ => none

theorem eqCells_len : ∀ {ks : List (Option IntKind)} {xs ys : List AV} {r : Bool}, eqCells ks xs ys = some r → xs.length = ks.length ∧ ys.length = ks.length := by
  intro ks
  induction ks with
  | nil => intro xs ys r h; cases xs <;> cases ys <;> simp [eqCells] at h ⊢
  | cons k ks ih =>
    intro xs ys r h
    cases xs with
    | nil => cases k <;> simp [eqCells] at h
    | cons x xs =>
      cases ys with
      | nil => cases k <;> cases x <;> simp [eqCells] at h
      | cons y ys =>
        cases k with
        | none =>
          cases x <;> cases y <;> first
            | (exfalso; simp [eqCells] at h; done)
            | (simp only [eqCells, Option.map_eq_some_iff] at h
               obtain ⟨q, hq, rfl⟩ := h
               have := ih hq
               simp [this.1, this.2])
        | some k =>
          cases x <;> cases y <;> first
            | (exfalso; simp [eqCells] at h; done)
            | (simp only [eqCells] at h
               split at h
               · simp only [Option.map_eq_some_iff] at h
                 obtain ⟨q, hq, rfl⟩ := h
                 have := ih hq
                 simp [this.1, this.2]
               · cases h)
theorem eqCells_app : ∀ {ks ls : List (Option IntKind)} {xs ys : List AV} {r : Bool}, eqCells (ks ++ ls) xs ys = some r →
    ∃ a b, eqCells ks (xs.take ks.length) (ys.take ks.length) = some a ∧ eqCells ls (xs.drop ks.length) (ys.drop ks.length) = some b ∧ r = (a && b) := by
  intro ks
  induction ks with
  | nil => intro ls xs ys r h; exact ⟨true, r, by simp [eqCells], by simpa using h, by simp⟩
  | cons k ks ih =>
    intro ls xs ys r h
    obtain ⟨l1, l2⟩ := eqCells_len h
    cases xs with
    | nil => simp at l1
    | cons x xs =>
      cases ys with
      | nil => simp at l2
      | cons y ys =>
        rw [List.cons_append] at h
        cases k with
        | none =>
          cases x <;> cases y <;> first
            | (exfalso; simp [eqCells] at h; done)
            | (simp only [eqCells, Option.map_eq_some_iff] at h
               obtain ⟨q, hq, rfl⟩ := h
               obtain ⟨a', b', h1, h2, rfl⟩ := ih hq
               exact ⟨_, b', by simp only [List.length_cons, List.take_succ_cons, eqCells, h1]; rfl, by simpa using h2, by simp [Bool.and_assoc]⟩)
        | some k =>
          cases x <;> cases y <;> first
            | (exfalso; simp [eqCells] at h; done)
            | (simp only [eqCells] at h
               split at h
               · rename_i hk
                 simp only [Option.map_eq_some_iff] at h
                 obtain ⟨q, hq, rfl⟩ := h
                 obtain ⟨a', b', h1, h2, rfl⟩ := ih hq
                 exact ⟨_, b', by simp only [List.length_cons, List.take_succ_cons, eqCells, h1, if_pos hk]; rfl, by simpa using h2, by simp [Bool.and_assoc]⟩
               · cases h)

def packV (u : TypeDesc) (us : List Value) : Value := if aggU u then .agg us.toArray else us.headD Go.undef
/-- What is asked of a type: equality and the look at a key, by cells. -/
def EqOk (P : Program) (d : Nat) (t : TypeId) (ks : List (Option IntKind)) : Prop :=
  ∃ u i, P.underlying t = some u ∧ P.info? t = some i ∧ i.size = ks.length ∧ (aggU u = false → ks.length = 1) ∧
    ∀ (n : Nat), d ≤ n → ∀ (xs ys : List AV) (r : Bool) (us vs : List Value) (K : Kr) (w : World), eqCells ks xs ys = some r → RepL K xs us → RepL K ys vs →
      (Op.equalIn n t (packV u us) (packV u vs)).run P w = .ok r w ∧ ∀ e, (Instr.checkKey e n t (packV u us)).run P w = .ok () w

theorem run_partV {P : Program} {t : TypeId} {u : TypeDesc} {i : TypeInfo} (hu : P.underlying t = some u) (hi : P.info? t = some i) {vs : List Value} {off : Nat} (hl : off + i.size ≤ vs.length) (h1 : aggU u = false → i.size = 1) (w : World) :
    (part t vs.toArray off).run P w = .ok (packV u ((vs.drop off).take i.size)) w := by
  have hia : (Go.isAgg t).run P w = .ok (aggU u) w := by
    simp only [Go.isAgg, Sem.run_bind, run_underlying' hu, Result.andThen_ok]
    cases u <;> rfl
  unfold part
  simp only [Sem.run_bind, hia, Result.andThen_ok]
  unfold packV
  cases ha : aggU u with
  | true =>
    simp only [if_true, Sem.run_bind, Go.sizeOf, run_typeInfo' hi, Result.andThen_ok, Sem.run_pure]
    congr 2
    apply Array.ext'
    simp [List.extract_eq_take_drop]
  | false =>
    have := h1 ha
    have hlt : off < vs.length := by omega
    simp only [Bool.false_eq_true, if_false, List.getElem?_toArray, List.getElem?_eq_getElem hlt, Sem.run_pure, this]
    congr 1
    rw [List.drop_eq_getElem_cons hlt]
    rfl

theorem fields_eq {P : Program} {d : Nat} (ih : ∀ t ks, plainK P d t = some ks → EqOk P d t ks) : ∀ (fs : List Field) (off : Nat) (ks : List (Option IntKind)), fieldsK (plainK P d) off fs = some ks →
    ∀ (n : Nat), d ≤ n → ∀ (xs ys : List AV) (r : Bool) (us vs : List Value) (K : Kr) (w : World), off ≤ xs.length → off ≤ ys.length → eqCells ks (xs.drop off) (ys.drop off) = some r → RepL K xs us → RepL K ys vs →
      (Op.eqFields n us.toArray vs.toArray fs).run P w = .ok r w ∧
      ∀ e, (forIn fs PUnit.unit (fun f _ => if f.name ≠ "_" then do Instr.checkKey e n f.type (← part f.type us.toArray f.offset); pure (ForInStep.yield PUnit.unit) else pure (ForInStep.yield PUnit.unit)) : Sem PUnit).run P w = .ok () w := by
  intro fs
  induction fs with
  | nil =>
    intro off ks h n hn xs ys r us vs K w ho1 ho2 he hx hy
    simp only [fieldsK, Option.some.injEq] at h
    subst h
    have : r = true := by
      generalize xs.drop off = a at he
      generalize ys.drop off = b at he
      cases a <;> cases b <;> simp [eqCells] at he
      exact he
    subst this
    exact ⟨rfl, fun e => rfl⟩
  | cons f fs ihf =>
    intro off ks h n hn xs ys r us vs K w ho1 ho2 he hx hy
    unfold fieldsK at h
    split at h
    · cases h
    · rename_i hno
      split at h
      · rename_i k1 hk1
        simp only [Option.map_eq_some_iff] at h
        obtain ⟨k2, hk2, rfl⟩ := h
        have hname : f.name ≠ "_" := fun e => hno (.inl e)
        have hoff : f.offset = off := Decidable.byContradiction fun e => hno (.inr e)
        obtain ⟨u, i, hu, hi, hsz, h1, hgo⟩ := ih f.type k1 hk1
        obtain ⟨a, b, ha, hb, rfl⟩ := eqCells_app he
        obtain ⟨l1, l2⟩ := eqCells_len he
        simp only [List.length_drop, List.length_append] at l1 l2
        have hxl := hx.1
        have hyl := hy.1
        have px := run_partV (vs := us) (off := off) hu hi (by omega) (fun ha => by have := h1 ha; omega) w
        have py := run_partV (vs := vs) (off := off) hu hi (by omega) (fun ha => by have := h1 ha; omega) w
        rw [hsz] at px py
        obtain ⟨e1, e2⟩ := hgo n hn _ _ a _ _ K w ha ((hx.drop off).take k1.length) ((hy.drop off).take k1.length)
        rw [List.drop_drop, List.drop_drop] at hb
        obtain ⟨g1, g2⟩ := ihf (off + k1.length) k2 hk2 n hn xs ys b us vs K w (by omega) (by omega) hb hx hy
        refine ⟨?_, fun e => ?_⟩
        · unfold Op.eqFields
          rw [if_pos hname]
          simp only [Sem.run_bind, hoff, px, py, Result.andThen_ok, e1]
          cases a with
          | true => simpa using g1
          | false => simp
        · have := g2 e
          simp only [ne_eq] at this
          simp only [List.forIn_cons, Sem.run_bind, hname, ne_eq, not_false_eq_true, if_true, hoff, px, Result.andThen_ok, e2 e, Sem.run_pure]
          exact this
      · cases h

theorem array_eq {P : Program} {n : Nat} {e : TypeId} {ks : List (Option IntKind)} {u : TypeDesc} {i : TypeInfo} (hu : P.underlying e = some u) (hi : P.info? e = some i) (hsz : i.size = ks.length) (h1 : aggU u = false → ks.length = 1)
    (hgo : ∀ (xs ys : List AV) (r : Bool) (us vs : List Value) (K : Kr) (w : World), eqCells ks xs ys = some r → RepL K xs us → RepL K ys vs →
      (Op.equalIn n e (packV u us) (packV u vs)).run P w = .ok r w ∧ ∀ b, (Instr.checkKey b n e (packV u us)).run P w = .ok () w) :
    ∀ (len s : Nat) (xs ys : List AV) (r : Bool) (us vs : List Value) (K : Kr) (w : World), s * ks.length ≤ xs.length → s * ks.length ≤ ys.length → eqCells (List.replicate len ks).flatten (xs.drop (s * ks.length)) (ys.drop (s * ks.length)) = some r → RepL K xs us → RepL K ys vs →
      ((forIn (List.range' s len) ((none, ()) : Option Bool × PUnit) fun j _ => do
          let r ← Op.equalIn n e (← part e us.toArray (j * ks.length)) (← part e vs.toArray (j * ks.length))
          if (!r) = true then pure (.done (some false, ())) else pure (.yield (none, ())) : Sem (Option Bool × PUnit)).run P w = .ok (if r then none else some false, ()) w) ∧
      ∀ b, (forIn (List.range' s len) PUnit.unit (fun j _ => do Instr.checkKey b n e (← part e us.toArray (j * (← sizeOf e))); pure (ForInStep.yield PUnit.unit)) : Sem PUnit).run P w = .ok () w := by
  intro len
  induction len with
  | zero =>
    intro s xs ys r us vs K w ho1 ho2 he hx hy
    have : r = true := by
      simp only [List.replicate_zero, List.flatten_nil] at he
      generalize xs.drop (s * ks.length) = a at he
      generalize ys.drop (s * ks.length) = b at he
      cases a <;> cases b <;> simp [eqCells] at he
      exact he
    subst this
    exact ⟨rfl, fun b => rfl⟩
  | succ len ih =>
    intro s xs ys r us vs K w ho1 ho2 he hx hy
    rw [List.replicate_succ, List.flatten_cons] at he
    obtain ⟨l1, l2⟩ := eqCells_len he
    obtain ⟨a, b, ha, hb, rfl⟩ := eqCells_app he
    simp only [List.length_drop, List.length_append] at l1 l2
    have hxl := hx.1
    have hyl := hy.1
    have px := run_partV (vs := us) (off := s * ks.length) hu hi (by omega) (fun ha => by have := h1 ha; omega) w
    have py := run_partV (vs := vs) (off := s * ks.length) hu hi (by omega) (fun ha => by have := h1 ha; omega) w
    rw [hsz] at px py
    obtain ⟨e1, e2⟩ := hgo _ _ a _ _ K w ha ((hx.drop _).take ks.length) ((hy.drop _).take ks.length)
    rw [List.drop_drop, List.drop_drop, ← Nat.succ_mul] at hb
    have hsm : (s + 1) * ks.length = s * ks.length + ks.length := Nat.succ_mul _ _
    obtain ⟨g1, g2⟩ := ih (s + 1) xs ys b us vs K w (by omega) (by omega) hb hx hy
    refine ⟨?_, fun bb => ?_⟩
    · simp only [List.range'_succ, List.forIn_cons, Sem.run_bind, px, py, Result.andThen_ok, e1]
      cases a with
      | true => simpa using g1
      | false => simp
    · have := g2 bb
      simp only [Sem.run_bind, Go.sizeOf] at this
      simp only [List.range'_succ, List.forIn_cons, Sem.run_bind, Go.sizeOf, run_typeInfo' hi, Result.andThen_ok, Sem.run_pure, hsz, px, e2 bb]
      exact this

theorem forIn_range_list {β : Type} (len : Nat) (init : β) (f : Nat → β → Sem (ForInStep β)) : (forIn [0:len] init f : Sem β) = forIn (List.range' 0 len) init f := by
  rw [Std.Legacy.Range.forIn_eq_forIn_range']
  simp [Std.Legacy.Range.size]

theorem plainK_ok {P : Program} : ∀ (d : Nat) (t : TypeId) (ks : List (Option IntKind)), plainK P d t = some ks → EqOk P d t ks := by
  intro d
  induction d with
  | zero => intro t ks h; cases h
  | succ d ih =>
    intro t ks h
    unfold plainK at h
    split at h
    · cases h
    · rename_i i hi
      split at h
      · rename_i k hu
        split at h
        · rename_i hsz
          injection h with h
          subst h
          refine ⟨_, i, hu, hi, hsz, fun _ => rfl, fun n hn xs ys r us vs K w he hx hy => ?_⟩
          obtain ⟨l1, l2⟩ := eqCells_len he
          obtain ⟨x, rfl⟩ := List.length_eq_one_iff.1 l1
          obtain ⟨y, rfl⟩ := List.length_eq_one_iff.1 l2
          obtain ⟨u, us', rfl, hxu, hn1⟩ := hx.uncons
          obtain ⟨v, vs', rfl, hyv, hn2⟩ := hy.uncons
          obtain rfl := hn1.of_nil
          obtain rfl := hn2.of_nil
          obtain ⟨n, rfl⟩ : ∃ m, n = m + 1 := ⟨n - 1, by omega⟩
          cases x <;> cases y <;> first
            | (exfalso; simp [eqCells] at he; done)
            | (simp only [eqCells] at he
               split at he
               · rename_i hk
                 simp only [Option.map_some, Option.some.injEq, Bool.and_true] at he
                 subst he
                 obtain rfl := hxu.int_inv
                 obtain rfl := hyv.int_inv
                 refine ⟨?_, fun e => ?_⟩
                 · simp [packV, aggU, Op.equalIn, run_underlying' hu, hk.1, hk.2]
                 · simp [packV, aggU, Instr.checkKey, run_underlying' hu]
               · cases he)
        · cases h
      · rename_i hu
        split at h
        · rename_i hsz
          injection h with h
          subst h
          refine ⟨_, i, hu, hi, hsz, fun _ => rfl, fun n hn xs ys r us vs K w he hx hy => ?_⟩
          obtain ⟨l1, l2⟩ := eqCells_len he
          obtain ⟨x, rfl⟩ := List.length_eq_one_iff.1 l1
          obtain ⟨y, rfl⟩ := List.length_eq_one_iff.1 l2
          obtain ⟨u, us', rfl, hxu, hn1⟩ := hx.uncons
          obtain ⟨v, vs', rfl, hyv, hn2⟩ := hy.uncons
          obtain rfl := hn1.of_nil
          obtain rfl := hn2.of_nil
          obtain ⟨n, rfl⟩ : ∃ m, n = m + 1 := ⟨n - 1, by omega⟩
          cases x <;> cases y <;> first
            | (exfalso; simp [eqCells] at he; done)
            | (simp only [eqCells, Option.map_some, Option.some.injEq, Bool.and_true] at he
               subst he
               obtain rfl := hxu.bool_inv
               obtain rfl := hyv.bool_inv
               refine ⟨?_, fun e => ?_⟩
               · simp [packV, aggU, Op.equalIn, run_underlying' hu]
               · simp [packV, aggU, Instr.checkKey, run_underlying' hu])
        · cases h
      · rename_i fs hu
        split at h
        · cases h
        · rename_i hst
          split at h
          · rename_i ks' hk
            split at h
            · rename_i hsz
              injection h with h
              subst h
              refine ⟨_, i, hu, hi, hsz.symm, fun h => (by cases h), fun n hn xs ys r us vs K w he hx hy => ?_⟩
              obtain ⟨n, rfl⟩ : ∃ m, n = m + 1 := ⟨n - 1, by omega⟩
              obtain ⟨g1, g2⟩ := fields_eq ih fs.toList 0 ks' hk n (by omega) xs ys r us vs K w (Nat.zero_le _) (Nat.zero_le _) (by simpa using he) hx hy
              have hf : P.fieldsOf t = fs := by simp [Program.fieldsOf, hu]
              refine ⟨?_, fun e => ?_⟩
              · rw [show packV (.struct fs) us = .agg us.toArray from rfl, show packV (.struct fs) vs = .agg vs.toArray from rfl, run_equalIn_struct w n t _ _ (by rw [hf]; exact hu) (by simpa using hst), hf]
                exact g1
              · have := g2 e
                rw [show packV (.struct fs) us = .agg us.toArray from rfl]
                simp only [Instr.checkKey, Sem.run_bind, run_underlying' hu, Result.andThen_ok]
                rw [← Array.forIn_toList, this]
                rfl
            · cases h
          · cases h
      · rename_i len e hu
        split at h
        · rename_i ks' hk
          split at h
          · rename_i hsz
            injection h with h
            subst h
            obtain ⟨u, i', hu', hi', hsz', h1', hgo⟩ := ih e ks' hk
            refine ⟨_, i, hu, hi, hsz.symm, fun h => (by cases h), fun n hn xs ys r us vs K w he hx hy => ?_⟩
            obtain ⟨n, rfl⟩ : ∃ m, n = m + 1 := ⟨n - 1, by omega⟩
            obtain ⟨g1, g2⟩ := array_eq (n := n) (e := e) hu' hi' hsz' h1' (hgo n (by omega)) len 0 xs ys r us vs K w (by simp) (by simp) (by simpa using he) hx hy
            refine ⟨?_, fun b => ?_⟩
            · rw [show packV (.array len e) us = .agg us.toArray from rfl, show packV (.array len e) vs = .agg vs.toArray from rfl]
              simp only [Op.equalIn, Sem.run_bind, run_underlying' hu, Result.andThen_ok, Go.sizeOf, run_typeInfo' hi', Sem.run_pure, hsz', forIn_range_list]
              rw [g1]
              cases r <;> rfl
            · have := g2 b
              rw [show packV (.array len e) us = .agg us.toArray from rfl]
              simp only [Instr.checkKey, Sem.run_bind, run_underlying' hu, Result.andThen_ok, forIn_range_list]
              rw [this]
              rfl
          · cases h
        · cases h
      · cases h

/-- A type, as the abstract operations want it. -/
def tyA (P : Program) (t : TypeId) : Option ATy :=
  match infoA P t with
  | some (s, _, z, u) => match shapeA P u with
    | some sh => some { size := s, agg := aggU u, zero := z, shape := sh, plain := if aggU u && !P.eqGuardType P.depth t then plainK P 100 t else none }
    | none => none
  | none => none
theorem tyA_ok {P : Program} {t : TypeId} {d : ATy} (h : tyA P t = some d) : TyOk P t d := by
  unfold tyA at h
  split at h
  · rename_i s b z u hi
    split at h
    · rename_i sh hsh
      injection h with h
      subst h
      refine ⟨⟨b, u, infoA_ok hi, rfl, shapeA_ok hsh⟩, fun ks hk => ?_⟩
      simp only at hk
      split at hk
      · rename_i hc
        simp only [Bool.and_eq_true, Bool.not_eq_true'] at hc
        intro xs ys r us vs K w he hx hy
        obtain ⟨u', i, hu, hi', hsz, h1, hgo⟩ := plainK_ok 100 t ks hk
        have huu : u' = u := by
          have := (infoA_ok hi).un
          rw [hu] at this
          injection this
        subst huu
        obtain ⟨g1, g2⟩ := hgo 10000 (by omega) xs ys r us vs K w he hx hy
        simp only [packV, hc.1, if_true] at g1 g2
        exact ⟨g1, hc.2, g2⟩
      · cases hk
    · cases h
  · cases h

/-- A table of types, to look up fast. -/
inductive TT where
  | leaf
  | node (k : Nat) (v : ATy) (l r : TT)
def TT.find : TT → Nat → Option ATy
  | .leaf, _ => none
  | .node k v l r, t => bif Nat.beq t k then some v else bif Nat.ble t k then l.find t else r.find t
def TT.list : TT → List (Nat × ATy)
  | .leaf => []
  | .node k v l r => (k, v) :: (l.list ++ r.list)
theorem TT.find_mem : ∀ {T : TT} {t : Nat} {d : ATy}, T.find t = some d → (t, d) ∈ T.list := by
  intro T
  induction T with
  | leaf => intro t d h; cases h
  | node k v l r ihl ihr =>
    intro t d h
    unfold TT.find at h
    cases hb : Nat.beq t k with
    | true =>
      rw [hb] at h
      injection h with h
      subst h
      obtain rfl := Nat.eq_of_beq_eq_true hb
      exact List.mem_cons_self ..
    | false =>
      rw [hb] at h
      simp only [cond_false] at h
      cases hl : Nat.ble t k with
      | true => rw [hl] at h; exact List.mem_cons_of_mem _ (List.mem_append_left _ (ihl h))
      | false => rw [hl] at h; exact List.mem_cons_of_mem _ (List.mem_append_right _ (ihr h))
theorem TT.ok {P : Program} {T : TT} (h : T.list.map (fun p => tyA P p.1) = T.list.map (fun p => some p.2)) : ∀ t d, T.find t = some d → TyOk P t d := by
  intro t d hf
  have hm := TT.find_mem hf
  obtain ⟨i, hi⟩ := List.mem_iff_getElem?.1 hm
  have := congrArg (fun l => l[i]?) h
  simp only [List.getElem?_map, hi, Option.map_some, Option.some.injEq] at this
  exact tyA_ok this
end Go.Abs
