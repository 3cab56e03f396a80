/- The light operations one by one: what the abstract step says, the machine does. Conditions: the table of types fits the program. -/
import Derived.Test.YtdlofkamkiojlaaDoorXLt
set_option linter.unusedVariables false
set_option linter.unusedSimpArgs false
namespace Go.Abs
open Go Go.RowKit

section ev
variable {C : Ctx} {K : Kr} {H : AH} {D : List Nat} {w : World} {N : Nat} {e : Env} {a : Act}

theorem load_sound (hC : CtxOk C) (hs : Sat C K H D w) {t : TypeId} {d : ATy} (ht : C.T t = some d) {p v : AV} {pv : Value} (hp : RepV K p pv) (h : loadA d H p = some v) :
    ∃ u, (Instr.loadAt t pv).run C.P w = .ok u w ∧ RepV K v u := by
  obtain ⟨b, o, as, vs, rfl, hr, ho, hl, hc, hk⟩ := addr_cells hs hp h
  obtain ⟨by', u, hi, hu, _⟩ := (hC.ty t d ht).i
  rw [← hu] at hk
  obtain ⟨x, hx, hxr⟩ := run_loadVar hi hr ho hl hc hk
  exact ⟨x, by simp [Instr.loadAt, Instr.sureAddr, hx], hxr⟩

theorem nil_sound (hC : CtxOk C) {t : TypeId} {op : BinOp} {X Y : Operand} {v : AV} {xv : Value} {r : Bool} (hx : RepV K v xv) (h : nilA C op t v Y = some r) :
    Y = .const (.slice none 0 0) ∧ (do eqGuard op t X Y xv (.slice none 0 0); binOp op t xv (.slice none 0 0) : Sem Value).run C.P w = .ok (.bool r) w := by
  unfold nilA at h
  split at h
  · rename_i n cs c
    split at h
    · cases h
    · rename_i hne
      split at h
      · rename_i d ht
        obtain ⟨by', u, hi, hu, hsp⟩ := (hC.ty t d ht).i
        cases hx with
        | @list _ cap _ _ _ vs hl hh ho hp hn hc =>
          rcases hh with hh | ⟨b, o, rfl, hh⟩
          · rw [hh] at hne; exact absurd rfl hne
          · refine ⟨rfl, ?_⟩
            split at h
            · rename_i hsh
              injection h with h
              subst h
              rw [hsh] at hsp
              obtain ⟨e, u', rfl, _⟩ := hsp
              have h1 : ∀ d, (Op.equalIn (d + 1) t (.slice (some ⟨b, o, none⟩) n cap) (.slice none 0 0)).run C.P w = .ok false w := fun d => by simp [Op.equalIn, run_underlying' hi.un]
              have h2 : (Op.equal t (.slice (some ⟨b, o, none⟩) n cap) (.slice none 0 0)).run C.P w = .ok false w := h1 9999
              simp [eqGuard, binOp, h2]
            · rename_i hsh
              injection h with h
              subst h
              rw [hsh] at hsp
              obtain ⟨e, u', rfl, _⟩ := hsp
              have h1 : ∀ d, (Op.equalIn (d + 1) t (.slice (some ⟨b, o, none⟩) n cap) (.slice none 0 0)).run C.P w = .ok false w := fun d => by simp [Op.equalIn, run_underlying' hi.un]
              have h2 : (Op.equal t (.slice (some ⟨b, o, none⟩) n cap) (.slice none 0 0)).run C.P w = .ok false w := h1 9999
              simp [eqGuard, binOp, h2]
            · cases h
      · cases h
  · cases h

theorem RepV.int_inv {k n v} (h : RepV K (.int k n) v) : v = .int k n := by cases h; rfl
theorem RepV.bool_inv {b v} (h : RepV K (.bool b) v) : v = .bool b := by cases h; rfl

theorem eqCells_agg (hC : CtxOk C) {t : TypeId} {d : ATy} (ht : C.T t = some d) {ks} (hk : d.plain = some ks) {xs ys : List AV} {xv yv : Value} {r : Bool} (hx : RepV K (.agg xs) xv) (hy : RepV K (.agg ys) yv)
    (h : eqCells ks xs ys = some r) : ∃ us vs : List Value, xv = .agg us.toArray ∧ yv = .agg vs.toArray ∧ (Op.equal t xv yv).run C.P w = .ok r w ∧ C.P.eqGuardType C.P.depth t = false ∧ (∀ e, (Instr.checkKey e 10000 t xv).run C.P w = .ok () w) := by
  obtain ⟨us, rfl, hu, _⟩ := hx.agg_inv
  obtain ⟨vs, rfl, hv, _⟩ := hy.agg_inv
  obtain ⟨h1, h2, h3⟩ := (hC.ty t d ht).plain ks hk xs ys r us vs K w h hu hv
  exact ⟨us, vs, rfl, rfl, h1, h2, h3⟩

theorem run_equalIn_bool {P : Program} {t : TypeId} (h : P.underlying t = some .bool) (a b : Bool) (w : World) : (Op.equal t (.bool a) (.bool b)).run P w = .ok (a == b) w := by
  have h1 : ∀ d, (Op.equalIn (d + 1) t (.bool a) (.bool b)).run P w = .ok (a == b) w := fun d => by simp [Op.equalIn, run_underlying' h]
  exact h1 9999

theorem eqGuard_agg {P : Program} {t : TypeId} (h : P.eqGuardType P.depth t = false) (op : BinOp) (x y : Operand) (us vs : Array Value) (w : World) : (eqGuard op t x y (.agg us) (.agg vs)).run P w = .ok () w := by
  unfold eqGuard
  cases op <;> simp [h]

theorem eql_sound (hC : CtxOk C) {t : TypeId} {x y : AV} {xv yv : Value} {r : Bool} (X Y : Operand) (hx : RepV K x xv) (hy : RepV K y yv) (h : eqA C t x y = some r) :
    (do eqGuard .eql t X Y xv yv; binOp .eql t xv yv : Sem Value).run C.P w = .ok (.bool r) w ∧ (do eqGuard .neq t X Y xv yv; binOp .neq t xv yv : Sem Value).run C.P w = .ok (.bool (!r)) w := by
  unfold eqA at h
  split at h
  · split at h
    · rename_i hk
      subst hk
      injection h with h
      subst h
      obtain rfl := hx.int_inv
      obtain rfl := hy.int_inv
      refine ⟨by simp [eqGuard_at_int, binOp_eql], by simp [eqGuard_at_int, binOp_neq, bne]⟩
    · cases h
  · split at h
    · rename_i d ht
      split at h
      · rename_i hsh
        injection h with h
        subst h
        obtain rfl := hx.bool_inv
        obtain rfl := hy.bool_inv
        obtain ⟨by', u, hi, hu, hsp⟩ := (hC.ty t d ht).i
        rw [hsh] at hsp
        have hb : C.P.underlying t = some .bool := hi.un.trans (by rw [show u = .bool from hsp])
        refine ⟨by simp [eqGuard_at_bool, binOp, run_equalIn_bool hb], by simp [eqGuard_at_bool, binOp, run_equalIn_bool hb]⟩
      · cases h
    · cases h
  · split at h
    · rename_i d ht
      split at h
      · rename_i ks hk
        obtain ⟨us, vs, rfl, rfl, h1, h2, _⟩ := eqCells_agg (w := w) hC ht hk hx hy h
        refine ⟨by simp [eqGuard_agg h2, binOp, h1], by simp [eqGuard_agg h2, binOp, h1]⟩
      · cases h
    · cases h
  · cases h

theorem bin_sound (hC : CtxOk C) {op : BinOp} {t : TypeId} {x y v : AV} {xv yv : Value} (X Y : Operand) (hx : RepV K x xv) (hy : RepV K y yv) (h : binA C op t x y = some v) :
    ∃ u, (do eqGuard op t X Y xv yv; binOp op t xv yv : Sem Value).run C.P w = .ok u w ∧ RepV K v u := by
  unfold binA at h
  split at h
  case h_14 =>
    simp only [Option.map_eq_some_iff] at h
    obtain ⟨r, hr, rfl⟩ := h
    exact ⟨_, (eql_sound hC X Y hx hy hr).1, .bool _⟩
  case h_15 =>
    simp only [Option.map_eq_some_iff] at h
    obtain ⟨r, hr, rfl⟩ := h
    exact ⟨_, (eql_sound hC X Y hx hy hr).2, .bool _⟩
  case h_16 => cases h
  case h_4 | h_5 =>
    split at h
    · rename_i hk
      injection h with h
      subst h
      obtain ⟨hk, h0⟩ := hk
      subst hk
      obtain rfl := hx.int_inv
      obtain rfl := hy.int_inv
      refine ⟨_, ?_, .int _ _⟩
      simp [eqGuard_at_int, binOp, Op.intDiv, h0]
    · cases h
  case h_8 | h_9 =>
    split at h
    · rename_i hk
      injection h with h
      subst h
      obtain rfl := hx.int_inv
      obtain rfl := hy.int_inv
      refine ⟨_, ?_, .int _ _⟩
      simp [eqGuard_at_int, binOp, Op.shift, Int.not_lt.2 hk]
    · cases h
  case h_1 | h_2 | h_3 | h_6 | h_7 =>
    split at h
    · rename_i hk
      injection h with h
      subst h
      subst hk
      obtain rfl := hx.int_inv
      obtain rfl := hy.int_inv
      refine ⟨_, ?_, .int _ _⟩
      simp [eqGuard_at_int, binOp, Op.intArith, Op.intBits]
    · cases h
  all_goals
    split at h
    · rename_i hk
      injection h with h
      subst h
      subst hk
      obtain rfl := hx.int_inv
      obtain rfl := hy.int_inv
      refine ⟨_, ?_, .bool _⟩
      simp [eqGuard_at_int, binOp, Op.intCmp]
    · cases h

theorem un_sound {op : UnOp} {x v : AV} {xv : Value} (hx : RepV K x xv) (h : unA op x = some v) : ∃ u, (Op.unary op xv).run C.P w = .ok u w ∧ RepV K v u := by
  unfold unA at h
  split at h
  · injection h with h
    subst h
    obtain rfl := hx.int_inv
    refine ⟨_, ?_, .int _ _⟩
    simp [Op.unary, Op.intArith]
  · injection h with h
    subst h
    obtain rfl := hx.bool_inv
    refine ⟨_, ?_, .bool _⟩
    simp [Op.unary]
  · cases h

/-! ### Parts laid over cells -/
theorem take_set_succ {α : Type} : ∀ (ar : List α) (p : Nat) (c : α), p < ar.length → (ar.set p c).take (p + 1) = ar.take p ++ [c] := by
  intro ar
  induction ar with
  | nil => intro p c h; simp at h
  | cons a ar ih =>
    intro p c h
    cases p with
    | zero => simp
    | succ p => simp [ih p c (by simpa using h)]
theorem drop_set_lt {α : Type} : ∀ (ar : List α) (p q : Nat) (c : α), p < q → (ar.set p c).drop q = ar.drop q := by
  intro ar
  induction ar with
  | nil => intro p q c h; simp
  | cons a ar ih =>
    intro p q c h
    cases q with
    | zero => omega
    | succ q =>
      cases p with
      | zero => simp
      | succ p => simp [ih p q c (by omega)]
theorem set_splice {α : Type} (ar : List α) (p : Nat) (c : α) (cs : List α) (h : p < ar.length) :
    (ar.set p c).take (p + 1) ++ cs ++ (ar.set p c).drop (p + 1 + cs.length) = ar.take p ++ (c :: cs) ++ ar.drop (p + (cs.length + 1)) := by
  rw [take_set_succ ar p c h, drop_set_lt ar p _ c (by omega), show p + 1 + cs.length = p + (cs.length + 1) by omega]
  simp

theorem fold_set (off : Nat) : ∀ (cs : List Value) (j : Nat) (ar : List Value), off + j + cs.length ≤ ar.length →
    ((cs.zipIdx j).foldl (fun (c : Array Value) (p : Value × Nat) => c.setIfInBounds (off + p.2) p.1) ar.toArray).toList = ar.take (off + j) ++ cs ++ ar.drop (off + j + cs.length) := by
  intro cs
  induction cs with
  | nil => intro j ar h; simp
  | cons c cs ih =>
    intro j ar h
    simp only [List.length_cons] at h
    simp only [List.zipIdx_cons, List.foldl_cons]
    rw [show ar.toArray.setIfInBounds (off + j) c = (ar.set (off + j) c).toArray by simp]
    rw [ih (j + 1) (ar.set (off + j) c) (by simp; omega)]
    exact set_splice ar (off + j) c cs (by omega)

theorem fill_sound {place place' : Nat → Option (Nat × Nat)} (hpl : ∀ i, place' i = place i) : ∀ {parts : List (Nat × AV)} {parts' : List (Nat × Value)} {cells : List AV} {cells' : List Value} {r : List AV},
    parts.map (·.1) = parts'.map (·.1) → RepL K (parts.map (·.2)) (parts'.map (·.2)) → RepL K cells cells' → (∀ a ∈ cells, a.one = true) → fillA place cells parts = some r →
    ∃ r', Instr.fill place' cells'.toArray parts' = some r' ∧ RepL K r r'.toList ∧ (∀ a ∈ r, a.one = true) ∧ r.length = cells.length := by
  intro parts
  induction parts with
  | nil =>
    intro parts' cells cells' r h1 h2 h3 h4 h
    have : parts' = [] := by simpa using h1.symm
    subst this
    simp only [fillA] at h
    injection h with h
    subst h
    exact ⟨cells'.toArray, rfl, by simpa using h3, h4, rfl⟩
  | cons p parts ih =>
    obtain ⟨i, v⟩ := p
    intro parts' cells cells' r h1 h2 h3 h4 h
    cases parts' with
    | nil => simp at h1
    | cons q parts' =>
      obtain ⟨i', v'⟩ := q
      simp only [List.map_cons, List.cons.injEq] at h1
      obtain ⟨rfl, h1⟩ := h1
      obtain ⟨v0, us, he, hv, ht⟩ := h2.uncons
      simp only [List.map_cons, List.cons.injEq] at he
      obtain ⟨rfl, rfl⟩ := he
      simp only [fillA] at h
      split at h
      · cases h
      · rename_i off size hp
        split at h
        · cases h
        · rename_i hc
          simp only [Bool.or_eq_true, not_or, bne_iff_ne, ne_eq, Decidable.not_not, decide_eq_true_eq, Bool.not_eq_true', Bool.not_eq_false, Nat.not_lt] at hc
          obtain ⟨⟨hc1, hc2⟩, hc3⟩ := hc
          have hcl := hv.cells
          have hvl : v'.cells.size = v.cells.length := by have := hcl.1; simpa using this
          have hcl' : cells'.length = cells.length := h3.1
          have hnew : RepL K (cells.take off ++ v.cells ++ cells.drop (off + v.cells.length)) (cells'.take off ++ v'.cells.toList ++ cells'.drop (off + v.cells.length)) :=
            ((h3.take off).append hcl).append (h3.drop _)
          obtain ⟨r', hr', hrr, hro, hrl⟩ := ih (cells' := cells'.take off ++ v'.cells.toList ++ cells'.drop (off + v.cells.length)) h1 ht hnew (by
            intro a ha
            simp only [List.mem_append] at ha
            rcases ha with (ha | ha) | ha
            · exact h4 a (List.mem_of_mem_take ha)
            · exact List.all_eq_true.1 hc3 a ha
            · exact h4 a (List.mem_of_mem_drop ha)) h
          refine ⟨r', ?_, hrr, hro, by rw [hrl]; simp; omega⟩
          simp only [Instr.fill, hpl, hp]
          rw [if_neg (by simp [hvl, hc1, hcl']; omega)]
          have hf := fold_set off v'.cells.toList 0 cells' (by simp [hvl, hcl']; omega)
          rw [← hr']
          congr 1
          apply Array.toList_inj.1
          simp only [Array.foldl_toList, ← Array.toList_zipIdx] at hf ⊢
          simpa [hvl] using hf
end ev
end Go.Abs
