/- The last light operations, and all of them together: what the abstract step says, the machine does. Conditions: the table of types fits the program. -/
import Derived.Test.YtdlofkamkiojlaaDoorXLtc
set_option linter.unusedVariables false
set_option linter.unusedSimpArgs false
namespace Go.Abs
open Go Go.RowKit

section ev
variable {C : Ctx} {K : Kr} {H : AH} {D : List Nat} {w : World} {N : Nat} {e : Env} {a : Act}

/-- A part of an aggregate. -/
theorem run_part {P : Program} {t : TypeId} {size bytes : Nat} {zero : List AV} {u : TypeDesc} (hi : InfoOk P t size bytes zero u) {cs : List AV} {vs : List Value} {off : Nat} {v : AV} (hr : RepL K cs vs) (ho : ∀ a ∈ cs, a.one = true)
    (hle : off + size ≤ cs.length) (hp : pack (aggU u) ((cs.drop off).take size) = some v) : ∃ x, (part t vs.toArray off).run P w = .ok x w ∧ RepV K v x := by
  have hr' : RepL K ((cs.drop off).take size) ((vs.drop off).take size) := (hr.drop off).take size
  simp only [part, Sem.run_bind, hi.isAgg, Result.andThen_ok]
  cases ha : aggU u with
  | true =>
    rw [ha] at hp
    simp only [pack, if_true] at hp
    injection hp with hp
    subst hp
    simp only [if_true, Sem.run_bind, hi.sizeOf, Result.andThen_ok, Sem.run_pure]
    refine ⟨_, rfl, ?_⟩
    have e1 : vs.toArray.extract off (off + size) = ((vs.drop off).take size).toArray := by
      simp [List.extract_toArray, List.extract_eq_take_drop]
    rw [e1]
    exact .agg _ hr'.1 (fun a ha => ho a (List.mem_of_mem_drop (List.mem_of_mem_take ha))) hr'.2
  | false =>
    rw [ha] at hp
    simp only [pack, Bool.false_eq_true, if_false] at hp
    split at hp
    · rename_i a' hae
      injection hp with hp
      subst hp
      rw [hae] at hr'
      obtain ⟨x, us, hx, hxr, hn⟩ := hr'.uncons
      have h0 : vs[off]? = some x := by
        have : ((vs.drop off).take size)[0]? = some x := by rw [hx]; rfl
        rw [List.getElem?_take] at this
        split at this
        · rw [List.getElem?_drop] at this
          simpa using this
        · cases this
      simp only [Bool.false_eq_true, if_false]
      simp only [List.getElem?_toArray, h0]
      exact ⟨x, rfl, hxr⟩
    · cases hp

theorem field_sound (hC : CtxOk C) {t : TypeId} {d : ATy} (ht : C.T t = some d) {x v : AV} {xv : Value} (hx : RepV K x xv) {i : Nat} (h : fieldA d x i = some v) :
    ∃ u, (Instr.field t xv i).run C.P w = .ok u w ∧ RepV K v u := by
  obtain ⟨by', u, hty, hu, hsp⟩ := (hC.ty t d ht).i
  unfold fieldA at h
  split at h
  · rename_i fs cs hsh
    rw [hsh] at hsp
    obtain ⟨fields, rfl, hlen, hf⟩ := hsp
    split at h
    · rename_i off size agg hfi
      split at h
      · rename_i hle
        obtain ⟨vs, rfl, hr, ho⟩ := hx.agg_inv
        have hfl : fields[i]? = some (fields[i]'(by have := (List.getElem?_eq_some_iff.1 hfi).1; simp at hlen; omega)) := Array.getElem?_eq_getElem _
        obtain ⟨ho', b, z, u', hio, ha⟩ := hf i _ _ hfi hfl
        dsimp only at ha ho' hio
        rw [← ha] at h
        obtain ⟨y, hy, hyr⟩ := run_part (w := w) hio hr ho (by simpa using hle) h
        refine ⟨y, ?_, hyr⟩
        simp only [Instr.field, Sem.run_bind, run_underlying' hty.un, Result.andThen_ok, hfl, asAgg, Sem.run_pure]
        rw [ho']
        exact hy
      · cases h
    · cases h
  · cases h

theorem fieldAddr_sound (hC : CtxOk C) {t : TypeId} {d : ATy} (ht : C.T t = some d) {x v : AV} {xv : Value} (hx : RepV K x xv) {i : Nat} (h : fieldAddrA d x i = some v) :
    ∃ u, (Instr.fieldAt t xv i).run C.P w = .ok u w ∧ RepV K v u := by
  obtain ⟨by', u, hty, hu, hsp⟩ := (hC.ty t d ht).i
  unfold fieldAddrA at h
  split at h
  · rename_i fs id off hsh
    rw [hsh] at hsp
    obtain ⟨fields, rfl, hlen, hf⟩ := hsp
    simp only [Option.bind_eq_some_iff] at h
    obtain ⟨f, hfi, h⟩ := h
    split at h
    · cases h
    · rename_i hne
      injection h with h
      subst h
      have hfl : fields[i]? = some (fields[i]'(by have := (List.getElem?_eq_some_iff.1 hfi).1; simp at hlen; omega)) := Array.getElem?_eq_getElem _
      obtain ⟨ho', b, z, u', hio, ha⟩ := hf i _ _ hfi hfl
      cases hx with
      | ptr hb =>
        refine ⟨_, ?_, .ptr hb⟩
        simp only [Instr.fieldAt, Sem.run_bind, run_underlying' hty.un, Result.andThen_ok, hfl, Instr.sureAddr, Sem.run_pure, fieldPlace, hio.sizeOf]
        rw [if_neg hne]
        simp only [Sem.run_pure, Result.andThen_ok, add_at, ho']
  · rename_i fs cs hsh
    rw [hsh] at hsp
    obtain ⟨fields, rfl, hlen, hf⟩ := hsp
    simp only [Option.bind_eq_some_iff] at h
    obtain ⟨f, hfi, h⟩ := h
    split at h
    · cases h
    · rename_i hne
      injection h with h
      subst h
      have hfl : fields[i]? = some (fields[i]'(by have := (List.getElem?_eq_some_iff.1 hfi).1; simp at hlen; omega)) := Array.getElem?_eq_getElem _
      obtain ⟨ho', b, z, u', hio, ha⟩ := hf i _ _ hfi hfl
      cases hx with
      | ro vs hl hh ho hr =>
        rename_i b o
        refine ⟨.pointer (some ⟨b, o + f.1, none⟩), ?_, .ro (vs.drop f.1) (by simp [hl]) (fun j v hv => ?_) (fun a ha => ho a (List.mem_of_mem_drop ha)) (RepL.drop ⟨hl, hr⟩ _).2⟩
        · simp only [Instr.fieldAt, Sem.run_bind, run_underlying' hty.un, Result.andThen_ok, hfl, Instr.sureAddr, Sem.run_pure, fieldPlace, hio.sizeOf]
          rw [if_neg hne]
          simp only [Sem.run_pure, Result.andThen_ok, add_at, ho']
        · rw [List.getElem?_drop] at hv
          rw [show o + f.1 + j = o + (f.1 + j) by omega]
          exact hh _ v hv
  · cases h

theorem index_sound (hC : CtxOk C) {t : TypeId} {d : ATy} (ht : C.T t = some d) {x ix v : AV} {xv iv : Value} (hx : RepV K x xv) (hix : RepV K ix iv) (h : indexA d x ix = some v) :
    ∃ u, (Instr.index t xv iv).run C.P w = .ok u w ∧ RepV K v u := by
  obtain ⟨by', u, hty, hu, hsp⟩ := (hC.ty t d ht).i
  unfold indexA at h
  split at h
  · rename_i k i len esz ea cs hsh
    rw [hsh] at hsp
    obtain ⟨el, b, z, u', rfl, hie, hea⟩ := hsp
    split at h
    · rename_i hc
      obtain ⟨h0, h1, h2⟩ := hc
      obtain rfl := hix.int_inv
      obtain ⟨vs, rfl, hr, ho⟩ := hx.agg_inv
      rw [← hea] at h
      obtain ⟨y, hy, hyr⟩ := run_part (w := w) hie hr ho h2 h
      refine ⟨y, ?_, hyr⟩
      simp only [Instr.index, asIntOf, Sem.run_bind, Sem.run_pure, Result.andThen_ok, run_underlying' hty.un]
      rw [if_pos ⟨h0, h1⟩]
      simp only [Sem.run_bind, hie.sizeOf, Result.andThen_ok]
      exact hy
    · cases h
  · cases h

theorem indexAddr_sound (hC : CtxOk C) {t : TypeId} {d : ATy} (ht : C.T t = some d) {x ix v : AV} {xv iv : Value} (hx : RepV K x xv) (hix : RepV K ix iv) (h : indexAddrA d x ix = some v) :
    ∃ u, (Instr.indexAt t xv iv).run C.P w = .ok u w ∧ RepV K v u := by
  obtain ⟨by', u, hty, hu, hsp⟩ := (hC.ty t d ht).i
  unfold indexAddrA at h
  split at h
  · rename_i k i
    obtain rfl := hix.int_inv
    split at h
    · rename_i len esz ea id off hsh
      rw [hsh] at hsp
      obtain ⟨el, b, z, u', rfl, hie, hea⟩ := hsp
      split at h
      · rename_i hc
        injection h with h
        subst h
        cases hx with
        | ptr hb =>
          refine ⟨_, ?_, .ptr hb⟩
          simp only [Instr.indexAt, asIntOf, Sem.run_bind, Sem.run_pure, Result.andThen_ok, run_underlying' hty.un, Instr.sureAddr]
          rw [if_pos hc]
          simp only [Sem.run_bind, hie.sizeOf, Result.andThen_ok, Sem.run_pure, add_at]
      · cases h
    · rename_i len esz ea cs hsh
      rw [hsh] at hsp
      obtain ⟨el, b, z, u', rfl, hie, hea⟩ := hsp
      split at h
      · rename_i hc
        injection h with h
        subst h
        cases hx with
        | ro vs hl hh ho hr =>
          rename_i b o
          refine ⟨.pointer (some ⟨b, o + i.toNat * esz, none⟩), ?_, .ro (vs.drop (i.toNat * esz)) (by simp [hl]) (fun j v hv => ?_) (fun a ha => ho a (List.mem_of_mem_drop ha)) (RepL.drop ⟨hl, hr⟩ _).2⟩
          · simp only [Instr.indexAt, asIntOf, Sem.run_bind, Sem.run_pure, Result.andThen_ok, run_underlying' hty.un, Instr.sureAddr]
            rw [if_pos hc]
            simp only [Sem.run_bind, hie.sizeOf, Result.andThen_ok, Sem.run_pure, add_at]
          · rw [List.getElem?_drop] at hv
            rw [show o + i.toNat * esz + j = o + (i.toNat * esz + j) by omega]
            exact hh _ v hv
      · cases h
    · rename_i esz eb ez n cs c hsh
      rw [hsh] at hsp
      obtain ⟨el, u', rfl, hie⟩ := hsp
      split at h
      · rename_i hc
        obtain ⟨h0, h1, hcs, hesz⟩ := hc
        injection h with h
        subst h
        cases hx with
        | list vs hl hh ho hr hn hcap =>
          rename_i cap A
          have hne : cs ≠ [] := by
            intro hcn
            rw [hcn] at hcs
            have : n * esz = 0 := hcs.symm
            rcases Nat.mul_eq_zero.1 this with h2 | h2 <;> omega
          obtain ⟨b, o, rfl, hh'⟩ := hh.resolve_left hne
          refine ⟨.pointer (some ⟨b, o + i.toNat * esz, none⟩), ?_, .ro ((vs.drop (i.toNat * esz)).take esz) (by simp [hl]) (fun j v hv => ?_) (fun a ha => ho a (List.mem_of_mem_drop (List.mem_of_mem_take ha))) (RepL.take (RepL.drop ⟨hl, hr⟩ _) _).2⟩
          · simp only [Instr.indexAt, asIntOf, Sem.run_bind, Sem.run_pure, Result.andThen_ok, run_underlying' hty.un]
            rw [if_pos ⟨h0, h1⟩]
            simp only [Sem.run_bind, hie.sizeOf, Result.andThen_ok, Sem.run_pure, add_at]
          · rw [List.getElem?_take] at hv
            split at hv
            · rw [List.getElem?_drop] at hv
              rw [show o + i.toNat * esz + j = o + (i.toNat * esz + j) by omega]
              exact hh' _ v hv
            · cases hv
      · cases h
    · rename_i esz eb ez id off n c hsh
      rw [hsh] at hsp
      obtain ⟨el, u', rfl, hie⟩ := hsp
      split at h
      · rename_i hc
        injection h with h
        subst h
        cases hx with
        | ms hb hn hcp =>
          refine ⟨_, ?_, .ptr hb⟩
          simp only [Instr.indexAt, asIntOf, Sem.run_bind, Sem.run_pure, Result.andThen_ok, run_underlying' hty.un]
          rw [if_pos hc]
          simp only [Sem.run_bind, hie.sizeOf, Result.andThen_ok, Sem.run_pure, add_at]
      · cases h
    · cases h
  · cases h

/-! ### Keys of maps -/
/-- The entries of a map, on both sides. -/
def RepM (K : Kr) (es : List (AV × AV)) (cs : List MapEntry) : Prop := cs.length = es.length ∧ ∀ (j : Nat) p c, es[j]? = some p → cs[j]? = some c → RepV K p.1 c.key ∧ RepV K p.2 c.val
theorem RepM.uncons {p : AV × AV} {es cs} (h : RepM K (p :: es) cs) : ∃ c cs', cs = c :: cs' ∧ RepV K p.1 c.key ∧ RepV K p.2 c.val ∧ RepM K es cs' := by
  cases cs with
  | nil => have := h.1; simp at this
  | cons c cs' =>
    obtain ⟨h1, h2⟩ := h.2 0 p c rfl rfl
    exact ⟨c, cs', rfl, h1, h2, by have := h.1; simpa using this, fun j q d hq hd => h.2 (j + 1) q d (by simpa using hq) (by simpa using hd)⟩

/-- Two keys, by the machine. -/
theorem key_sound (hC : CtxOk C) {kt : TypeId} {dk : ATy} (hk : C.T kt = some dk) {x y : AV} {xv yv : Value} (hx : RepV K x xv) (hy : RepV K y yv) {r : Bool} (h : keyEq dk x y = some r) :
    (∃ k i j, xv = .int k i ∧ yv = .int k j ∧ r = (i == j) ∧ ∃ k0, C.P.underlying kt = some (.int k0)) ∨
    ((∃ us vs, xv = .agg us ∧ yv = .agg vs) ∧ (Op.equal kt xv yv).run C.P w = .ok r w ∧ (∀ e, (Instr.checkKey e 10000 kt xv).run C.P w = .ok () w)) := by
  obtain ⟨by', u, hty, hu, hsp⟩ := (hC.ty kt dk hk).i
  unfold keyEq at h
  split at h
  · split at h
    · rename_i hsh
      rw [hsh] at hsp
      split at h
      · rename_i hkk
        injection h with h
        subst hkk
        exact .inl ⟨_, _, _, hx.int_inv, hy.int_inv, h.symm, _, by rw [← show u = _ from hsp]; exact hty.un⟩
      · cases h
    · cases h
  · split at h
    · rename_i ks hks
      obtain ⟨us, vs, rfl, rfl, h1, h2, h3⟩ := eqCells_agg (w := w) hC hk hks hx hy h
      exact .inr ⟨⟨_, _, rfl, rfl⟩, h1, h3⟩
    · cases h
  · cases h

theorem checkKey_sound (hC : CtxOk C) {kt : TypeId} {dk : ATy} (hk : C.T kt = some dk) {x y : AV} {xv yv : Value} (hx : RepV K x xv) (hy : RepV K y yv) {r : Bool} (h : keyEq dk x y = some r) (e : Bool) :
    (Instr.checkKey e 10000 kt xv).run C.P w = .ok () w := by
  rcases key_sound (w := w) hC hk hx hy h with ⟨k, i, j, rfl, rfl, _, k0, hu⟩ | ⟨_, _, h3⟩
  · have h1 : ∀ n, (Instr.checkKey e (n + 1) kt (.int k i)).run C.P w = .ok () w := fun n => by simp [Instr.checkKey, run_underlying' hu]
    exact h1 9999
  · exact h3 e

/-- Where a key stands. -/
def idxA (d : ATy) (k : AV) : List (AV × AV) → Option (Option Nat)
  | [] => if keyEq d k k = some true then some none else none
  | (a, _) :: es => match keyEq d k a with
    | some true => some (some 0)
    | some false => (idxA d k es).map fun r => r.map (· + 1)
    | none => none
theorem findA_idx {d : ATy} {k : AV} : ∀ {es : List (AV × AV)} {r}, findA d k es = some r → ∃ q, idxA d k es = some q ∧ (match q with | none => r = none | some i => ∃ p, es[i]? = some p ∧ r = some p.2) := by
  intro es
  induction es with
  | nil =>
    intro r h
    unfold findA at h
    split at h
    · rename_i hk
      injection h with h
      exact ⟨none, by simp [idxA, hk], h.symm⟩
    · cases h
  | cons p es ih =>
    obtain ⟨a, v⟩ := p
    intro r h
    unfold findA at h
    split at h
    · rename_i hk
      injection h with h
      exact ⟨some 0, by simp [idxA, hk], ⟨(a, v), rfl, h.symm⟩⟩
    · rename_i hk
      obtain ⟨q, hq, hr⟩ := ih h
      refine ⟨q.map (· + 1), by simp [idxA, hk, hq], ?_⟩
      cases q with
      | none => exact hr
      | some i => obtain ⟨p, hp, hr⟩ := hr; exact ⟨p, by simpa using hp, hr⟩
    · cases h
theorem putA_idx {d : ATy} {k v : AV} : ∀ {es es' : List (AV × AV)}, putA d k v es = some es' → ∃ q, idxA d k es = some q ∧ (match q with | none => es' = es ++ [(k, v)] | some i => i < es.length ∧ es' = es.set i (k, v)) := by
  intro es
  induction es with
  | nil =>
    intro es' h
    unfold putA at h
    split at h
    · rename_i hk
      injection h with h
      exact ⟨none, by simp [idxA, hk], h.symm⟩
    · cases h
  | cons p es ih =>
    obtain ⟨a, u⟩ := p
    intro es' h
    unfold putA at h
    split at h
    · rename_i hk
      injection h with h
      exact ⟨some 0, by simp [idxA, hk], by simp [← h]⟩
    · rename_i hk
      simp only [Option.map_eq_some_iff] at h
      obtain ⟨es1, h1, rfl⟩ := h
      obtain ⟨q, hq, hr⟩ := ih h1
      refine ⟨q.map (· + 1), by simp [idxA, hk, hq], ?_⟩
      cases q with
      | none => simp only [Option.map_none] at hr ⊢; rw [hr]; rfl
      | some i => simp only [Option.map_some] at hr ⊢; exact ⟨by simp; omega, by rw [hr.2]; rfl⟩
    · cases h

theorem sameNow_agg (u : TypeDesc) (us : Array Value) (v : Value) : Instr.sameNow u (.agg us) v = none := by
  cases u <;> rfl

theorem findNow_int {kt : TypeId} {dk : ATy} (hC : CtxOk C) (hk : C.T kt = some dk) {k0 : IntKind} (hu : C.P.underlying kt = some (.int k0)) {k : AV} {kk : IntKind} {ki : Int} (hkv : RepV K k (.int kk ki)) (w : World) :
    ∀ {es : List (AV × AV)} {cs : List MapEntry} {q : Option Nat} (n : Nat), RepM K es cs → idxA dk k es = some q →
      Instr.findNow (.int k0) (.int kk ki) cs n = some (q.bind fun i => (cs[i]?).map fun c => (n + i, c.val)) := by
  intro es
  induction es with
  | nil =>
    intro cs q n hm h
    have : cs = [] := by have := hm.1; simpa using this
    subst this
    simp only [idxA] at h
    split at h
    · injection h with h; subst h; rfl
    · cases h
  | cons p es ih =>
    obtain ⟨a, v⟩ := p
    intro cs q n hm h
    obtain ⟨c, cs', rfl, h1, h2, h3⟩ := hm.uncons
    simp only [idxA] at h
    split at h
    · rename_i hke
      injection h with h
      subst h
      rcases key_sound (w := w) hC hk hkv h1 hke with ⟨k1, i, j, e1, e2, e3, _⟩ | ⟨⟨us, vs, e1, _⟩, _⟩
      · injection e1 with e1 e1'
        subst e1; subst e1'
        simp only [Instr.findNow, e2, Instr.sameNow, if_true]
        rw [show (ki == j) = true from e3.symm]
        simp
      · cases e1
    · rename_i hke
      simp only [Option.map_eq_some_iff] at h
      obtain ⟨q', hq', rfl⟩ := h
      rcases key_sound (w := w) hC hk hkv h1 hke with ⟨k1, i, j, e1, e2, e3, _⟩ | ⟨⟨us, vs, e1, _⟩, _⟩
      · injection e1 with e1 e1'
        subst e1; subst e1'
        simp only [Instr.findNow, e2, Instr.sameNow, if_true]
        rw [show (ki == j) = false from e3.symm]
        simp only []
        rw [ih (n + 1) h3 hq']
        cases q' with
        | none => rfl
        | some i => simp [show n + 1 + i = n + (i + 1) by omega]
      · cases e1
    · cases h

theorem findAsking_agg {kt : TypeId} {dk : ATy} (hC : CtxOk C) (hk : C.T kt = some dk) {k : AV} {us : Array Value} (hkv : RepV K k (.agg us)) (w : World) :
    ∀ {es : List (AV × AV)} {cs : List MapEntry} {q : Option Nat} (n : Nat), RepM K es cs → idxA dk k es = some q →
      (Instr.findAsking kt (.agg us) cs n).run C.P w = .ok (q.bind fun i => (cs[i]?).map fun c => (n + i, c.val)) w := by
  intro es
  induction es with
  | nil =>
    intro cs q n hm h
    have : cs = [] := by have := hm.1; simpa using this
    subst this
    simp only [idxA] at h
    split at h
    · injection h with h; subst h; rfl
    · cases h
  | cons p es ih =>
    obtain ⟨a, v⟩ := p
    intro cs q n hm h
    obtain ⟨c, cs', rfl, h1, h2, h3⟩ := hm.uncons
    simp only [idxA] at h
    split at h
    · rename_i hke
      injection h with h
      subst h
      rcases key_sound (w := w) hC hk hkv h1 hke with ⟨k1, i, j, e1, e2, e3, _⟩ | ⟨_, hr, _⟩
      · cases e1
      · simp only [Instr.findAsking, Sem.run_bind, hr, Result.andThen_ok, if_true, Sem.run_pure]
        simp
    · rename_i hke
      simp only [Option.map_eq_some_iff] at h
      obtain ⟨q', hq', rfl⟩ := h
      rcases key_sound (w := w) hC hk hkv h1 hke with ⟨k1, i, j, e1, e2, e3, _⟩ | ⟨_, hr, _⟩
      · cases e1
      · simp only [Instr.findAsking, Sem.run_bind, hr, Result.andThen_ok, Bool.false_eq_true, if_false]
        rw [ih (n + 1) h3 hq']
        cases q' with
        | none => rfl
        | some i => simp [show n + 1 + i = n + (i + 1) by omega]
    · cases h

/-- Looking for a key. -/
theorem findKey_sound (hC : CtxOk C) {kt : TypeId} {dk : ATy} (hk : C.T kt = some dk) {k : AV} {kv : Value} (hkv : RepV K k kv) {es : List (AV × AV)} {cs : List MapEntry} (hm : RepM K es cs) {q : Option Nat} (h : idxA dk k es = some q) :
    (Instr.findKey kt kv cs).run C.P w = .ok (q.bind fun i => (cs[i]?).map fun c => (i, c.val)) w ∧ ∀ e, (Instr.checkKey e 10000 kt kv).run C.P w = .ok () w := by
  have key : ∃ y yv r, RepV K y yv ∧ keyEq dk k y = some r := by
    cases es with
    | nil =>
      simp only [idxA] at h
      split at h
      · exact ⟨k, kv, true, hkv, ‹_›⟩
      · cases h
    | cons p es =>
      obtain ⟨a, v⟩ := p
      obtain ⟨c, cs', rfl, h1, h2, h3⟩ := hm.uncons
      simp only [idxA] at h
      split at h
      · exact ⟨a, _, true, h1, ‹_›⟩
      · exact ⟨a, _, false, h1, ‹_›⟩
      · cases h
  obtain ⟨y, yv, r, hy, hke⟩ := key
  refine ⟨?_, fun e => checkKey_sound hC hk hkv hy hke e⟩
  obtain ⟨by', u, hty, hu, hsp⟩ := (hC.ty kt dk hk).i
  rcases key_sound (w := w) hC hk hkv hy hke with ⟨k1, i, j, rfl, _, _, k0, hu0⟩ | ⟨⟨us, vs, rfl, _⟩, _, _⟩
  · simp only [Instr.findKey, Sem.run_bind, run_underlying' hu0, Result.andThen_ok, findNow_int hC hk hu0 hkv w 0 hm h, Sem.run_pure]
    simp
  · simp only [Instr.findKey, Sem.run_bind, run_underlying' hty.un, Result.andThen_ok]
    cases es with
    | nil =>
      have : cs = [] := by have := hm.1; simpa using this
      subst this
      simp only [idxA] at h
      split at h
      · injection h with h; subst h; rfl
      · cases h
    | cons p es =>
      obtain ⟨c, cs', rfl, h1, h2, h3⟩ := hm.uncons
      simp only [Instr.findNow, sameNow_agg]
      rw [findAsking_agg hC hk hkv w 0 hm h]
      simp

theorem mapA_sound (hs : Sat C K H D w) {m : AV} {xv : Value} {es : List (AV × AV)} (hx : RepV K m xv) (h : mapA H m = some es) :
    ∃ (cs : List MapEntry), ((xv = .map none ∧ cs = []) ∨ ∃ (b clk : Nat), xv = .map (some b) ∧ w.heap[b]? = some (.map cs.toArray clk)) ∧ cs.length = es.length ∧ ∀ (j : Nat) p c, es[j]? = some p → cs[j]? = some c → RepV K p.1 c.key ∧ RepV K p.2 c.val := by
  cases hx with
  | map hb =>
    rename_i id b
    simp only [mapA] at h
    split at h
    · rename_i es' hg
      injection h with h
      subst h
      obtain ⟨h1, h2, h3, h4⟩ := hs.obj id b hb
      rw [hg] at h4
      obtain ⟨cs, clk, hh, hl, hp, hG⟩ := h4
      exact ⟨cs, .inr ⟨b, clk, rfl, hh⟩, hl, hp⟩
    · cases h
  | romap cs hb hl i1 i2 =>
    simp only [mapA] at h
    injection h with h
    subst h
    obtain ⟨clk, hh⟩ := hs.m _ cs hb
    exact ⟨cs, .inr ⟨_, clk, rfl, hh⟩, hl, fun j p c hp hc => ⟨i1 j p c hp hc, i2 j p c hp hc⟩⟩
  | romap0 =>
    simp only [mapA] at h
    injection h with h
    subst h
    exact ⟨[], .inl ⟨rfl, rfl⟩, rfl, fun j p c hp => by simp at hp⟩
  | _ => simp [mapA] at h

theorem lookup_sound (hC : CtxOk C) (hs : Sat C K H D w) {t : TypeId} {d : ATy} (ht : C.T t = some d) {m k v : AV} {xv kv : Value} (hx : RepV K m xv) (hk : RepV K k kv) (ok : Bool)
    (h : (match d.shape, mapA H m with
      | .map kt z ea, some es => match C.T kt with
        | some dk => match findA dk k es with
          | some (some v) => some (if ok then .tuple [v, .bool true] else v)
          | some none => (pack ea z).map fun v => if ok then .tuple [v, .bool false] else v
          | none => none
        | none => none
      | _, _ => none) = some v) :
    ∃ u, (Instr.lookup t xv kv ok).run C.P w = .ok u w ∧ RepV K v u := by
  obtain ⟨by', u, hty, hu, hsp⟩ := (hC.ty t d ht).i
  split at h
  · rename_i kt z ea es hsh hg
    rw [hsh] at hsp
    obtain ⟨el, sz, b', u', rfl, hie, hea⟩ := hsp
    split at h
    · rename_i dk hdk
      obtain ⟨cs, hcs, hl, hp⟩ := mapA_sound hs hx hg
      · have hm : RepM K es cs := ⟨hl, hp⟩
        have fin : ∀ x : Value, ∀ y : AV, ∀ o : Bool, RepV K y x → RepV K (if ok then .tuple [y, .bool o] else y) (if ok then .tuple #[x, .bool o] else x) := by
          intro x y o hxy
          cases ok with
          | false => simpa using hxy
          | true => simpa using RepV.tuple [x, .bool o] rfl (RepL.cons hxy (.cons (.bool o) (.nil K))).2
        split at h
        · rename_i v' hf
          injection h with h
          subst h
          obtain ⟨q, hq, hr⟩ := findA_idx hf
          cases q with
          | none => cases hr
          | some i =>
            obtain ⟨p, hpi, hr⟩ := hr
            injection hr with hr
            subst hr
            obtain ⟨hf1, hf2⟩ := findKey_sound (w := w) hC hdk hk hm hq
            have hci : cs[i]? = some (cs[i]'(by rw [hl]; exact (List.getElem?_eq_some_iff.1 hpi).1)) := List.getElem?_eq_getElem _
            refine ⟨_, ?_, fin _ _ true (hp i p _ hpi hci).2⟩
            rcases hcs with ⟨rfl, rfl⟩ | ⟨b, clk, rfl, hh⟩
            · simp at hci
            · have hget : (getObj b).run C.P w = .ok (.map cs.toArray clk) w := by simp [getObj, Sem.run, hh]
              simp only [Instr.lookup, Sem.run_bind, run_underlying' hty.un, Result.andThen_ok, hget, Sem.run_pure, hf2, hf1, hci, Option.bind_some, Option.map_some]
        · rename_i hf
          simp only [Option.map_eq_some_iff] at h
          obtain ⟨z0, hz0, rfl⟩ := h
          obtain ⟨q, hq, hr⟩ := findA_idx hf
          cases q with
          | some i => obtain ⟨p, _, hr⟩ := hr; cases hr
          | none =>
            obtain ⟨hf1, hf2⟩ := findKey_sound (w := w) hC hdk hk hm hq
            obtain ⟨zv, hz, hzb, hz1, hz2⟩ := hie.zeroValue w
            obtain ⟨hzr, hzo⟩ := zeroB_rep K hzb
            have hzv : RepV K z0 zv := by
              unfold pack at hz0
              split at hz0
              · rename_i he
                injection hz0 with hz0
                subst hz0
                rw [← hea] at he
                obtain ⟨zc, rfl⟩ := hz1 he
                have := RepV.agg (K := K) _ hzr.1 hzo hzr.2
                simpa [Value.cells] using this
              · rename_i he
                split at hz0
                · rename_i a0
                  injection hz0 with hz0
                  subst hz0
                  have he' : aggU u' = false := by rw [hea]; simpa using he
                  have hc1 : zv.cells = #[zv] := by
                    cases zv <;> first | rfl | exact absurd rfl (hz2 he' _)
                  rw [hc1] at hzr
                  obtain ⟨x, us, hx, hxr, _⟩ := hzr.uncons
                  simp at hx
                  rw [hx.1]
                  exact hxr
                · cases hz0
            refine ⟨_, ?_, fin _ _ false hzv⟩
            rcases hcs with ⟨rfl, rfl⟩ | ⟨b, clk, rfl, hh⟩
            · simp only [Instr.lookup, Sem.run_bind, run_underlying' hty.un, Result.andThen_ok, Sem.run_pure, hf2, hf1, Option.bind_none, hz]
            · have hget : (getObj b).run C.P w = .ok (.map cs.toArray clk) w := by simp [getObj, Sem.run, hh]
              simp only [Instr.lookup, Sem.run_bind, run_underlying' hty.un, Result.andThen_ok, hget, Sem.run_pure, hf2, hf1, Option.bind_none, hz]
        · cases h
    · cases h
  · cases h

theorem max_sound {P : Program} {k : IntKind} : ∀ {as : List AV} {vs : List Value} {x : Int} {v : AV}, RepL K as vs → maxA.go k x as = some v → ∃ u, (vs.foldlM Builtin.max2 (.int k x)).run P w = .ok u w ∧ RepV K v u := by
  intro as
  induction as with
  | nil => intro vs x v hr h; obtain rfl := hr.of_nil; simp only [maxA.go] at h; injection h with h; subst h; exact ⟨_, rfl, .int _ _⟩
  | cons a as ih =>
    intro vs x v hr h
    obtain ⟨b, us, rfl, hb, ht⟩ := hr.uncons
    unfold maxA.go at h
    split at h
    · rename_i e1; exact absurd e1 (by simp)
    · rename_i e1; injection e1 with e1 e2; subst e1; subst e2
      obtain rfl := hb.int_inv
      obtain ⟨u, hu, hur⟩ := ih ht h
      refine ⟨u, ?_, hur⟩
      simp only [List.foldlM_cons, Sem.run_bind, Builtin.max2, Sem.run_pure, Result.andThen_ok]
      exact hu
    · cases h
theorem min_sound {P : Program} {k : IntKind} : ∀ {as : List AV} {vs : List Value} {x : Int} {v : AV}, RepL K as vs → minA.go k x as = some v → ∃ u, (vs.foldlM Builtin.min2 (.int k x)).run P w = .ok u w ∧ RepV K v u := by
  intro as
  induction as with
  | nil => intro vs x v hr h; obtain rfl := hr.of_nil; simp only [minA.go] at h; injection h with h; subst h; exact ⟨_, rfl, .int _ _⟩
  | cons a as ih =>
    intro vs x v hr h
    obtain ⟨b, us, rfl, hb, ht⟩ := hr.uncons
    unfold minA.go at h
    split at h
    · rename_i e1; exact absurd e1 (by simp)
    · rename_i e1; injection e1 with e1 e2; subst e1; subst e2
      obtain rfl := hb.int_inv
      obtain ⟨u, hu, hur⟩ := ih ht h
      refine ⟨u, ?_, hur⟩
      simp only [List.foldlM_cons, Sem.run_bind, Builtin.min2, Sem.run_pure, Result.andThen_ok]
      exact hu
    · cases h
end ev
end Go.Abs
