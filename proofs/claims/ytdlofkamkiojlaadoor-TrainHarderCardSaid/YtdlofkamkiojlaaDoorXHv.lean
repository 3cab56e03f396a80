/- The operations that make or change an object: what the abstract step says, the machine does. Conditions: the table of types fits the program. -/
import Derived.Test.YtdlofkamkiojlaaDoorXLte
set_option linter.unusedVariables false
set_option linter.unusedSimpArgs false
namespace Go.Abs
open Go Go.RowKit

theorem frozen_none {w : World} {b o : Nat} {cs : Array Value} {e : TypeId} (h : w.heap[b]? = some (.cells cs e (0, 0))) : w.frozen? ⟨b, o, none⟩ = false := by
  simp [World.frozen?, h]

theorem run_storeCells (P : Program) (b o : Nat) (e : TypeId) : ∀ (vs : List Value) (i : Nat) (w : World) (cs : List Value), w.heap[b]? = some (.cells cs.toArray e (0, 0)) → o + i + vs.length ≤ cs.length → (∀ v ∈ vs, v.oneCell' = true) →
    ∃ w', (storeCells ⟨b, o, none⟩ vs i).run P w = .ok () w' ∧ w'.heap[b]? = some (.cells (cs.take (o + i) ++ vs ++ cs.drop (o + i + vs.length)).toArray e (0, 0)) ∧ (∀ k, k ≠ b → w'.heap[k]? = w.heap[k]?) ∧ w'.heap.size = w.heap.size ∧
      w'.os = w.os ∧ w'.tape = w.tape ∧ w'.output = w.output := by
  intro vs
  induction vs with
  | nil => intro i w cs h hl ho; exact ⟨w, rfl, by simpa using h, fun _ _ => rfl, rfl, rfl, rfl, rfl⟩
  | cons v vs ih =>
    intro i w cs h hl ho
    simp only [List.length_cons] at hl
    have hc : w.cell? ⟨b, o + i, none⟩ = some (cs[o + i]'(by omega)) := by
      rw [cell_of h, List.getElem?_toArray, List.getElem?_eq_getElem]
    have h1 := heap_setCell_at w b (o + i) v h
    rw [show cs.toArray.setIfInBounds (o + i) v = (cs.set (o + i) v).toArray by simp] at h1
    obtain ⟨w', hw, hb, hk, hsz, h2, h3, h4⟩ := ih (i + 1) (w.setCell ⟨b, o + i, none⟩ v) (cs.set (o + i) v) h1 (by simp; omega) (fun x hx => ho x (List.mem_cons_of_mem _ hx))
    refine ⟨w', ?_, ?_, fun k hk' => (hk k hk').trans (Below.heap_setCell _ _ _ _ hk'), hsz.trans (size_setCell _ _ _), h2, h3, h4⟩
    · simp only [storeCells, Sem.run_bind, add_at, run_store P w _ v _ (ho v (List.mem_cons_self ..)), hc, frozen_none h, Bool.false_eq_true, if_false, Result.andThen_ok]
      exact hw
    · rw [hb]
      have := set_splice cs (o + i) v vs (by omega)
      rw [show o + (i + 1) = o + i + 1 by omega, this, List.length_cons]

theorem RepL.ones {K : Kr} {as vs} (h : RepL K as vs) (ho : ∀ a ∈ as, a.one = true) : ∀ v ∈ vs, v.oneCell' = true := by
  intro v hv
  obtain ⟨j, hj, rfl⟩ := List.getElem_of_mem hv
  have hja : j < as.length := by rw [← h.1]; exact hj
  have := h.2 j (as[j]) (vs[j]) (List.getElem?_eq_getElem _) (List.getElem?_eq_getElem _)
  rw [this.one]
  exact ho _ (List.getElem_mem _)

/-- An object gets a block. -/
def Kr.bind (K : Kr) (id b : Nat) (t : Nat × Nat) : Kr := { K with β := fun i => if i = id then some b else K.β i, tk := fun i => if i = id then t else K.tk i }
theorem Kr.bind_le {K : Kr} {id b : Nat} {t : Nat × Nat} (h : K.β id = none) : K.le (K.bind id b t) := by
  refine ⟨rfl, fun _ _ _ h => h, fun i b' hb => ?_, fun i b' hb => ?_, fun _ _ h => h, fun _ _ => ⟨fun _ => rfl, rfl⟩⟩
  · show (if i = id then some b else K.β i) = some b'
    rw [if_neg (fun e => by rw [e, h] at hb; cases hb)]
    exact hb
  · show (if i = id then t else K.tk i) = K.tk i
    rw [if_neg (fun e => by rw [e, h] at hb; cases hb)]

section ev
variable {C : Ctx} {K : Kr} {H : AH} {D : List Nat} {w : World} {N : Nat} {e : Env} {a : Act}

theorem Sat.β_n (hs : Sat C K H D w) {i : Nat} (hi : H.n ≤ i) : K.β i = none := by
  cases h : K.β i with
  | none => rfl
  | some b => have := (hs.obj i b h).2.2.1; omega
theorem push_g (H : AH) (o : AObj) : (H.push o).g H.n = o := by simp [AH.push]
theorem push_g' (H : AH) (id : Nat) (o : AObj) (p : AObj) : ((H.set id o).push p).g H.n = p := by simp [AH.push, AH.set]
theorem push_lt (H : AH) (o : AObj) {i : Nat} (h : i < H.n) : (H.push o).g i = H.g i := by simp [AH.push, show i ≠ H.n by omega]
theorem Frz.push (hs : Sat C K H D w) (o : AObj) (b : Nat) (t : Nat × Nat) : Frz K H (K.bind H.n b t) (H.push o) :=
  ⟨by simp [AH.push], fun i hi hb => ⟨by simp [Kr.bind, show i ≠ H.n by omega, hb], push_lt H o hi⟩⟩

/-- A new mutable object. -/
theorem Sat.new (hs : Sat C K H D w) {cs : List AV} {vs us : List Value} {ty : TypeId} (hr : RepL K cs vs) (ho : ∀ a ∈ cs, a.one = true) :
    Sat C (K.bind H.n w.heap.size (0, 0)) (H.push (.cells cs)) D (w.alloc (.cells (vs ++ us).toArray ty (0, 0))) := by
  have hn := hs.β_n (Nat.le_refl H.n)
  refine hs.make _ hn (by simp [AH.push]) (by simp [AH.push]) (push_g H _) (fun i b hb => .inl (push_lt H _ (hs.obj i b hb).2.2.1)) (Kr.bind_le hn) (fun i => rfl) (fun b o _ => rfl) (fun o v hv => ?_) ?_
  · exact absurd hv (by show K.G w.heap.size o ≠ some v; rw [hs.G_new]; simp)
  · exact ⟨vs, us, ty, by rw [heap_alloc_at, if_pos rfl], hr.mono (Kr.bind_le hn), ho, fun o => hs.G_new o⟩

theorem idxA_key {d : ATy} {k : AV} : ∀ {es : List (AV × AV)} {i : Nat}, idxA d k es = some (some i) → ∃ p, es[i]? = some p ∧ keyEq d k p.1 = some true := by
  intro es
  induction es with
  | nil => intro i h; simp only [idxA] at h; split at h <;> cases h
  | cons p es ih =>
    obtain ⟨x, v⟩ := p
    intro i h
    simp only [idxA] at h
    split at h
    · injection h with h; injection h with h; subst h; exact ⟨(x, v), rfl, ‹_›⟩
    · simp only [Option.map_eq_some_iff] at h
      obtain ⟨q, hq, h⟩ := h
      cases q with
      | none => obtain ⟨_, h, _⟩ := h; cases h
      | some j =>
        obtain ⟨j', hj, h⟩ := h
        injection hj with hj
        subst hj; subst h
        obtain ⟨p, hp, hk⟩ := ih hq
        exact ⟨p, by simpa using hp, hk⟩
    · cases h

theorem eqCells_nil {xs ys : List AV} {r : Bool} (h : eqCells [] xs ys = some r) : xs = [] ∧ ys = [] ∧ r = true := by
  unfold eqCells at h
  split at h
  · injection h with h; exact ⟨rfl, rfl, h.symm⟩
  · contradiction
  · contradiction
  · cases h
theorem eqCells_cons {k : Option IntKind} {ks : List (Option IntKind)} {xs ys : List AV} {r : Bool} (h : eqCells (k :: ks) xs ys = some r) :
    (∃ k0 a b xs' ys' r', k = some k0 ∧ xs = .int k0 a :: xs' ∧ ys = .int k0 b :: ys' ∧ eqCells ks xs' ys' = some r' ∧ r = ((a == b) && r')) ∨
    (∃ a b xs' ys' r', k = none ∧ xs = .bool a :: xs' ∧ ys = .bool b :: ys' ∧ eqCells ks xs' ys' = some r' ∧ r = ((a == b) && r')) := by
  unfold eqCells at h
  split at h
  · contradiction
  · rename_i k0 ks' k1 a xs' k2 b ys' heq
    injection heq with e1 e2
    subst e2
    split at h
    · rename_i hk
      obtain ⟨rfl, rfl⟩ := hk
      simp only [Option.map_eq_some_iff] at h
      obtain ⟨r', hr, h⟩ := h
      exact .inl ⟨_, a, b, xs', ys', r', e1, rfl, rfl, hr, h.symm⟩
    · cases h
  · rename_i ks' a xs' b ys' heq
    injection heq with e1 e2
    subst e2
    simp only [Option.map_eq_some_iff] at h
    obtain ⟨r', hr, h⟩ := h
    exact .inr ⟨a, b, xs', ys', r', e1, rfl, rfl, hr, h.symm⟩
  · cases h
theorem sameBits_agg {n : Nat} : ∀ {ks : List (Option IntKind)} {xs ys : List AV} {us vs : List Value}, eqCells ks xs ys = some true → RepL K xs us → RepL K ys vs →
    us.length = vs.length ∧ (vs.zip us).all (fun p => Instr.sameBits n p.1 p.2) = true := by
  intro ks
  induction ks with
  | nil =>
    intro xs ys us vs h hx hy
    obtain ⟨rfl, rfl, _⟩ := eqCells_nil h
    obtain rfl := hx.of_nil; obtain rfl := hy.of_nil
    exact ⟨rfl, rfl⟩
  | cons k ks ih =>
    intro xs ys us vs h hx hy
    rcases eqCells_cons h with ⟨k0, a, b, xs', ys', r', rfl, rfl, rfl, hr, he⟩ | ⟨a, b, xs', ys', r', rfl, rfl, rfl, hr, he⟩
    all_goals
      obtain ⟨u, us', rfl, hu, hus⟩ := hx.uncons
      obtain ⟨v, vs', rfl, hv, hvs⟩ := hy.uncons
      first
        | (obtain rfl := hu.int_inv; obtain rfl := hv.int_inv)
        | (obtain rfl := hu.bool_inv; obtain rfl := hv.bool_inv)
      have he' := he.symm
      simp only [Bool.and_eq_true, beq_iff_eq] at he'
      obtain ⟨rfl, rfl⟩ := he'
      obtain ⟨i1, i2⟩ := ih hr hus hvs
      refine ⟨by simp [i1], ?_⟩
      simp only [List.zip_cons_cons, List.all_cons, i2, Bool.and_true]
      cases n <;> simp [Instr.sameBits]

theorem keyStays {dk : ATy} {k x : AV} {kv xv : Value} (hk : RepV K k kv) (hx : RepV K x xv) (h : keyEq dk k x = some true) : (Instr.keyThatStays xv kv).run C.P w = .ok kv w := by
  have hb : Instr.sameBits 10000 xv kv = true := by
    unfold keyEq at h
    split at h
    · split at h
      · split at h
        · rename_i hkk
          injection h with h
          subst hkk
          obtain rfl := hk.int_inv
          obtain rfl := hx.int_inv
          have := (beq_iff_eq).1 h
          subst this
          have h1 : ∀ n k i, Instr.sameBits n (.int k i) (.int k i) = true := fun n k i => by cases n <;> simp [Instr.sameBits]
          exact h1 _ _ _
        · cases h
      · cases h
    · split at h
      · obtain ⟨us, rfl, hu, _⟩ := hk.agg_inv
        obtain ⟨vs, rfl, hv, _⟩ := hx.agg_inv
        obtain ⟨h1, h2⟩ := sameBits_agg (n := 9999) h hu hv
        have h3 : Instr.sameBits (9999 + 1) (.agg vs.toArray) (.agg us.toArray) = (vs.length == us.length && (vs.zip us).all fun p => Instr.sameBits 9999 p.1 p.2) := by
          simp [Instr.sameBits]
        rw [show (10000 : Nat) = 9999 + 1 from rfl, h3, h2, h1]
        simp
      · cases h
    · cases h
  unfold Instr.keyThatStays
  rw [if_pos hb]
  rfl

theorem run_setObj {P : Program} {w : World} {b : Nat} {o o' : Obj} (h : w.heap[b]? = some o) (hc : ∀ c t f, o ≠ .cells c t f) : (setObj b o').run P w = .ok () (World.putObj' w b o') := by
  cases o <;> first
    | exact absurd rfl (hc _ _ _)
    | (simp only [setObj, Sem.run, h]; rfl)
theorem run_getObj {P : Program} {w : World} {b : Nat} {o : Obj} (h : w.heap[b]? = some o) (hc : ∀ c t f, o ≠ .cells c t f) : (getObj b).run P w = .ok o w := by
  cases o <;> first
    | exact absurd rfl (hc _ _ _)
    | (simp only [getObj, Sem.run, h])

/-- The object of a map turned. -/
theorem Sat.putMap (hs : Sat C K H D w) {id b : Nat} (hb : K.β id = some b) {es : List (AV × AV)} (hg : H.g id = .map es) {es' : List (AV × AV)} {cs' : List MapEntry} {clk : Nat} (hm : RepM K es' cs') :
    Sat C K (H.set id (.map es')) D (World.putObj' w b (.map cs'.toArray clk)) := by
  obtain ⟨h1, h2, h3, h4⟩ := hs.obj id b hb
  rw [hg] at h4
  obtain ⟨cs, clk0, hh, hl, hp, hG, hMb⟩ := h4
  refine hs.write hb (by rw [hg]; rfl) ⟨rfl, rfl, rfl, by simp [World.putObj'], fun k hk => ?_, fun k hk => by have := hs.base.lt k hk; have := hs.base.size; omega⟩ (by simp [World.putObj']) (fun k hk => ?_) hG hMb ?_ (fun d hd => by rw [hh] at hd; cases hd)
  · rw [heap_put_at _ _ _ _ h2, if_neg (fun e => by rw [e, h1] at hk; cases hk)]
  · rw [heap_put_at _ _ _ _ h2, if_neg hk]
  · exact ⟨cs', clk, by rw [heap_put_at _ _ _ _ h2, if_pos rfl], hm.1, hm.2, hG, hMb⟩

/-! ### append -/
theorem growBy_le (newLen : Nat) : ∀ (r c : Nat), c ≤ 2 * newLen + 1024 → Builtin.growBy newLen r c ≤ 2 * newLen + 1024 := by
  intro r
  induction r with
  | zero => intro c h; exact h
  | succ r ih =>
    intro c h
    unfold Builtin.growBy
    split
    · exact h
    · exact ih _ (by omega)
theorem nextcap_le (need cap : Nat) (h : cap < need) : Builtin.nextslicecap need cap ≤ 2 * need + 1024 := by
  unfold Builtin.nextslicecap
  split
  · omega
  · split
    · omega
    · exact growBy_le need 4 cap (by omega)

/-- The elements of a slice that is read, by the machine. -/
theorem read_sound (hs : Sat C K H D w) {esz m : Nat} {x : AV} {xv : Value} {ds : List AV} (hx : RepV K x xv) (h : readA esz H x = some (m, ds)) :
    ∃ (us : List Value) (A : Option Addr) (cap : Nat), xv = .slice A m cap ∧ RepL K ds us ∧ (∀ a ∈ ds, a.one = true) ∧ ds.length = m * esz ∧
      ∀ w', (∀ b o v, w.cell? ⟨b, o, none⟩ = some v → w'.cell? ⟨b, o, none⟩ = some v) → (Builtin.firstCells esz m xv).run C.P w' = .ok us.toArray w' := by
  unfold readA at h
  split at h
  · rename_i n cs c
    split at h
    · rename_i hl
      simp only [Option.some.injEq, Prod.mk.injEq] at h
      obtain ⟨rfl, rfl⟩ := h
      cases hx with
      | list vs hvl hh ho hr hn hcap =>
        rename_i cap A
        refine ⟨vs, A, cap, rfl, ⟨hvl, hr⟩, ho, hl, fun w' hw => ?_⟩
        cases A with
        | none =>
          rcases hh with hh | ⟨b, o, hh, _⟩
          · subst hh
            have : vs = [] := by simpa using hvl
            subst this
            rfl
          · cases hh
        | some ad =>
          obtain ⟨b, o, sp⟩ := ad
          show (loadCells ⟨b, o, sp⟩ (n * esz)).run C.P w' = _
          by_cases h0 : cs = []
          · subst h0
            have : vs = [] := by simpa using hvl
            subst this
            rw [← hl]
            rfl
          · obtain ⟨b', o', he, hh'⟩ := hh.resolve_left h0
            injection he with he
            injection he with e1 e2 e3
            subst e1; subst e2; subst e3
            exact run_loadCells C.P w' b o (n * esz) vs (by rw [hvl, hl]) (fun j v hv => hw _ _ _ (hs.g _ _ _ (hh' j v hv)))
    · cases h
  · rename_i id off n c
    split at h
    · rename_i cs hg
      split at h
      · rename_i hle
        simp only [Option.some.injEq, Prod.mk.injEq] at h
        obtain ⟨rfl, rfl⟩ := h
        cases hx with
        | ms hb hn hcp =>
          rename_i cap b
          obtain ⟨h1, h2, h3, h4⟩ := hs.obj id b hb
          rw [hg] at h4
          obtain ⟨vs, us, ty, hh, hr, ho, hG⟩ := h4
          refine ⟨(vs.drop off).take (n * esz), some ⟨b, off, none⟩, cap, rfl, (hr.drop off).take _, fun a ha => ho a (List.mem_of_mem_drop (List.mem_of_mem_take ha)), by simp; omega, fun w' hw => ?_⟩
          have hvl := hr.1
          refine run_loadCells C.P w' b off (n * esz) _ (by simp; omega) (fun j v hv => hw _ _ _ ?_)
          rw [List.getElem?_take] at hv
          split at hv
          · rw [List.getElem?_drop] at hv
            rw [cell_of hh, List.getElem?_toArray, List.getElem?_append_left (List.getElem?_eq_some_iff.1 hv).1]
            exact hv
          · cases hv
      · cases h
    · cases h
  · cases h

/-- The machine's append, where it makes a new row. -/
theorem run_append_grow {P : Program} {t u : TypeId} {el eu : TypeId} {esz eb : Nat} {ez : List AV} {u' : TypeDesc} (ht : P.underlying t = some (.slice el)) (hu : P.underlying u = some (.slice eu)) (hie : InfoOk P el esz eb ez u')
    {sv xv : Value} {A : Option Addr} {n m cap : Nat} {vs us : List Value} (hsv : sv = .slice A n cap) (hxl : ∃ B c, xv = .slice B m c) (hcap : cap < n + m) (heb : 0 < eb) (hb : (2 * (n + m) + 1024) * eb ≤ 2 ^ 48)
    (hrs : ∀ w', (∀ b o v, w.cell? ⟨b, o, none⟩ = some v → w'.cell? ⟨b, o, none⟩ = some v) → (Builtin.firstCells esz n sv).run P w' = .ok vs.toArray w')
    (hrx : ∀ w', (∀ b o v, w.cell? ⟨b, o, none⟩ = some v → w'.cell? ⟨b, o, none⟩ = some v) → (Builtin.firstCells esz m xv).run P w' = .ok us.toArray w') (ty : TypeId) :
    ∃ (cap' : Nat) (rest : List Value), n + m ≤ cap' ∧ rest.length = (cap' - (n + m)) * esz ∧
      (Builtin.append_ #[t, u] ty #[sv, xv]).run P w = .ok (.slice (some ⟨w.heap.size, 0, none⟩) (n + m) cap') (w.drew.alloc (.cells (vs ++ us ++ rest).toArray el (0, 0))) := by
  obtain ⟨B, c, rfl⟩ := hxl
  subst hsv
  have hnb : n + m < 2 ^ 47 := by
    have : (2 * (n + m) + 1024) * 1 ≤ (2 * (n + m) + 1024) * eb := Nat.mul_le_mul_left _ heb
    omega
  obtain ⟨i, z, hi, h1, h2, hz, hzb, _, _, h7⟩ := hie.i
  subst h1; subst h2
  have hzl : z.cells.size = i.size := by have := (zeroB_rep ({ w0 := ⟨w, fun _ => false⟩, G := fun _ _ => none, β := fun _ => none, tk := fun _ => (0, 0), M := fun _ => none } : Kr) hzb).1.1; rw [h7] at this; simpa using this
  have hn : ¬ (n + m ≤ cap) := by omega
  have h63' : ¬ (9223372036854775807 < ((n : Int) + (m : Int))) := by omega
  have h48' : ¬ (281474976710656 < Builtin.nextslicecap (n + m) cap * i.bytes) := by
    have := Nat.mul_le_mul_right i.bytes (nextcap_le (n + m) cap hcap)
    omega
  have hfo := hrs w.drew (fun b o v h => by simpa using h)
  have hf := hrx w.drew (fun b o v h => by simpa using h)
  refine ⟨(Question.appendCap (n + m) cap el).cut (w.tape w.drawn (.appendCap (n + m) cap el)), (Builtin.zeroCells z.cells ((Question.appendCap (n + m) cap el).cut (w.tape w.drawn (.appendCap (n + m) cap el)) - (n + m))).toList, by simp [Question.cut], by simp [Builtin.zeroCells, hzl], ?_⟩
  simp [Builtin.append_, run_underlying ht, run_underlying hu, sizeOf, typeInfo, zeroValue, hi, hz, Builtin.lenOf, hn, h63', h48', Question.forced, hf, hfo, newRow]
  congr 2
  apply Array.ext'
  simp

/-- The machine's append of nothing. -/
theorem run_append_none {P : Program} {t u : TypeId} {el eu : TypeId} {esz eb : Nat} {ez : List AV} {u' : TypeDesc} (ht : P.underlying t = some (.slice el)) (hu : P.underlying u = some (.slice eu)) (hie : InfoOk P el esz eb ez u')
    {A B : Option Addr} {n cap c : Nat} (hn : n ≤ cap) (hrx : (Builtin.firstCells esz 0 (.slice B 0 c)).run P w = .ok #[] w) (ty : TypeId) :
    (Builtin.append_ #[t, u] ty #[.slice A n cap, .slice B 0 c]).run P w = .ok (.slice A n cap) w := by
  obtain ⟨i, z, hi, h1, h2, hz, hzb, _, _, h7⟩ := hie.i
  subst h1
  cases A <;> simp [Builtin.append_, run_underlying ht, run_underlying hu, sizeOf, typeInfo, hi, Builtin.lenOf, hn, hrx, storeCells]

/-- The machine's append, in place. -/
theorem run_append_place {P : Program} {t u : TypeId} {el eu ty' : TypeId} {esz eb : Nat} {ez : List AV} {u' : TypeDesc} (ht : P.underlying t = some (.slice el)) (hu : P.underlying u = some (.slice eu)) (hie : InfoOk P el esz eb ez u')
    {B : Option Addr} {b n m cap c : Nat} {us cs : List Value} (hn : n + m ≤ cap) (hb : w.heap[b]? = some (.cells cs.toArray ty' (0, 0))) (hl : n * esz + us.length ≤ cs.length) (ho : ∀ v ∈ us, v.oneCell' = true)
    (hrx : (Builtin.firstCells esz m (.slice B m c)).run P w = .ok us.toArray w) (ty : TypeId) :
    ∃ w', (Builtin.append_ #[t, u] ty #[.slice (some ⟨b, 0, none⟩) n cap, .slice B m c]).run P w = .ok (.slice (some ⟨b, 0, none⟩) (n + m) cap) w' ∧
      w'.heap[b]? = some (.cells (cs.take (n * esz) ++ us ++ cs.drop (n * esz + us.length)).toArray ty' (0, 0)) ∧ (∀ k, k ≠ b → w'.heap[k]? = w.heap[k]?) ∧ w'.heap.size = w.heap.size ∧ w'.os = w.os ∧ w'.tape = w.tape ∧ w'.output = w.output := by
  obtain ⟨i, z, hi, h1, h2, hz, hzb, _, _, h7⟩ := hie.i
  subst h1
  obtain ⟨w', hw, hr⟩ := run_storeCells P b (n * i.size) ty' us 0 w cs hb (by simpa using hl) ho
  refine ⟨w', ?_, by simpa using hr⟩
  simp [Builtin.append_, run_underlying ht, run_underlying hu, sizeOf, typeInfo, hi, Builtin.lenOf, hn, hrx, add_at, hw]

/-- Settled cells in a new block that may be appended to in place. -/
theorem Sat.own (hs : Sat C K H D w) {vs rest : List Value} {ty : TypeId} {H' : AH} (hn : H'.n = H.n + 1) (hg : H'.g H.n = .own) (hsame : ∀ i b, K.β i = some b → H'.g i = H.g i ∨ H'.g i = .gone) :
    ∃ K', K' = (K.settle w.heap.size vs).bind H.n w.heap.size (vs.length, (vs ++ rest).length) ∧ K.le K' ∧ Sat C K' H' D (w.alloc (.cells (vs ++ rest).toArray ty (0, 0))) := by
  have hn0 := hs.β_n (Nat.le_refl H.n)
  have hle : K.le ((K.settle w.heap.size vs).bind H.n w.heap.size (vs.length, (vs ++ rest).length)) := (Kr.settle_le hs vs).trans (Kr.bind_le hn0)
  refine ⟨_, rfl, hle, ?_⟩
  refine hs.make _ hn0 (by omega) (by omega) hg hsame hle (fun i => rfl) (fun b o hb => if_neg hb) (fun o v hv => ?_) ?_
  · have hv' : vs[o]? = some v := by simpa [Kr.bind, Kr.settle] using hv
    rw [cell_of (show (w.alloc _).heap[w.heap.size]? = _ by rw [heap_alloc_at, if_pos rfl])]
    rw [List.getElem?_toArray, List.getElem?_append_left (List.getElem?_eq_some_iff.1 hv').1]
    exact hv'
  · refine ⟨vs ++ rest, ty, vs.length, (vs ++ rest).length, by rw [heap_alloc_at, if_pos rfl], by simp [Kr.bind], by simp [Kr.bind], rfl, by simp, fun o ho => ?_⟩
    show (if w.heap.size = w.heap.size then vs[o]? else K.G w.heap.size o) = none
    rw [if_pos rfl]
    exact List.getElem?_eq_none ho

/-- An append in place: the spare cells are settled. -/
theorem Sat.place (hs : Sat C K H D w) {id b lo : Nat} {us : List Value} {cs : List Value} {ty : TypeId} {w' : World} (hid : K.β id = some b) (hg : H.g id = .own) (hlo : (K.tk id).1 = lo) (hb : w.heap[b]? = some (.cells cs.toArray ty (0, 0)))
    (hl : lo + us.length ≤ cs.length) (hw : w'.heap[b]? = some (.cells (cs.take lo ++ us ++ cs.drop (lo + us.length)).toArray ty (0, 0))) (hother : ∀ k, k ≠ b → w'.heap[k]? = w.heap[k]?) (hsz : w'.heap.size = w.heap.size)
    (h1 : w'.os = w.os) (h2 : w'.tape = w.tape) (h3 : w'.output = w.output) :
    ∃ K', K' = ({ K with G := fun b' o => if b' = b ∧ lo ≤ o ∧ o < lo + us.length then us[o - lo]? else K.G b' o } : Kr).bind H.n b (lo + us.length, cs.length) ∧ K.le K' ∧ Sat C K' ((H.set id .gone).push .own) D w' := by
  have hn0 := hs.β_n (Nat.le_refl H.n)
  obtain ⟨o1, o2, o3, o4⟩ := hs.obj id b hid
  rw [hg] at o4
  obtain ⟨vs, ty2, lo', hi', q1, q0, q2, q3, q4, q5⟩ := o4
  have hlo' : lo' = lo := by rw [← hlo, q2]
  subst hlo'
  have hGb : ∀ o, lo' ≤ o → K.G b o = none := q5
  have hle1 : K.le { K with G := fun b' o => if b' = b ∧ lo' ≤ o ∧ o < lo' + us.length then us[o - lo']? else K.G b' o } := by
    refine ⟨rfl, fun b' o v h => ?_, fun _ _ h => h, fun _ _ _ => rfl, fun _ _ h => h, fun b' hb' => ⟨fun o => if_neg (fun hc => by rw [hc.1, o1] at hb'; cases hb'), rfl⟩⟩
    show (if b' = b ∧ lo' ≤ o ∧ o < lo' + us.length then us[o - lo']? else K.G b' o) = some v
    rw [if_neg (fun hc => by rw [hc.1, hGb o hc.2.1] at h; cases h)]
    exact h
  have hle := hle1.trans (Kr.bind_le (b := b) (t := (lo' + us.length, cs.length)) hn0)
  refine ⟨_, rfl, hle, ?_⟩
  have hnew : ∀ i b', K.β i = some b' → ((H.set id .gone).push .own).g i = (if i = id then .gone else H.g i) := by
    intro i b' hi
    have := (hs.obj i b' hi).2.2.1
    simp [AH.push, AH.set, show i ≠ H.n by omega]
  have hdead : ∀ i, K.β i = some b → i ≠ id → (H.g i).live = false := by
    intro i hi hne
    cases hlive : (H.g i).live with
    | false => rfl
    | true => exact absurd (hs.inj i id b hi hid hlive (by rw [hg]; rfl)) hne
  refine ⟨?_, ?_, ?_, ?_, ?_, hs.nodup, fun g cs' hg' => (hs.glob g cs' hg').mono hle, fun b' cs' hb' => ?_⟩
  rotate_right
  · obtain ⟨clk, hm⟩ := hs.m b' cs' hb'
    exact ⟨clk, by rw [hother b' (fun e => by rw [e, hb] at hm; cases hm)]; exact hm⟩
  · refine hs.base.trans ⟨h1, h2, h3, by omega, fun k hk => hother k (fun e => ?_), fun k hk => by have := hs.base.lt k hk; have := hs.base.size; omega⟩
    rw [e, o1] at hk; cases hk
  · intro b' o v hv
    have hv' : (if b' = b ∧ lo' ≤ o ∧ o < lo' + us.length then us[o - lo']? else K.G b' o) = some v := hv
    split at hv'
    · rename_i hc
      obtain ⟨rfl, hc1, hc2⟩ := hc
      rw [cell_of hw, List.getElem?_toArray, List.append_assoc, List.getElem?_append_right (by simp; omega)]
      simp only [List.length_take, show min lo' cs.length = lo' by omega]
      rw [List.getElem?_append_left (by omega)]
      exact hv'
    · rename_i hc
      have hold := hs.g b' o v hv'
      by_cases hbb : b' = b
      · subst hbb
        rw [cell_of hb, List.getElem?_toArray] at hold
        have hlt : o < lo' := by
          rcases Nat.lt_or_ge o lo' with h | h
          · exact h
          · rw [hGb o h] at hv'; cases hv'
        rw [cell_of hw, List.getElem?_toArray, List.append_assoc, List.getElem?_append_left (by simp; omega), List.getElem?_take, if_pos hlt]
        exact hold
      · obtain ⟨c', e', f', p1, p2⟩ := cell_some hold
        rw [cell_of (show w'.heap[b']? = _ by rw [hother b' hbb]; exact p1)]
        exact p2
  · intro i b' hi
    have hi' : (if i = H.n then some b else K.β i) = some b' := hi
    split at hi'
    · rename_i he
      injection hi' with hi'
      subst he; subst hi'
      refine ⟨o1, by omega, by simp [AH.push, AH.set], ?_⟩
      rw [push_g']
      refine ⟨_, ty, lo' + us.length, cs.length, hw, by simp [Kr.bind], by simp [Kr.bind], by simp; omega, hl, fun o ho => ?_⟩
      show (if b = b ∧ lo' ≤ o ∧ o < lo' + us.length then us[o - lo']? else K.G b o) = none
      rw [if_neg (by omega)]
      exact hGb o (by omega)
    · rename_i he
      obtain ⟨p1, p2, p3, p4⟩ := hs.obj i b' hi'
      refine ⟨p1, by omega, by simp [AH.push, AH.set]; omega, ?_⟩
      rw [hnew i b' hi']
      by_cases hid' : i = id
      · rw [if_pos hid']; trivial
      · rw [if_neg hid']
        by_cases hbb : b' = b
        · subst hbb
          have := hdead i hi' hid'
          cases hgi : H.g i with
          | gone => trivial
          | _ => rw [hgi] at this; cases this
        · refine p4.mono hle (hother b' hbb) (fun o => ?_) rfl
          show (if b' = b ∧ lo' ≤ o ∧ o < lo' + us.length then us[o - lo']? else K.G b' o) = K.G b' o
          rw [if_neg (fun hc => hbb hc.1)]
  · intro i j b' hi hj li lj
    have hi' : (if i = H.n then some b else K.β i) = some b' := hi
    have hj' : (if j = H.n then some b else K.β j) = some b' := hj
    have key : ∀ i, K.β i = some b' → (((H.set id .gone).push .own).g i).live = true → i ≠ id ∧ (H.g i).live = true := by
      intro i hi li
      rw [hnew i b' hi] at li
      by_cases hid' : i = id
      · rw [if_pos hid'] at li; cases li
      · rw [if_neg hid'] at li; exact ⟨hid', li⟩
    by_cases hin : i = H.n
    · rw [if_pos hin] at hi'
      injection hi' with hi'
      by_cases hjn : j = H.n
      · rw [hin, hjn]
      · rw [if_neg hjn] at hj'
        obtain ⟨k1, k2⟩ := key j hj' lj
        have := hdead j (hi' ▸ hj') k1
        rw [this] at k2; cases k2
    · rw [if_neg hin] at hi'
      obtain ⟨k1, k2⟩ := key i hi' li
      by_cases hjn : j = H.n
      · rw [if_pos hjn] at hj'
        injection hj' with hj'
        have := hdead i (hj' ▸ hi') k1
        rw [this] at k2; cases k2
      · rw [if_neg hjn] at hj'
        obtain ⟨m1, m2⟩ := key j hj' lj
        exact hs.inj i j b' hi' hj' k2 m2
  · intro b' hb'
    obtain ⟨p1, p2⟩ := hs.defs b' hb'
    exact ⟨p1, by rw [hother b' (fun e => by rw [e, hb] at p2; cases p2)]; exact p2⟩

theorem heavy_sound (hC : CtxOk C) (hs : Sat C K H D w) (he : RepE K N e a.tmps) {o : Oper} {wr : Bool} {v : AV} {H' : AH} (h : heavyA C wr e H o = some (v, H')) :
    ∃ K' w' nx u, (execOp a.eval o).run C.P w = .ok nx w' ∧ (nx = .value u ∨ (nx = .skip ∧ u = Go.undef)) ∧ K.le K' ∧ Frz K H K' H' ∧ Sat C K' H' D w' ∧ RepV K' v u := by
  obtain ⟨dst, op, type, pos, after, guard⟩ := o
  cases op with
  | box t x =>
    simp only [heavyA] at h
    split at h
    · rename_i x' hx
      split at h
      · rename_i hone
        have hr := (evalA_sound hs he hx).cells
        split at h
        · simp only [Option.some.injEq, Prod.mk.injEq] at h
          obtain ⟨rfl, rfl⟩ := h
          have hnew := hs.new (us := []) (ty := t) hr (List.all_eq_true.1 hone)
          refine ⟨_, _, _, .pointer (some ⟨w.heap.size, 0, none⟩), ?_, .inl rfl, Kr.bind_le (hs.β_n (Nat.le_refl _)), Frz.push hs _ _ _, hnew, .ptr (by simp [Kr.bind])⟩
          simp [execOp, Instr.box, newVar, newRow]
        · simp only [Option.some.injEq, Prod.mk.injEq] at h
          obtain ⟨rfl, rfl⟩ := h
          have hnew := hs.settle (a.eval x).cells.toList [] t
          refine ⟨_, _, _, .pointer (some ⟨w.heap.size, 0, none⟩), ?_, .inl rfl, Kr.settle_le hs _, ⟨Nat.le_refl _, fun i _ hb => ⟨hb, rfl⟩⟩, hnew,
            .ro (a.eval x).cells.toList hr.1 (fun j v hj => by simpa [Kr.settle] using hj) (List.all_eq_true.1 hone) (fun j a v ha hv => (hr.2 j a v ha hv).mono (Kr.settle_le hs _))⟩
          simp [execOp, Instr.box, newVar, newRow]
      · cases h
    · cases h
  | store t x y =>
    simp only [heavyA] at h
    split at h
    · rename_i d id off v' ht hx hy
      split at h
      · rename_i cs hg
        split at h
        · rename_i hc
          obtain ⟨hc1, hc2, hc3⟩ := hc
          simp only [Option.some.injEq, Prod.mk.injEq] at h
          obtain ⟨rfl, rfl⟩ := h
          have hxv := evalA_sound hs he hx
          have hyv := evalA_sound hs he hy
          have hcr := hyv.cells
          obtain ⟨by', u, hi, hu, _⟩ := (hC.ty t d ht).i
          generalize hxe : a.eval x = xv at hxv
          cases hxv with
          | ptr hb =>
            rename_i b
            obtain ⟨o1, o2, o3, o4⟩ := hs.obj id b hb
            rw [hg] at o4
            obtain ⟨vs, us, ty, hh, hr, ho, hG⟩ := o4
            have hvl := hr.1
            have hyl : (a.eval y).cells.toList.length = d.size := hcr.1.trans hc1
            obtain ⟨w', hw, hb', hk, hsz, w1, w2, w3⟩ := run_storeCells C.P b off ty (a.eval y).cells.toList 0 w (vs ++ us) hh (by simp at hyl ⊢; omega) (hcr.ones (List.all_eq_true.1 hc3))
            refine ⟨K, w', .skip, Go.undef, ?_, .inr ⟨rfl, rfl⟩, .refl K, ⟨Nat.le_refl _, fun i hi hn => ⟨hn, ?_⟩⟩, ?_, .undef K⟩
            · simp only [execOp, hxe, Instr.storeAt, Instr.sureAddr, storeVar, Sem.run_bind, Sem.run_pure, Result.andThen_ok, hi.sizeOf]
              rw [if_neg (by simp at hyl ⊢; omega), hw]
              rfl
            · simp only [AH.set]
              rw [if_neg (fun e => by rw [e, hb] at hn; cases hn)]
            · refine hs.write hb (by rw [hg]; rfl) ⟨w1, w2, w3, by omega, fun k hk' => hk k (fun e => ?_), fun k hk => by have := hs.base.lt k hk; have := hs.base.size; omega⟩ hsz hk hG (hs.M_none hh (fun _ _ => by simp)) ?_ (fun dd hd => by rw [hh] at hd; cases hd)
              · rw [e, o1] at hk'; cases hk'
              · refine ⟨vs.take off ++ (a.eval y).cells.toList ++ vs.drop (off + d.size), us, ty, ?_, ((hr.take off).append hcr).append (hr.drop _), ?_, hG⟩
                · rw [hb']
                  congr 2
                  simp only [Nat.add_zero]
                  rw [List.take_append_of_le_length (by omega), hyl, List.drop_append_of_le_length (by omega)]
                  simp
                · intro x hx
                  simp only [List.mem_append] at hx
                  rcases hx with (hx | hx) | hx
                  · exact ho x (List.mem_of_mem_take hx)
                  · exact List.all_eq_true.1 hc3 x hx
                  · exact ho x (List.mem_of_mem_drop hx)
        · cases h
      · cases h
    · cases h
  | makeSlice t l c =>
    simp only [heavyA] at h
    split at h
    · rename_i d k1 l' k2 c' ht hl hc
      split at h
      · rename_i esz eb ez hsh
        split at h
        · rename_i hcond
          obtain ⟨hc1, hc2, hc3, hc4, hc5, hc6⟩ := hcond
          simp only [Option.some.injEq, Prod.mk.injEq] at h
          obtain ⟨rfl, rfl⟩ := h
          obtain ⟨by', u, hty, hu, hsp⟩ := (hC.ty t d ht).i
          rw [hsh] at hsp
          obtain ⟨el, u', rfl, hie⟩ := hsp
          obtain ⟨i, z, hi, h1, h2, hz, hzb, _, _, h7⟩ := hie.i
          obtain ⟨hzr, hzo⟩ := zeroB_rep K hzb
          have hzl : z.cells.size = esz := by have := hzr.1; rw [h7] at this; simpa using this
          have hlv := (evalA_sound hs he hl).int_inv
          have hcv := (evalA_sound hs he hc).int_inv
          have hnew := hs.new (us := []) (ty := el) (hzr.flatten c'.toNat) (by
            intro x hx
            simp only [List.mem_flatten, List.mem_replicate] at hx
            obtain ⟨l, ⟨_, rfl⟩, hx⟩ := hx
            exact hzo x hx)
          refine ⟨_, _, _, .slice (some ⟨w.heap.size, 0, none⟩) l'.toNat c'.toNat, ?_, .inl rfl, Kr.bind_le (hs.β_n (Nat.le_refl _)), Frz.push hs _ _ _, hnew, .ms (by simp [Kr.bind]) (by omega) (fun k hk => by injection hk)⟩
          have wl : IntKind.i64.wrap l' = l' := wrap64_in _ (by omega) (by omega)
          have wc : IntKind.i64.wrap c' = c' := wrap64_in _ (by omega) (by omega)
          have hb48 : ¬ ((i.bytes : Int) * c' > 2 ^ 48) := by rw [h2]; omega
          have hn0 : ¬ c' < 0 := by omega
          have hn1 : ¬ l' < 0 := by omega
          have hn2 : ¬ l' > c' := by omega
          simp only [execOp, hlv, hcv, Instr.makeSlice, asInt, asIntOf, Sem.run_bind, Sem.run_pure, Result.andThen_ok, run_underlying' hty.un, run_typeInfo' hi, wl, wc, run_askRoom, hie.sizeOf]
          rw [if_neg (by simp only [Bool.or_eq_true, decide_eq_true_eq, not_or]; exact ⟨⟨⟨hn0, hb48⟩, hn1⟩, hn2⟩)]
          simp only [Sem.run_bind, run_askRoom, Result.andThen_ok, hie.sizeOf]
          by_cases h0 : c'.toNat * esz = 0
          · have hn : c'.toNat = 0 := by rcases Nat.mul_eq_zero.1 h0 with h | h <;> omega
            rw [if_pos h0]
            simp only [Sem.run_bind, Sem.run_pure, Result.andThen_ok, newRow, run_newObj, hn]
            have r0 : Array.range 0 = #[] := rfl
            simp [r0]
          · rw [if_neg h0]
            simp only [Sem.run_bind, Sem.run_pure, Result.andThen_ok, zeroValue, run_typeInfo' hi, hz, newRow, run_newObj]
            have ht' := tile z.cells (by omega) c'.toNat
            rw [hzl] at ht' ⊢
            rw [ht']
            simp
        · cases h
      · cases h
    · cases h
  | makeMap t r =>
    cases r with
    | some _ => simp [heavyA] at h
    | none =>
      simp only [heavyA, Option.some.injEq, Prod.mk.injEq] at h
      obtain ⟨rfl, rfl⟩ := h
      have hn := hs.β_n (Nat.le_refl H.n)
      refine ⟨K.bind H.n w.heap.size (0, 0), w.alloc (.map #[] 0), _, .map (some w.heap.size), ?_, .inl rfl, Kr.bind_le hn, Frz.push hs _ _ _, ?_, .map (by simp [Kr.bind])⟩
      · simp [execOp, Instr.makeMap]
      · refine hs.make _ hn (by simp [AH.push]) (by simp [AH.push]) (push_g H _) (fun i b hb => .inl (push_lt H _ (hs.obj i b hb).2.2.1)) (Kr.bind_le hn) (fun i => rfl) (fun b o _ => rfl) (fun o v hv => ?_) ?_
        · exact absurd hv (by show K.G w.heap.size o ≠ some v; rw [hs.G_new]; simp)
        · exact ⟨[], 0, by rw [heap_alloc_at, if_pos rfl], rfl, fun j p c hp => by simp at hp, fun o => hs.G_new o, hs.M_new⟩
  | mapUpdate t m k x =>
    simp only [heavyA] at h
    split at h
    · rename_i d id k' v' ht hm hk hv
      split at h
      · rename_i kt z ea es hsh hg
        split at h
        · rename_i dk hdk
          simp only [Option.map_eq_some_iff, Prod.mk.injEq] at h
          obtain ⟨es', hput, rfl, rfl⟩ := h
          obtain ⟨by', u, hty, hu, hsp⟩ := (hC.ty t d ht).i
          rw [hsh] at hsp
          obtain ⟨el, sz, b', u', rfl, hie, hea⟩ := hsp
          have hmv := evalA_sound hs he hm
          have hkv := evalA_sound hs he hk
          have hvv := evalA_sound hs he hv
          generalize hme : a.eval m = mv at hmv
          cases hmv with
          | map hb =>
            rename_i b
            obtain ⟨o1, o2, o3, o4⟩ := hs.obj id b hb
            rw [hg] at o4
            obtain ⟨cs, clk, hh, hl, hp, hG, hMb⟩ := o4
            have hrm : RepM K es cs := ⟨hl, hp⟩
            obtain ⟨q, hq, hr⟩ := putA_idx hput
            obtain ⟨hf1, hf2⟩ := findKey_sound (w := w) hC hdk hkv hrm hq
            have hget : (getObj b).run C.P w = .ok (.map cs.toArray clk) w := run_getObj hh (fun _ _ _ => by simp)
            have frz : Frz K H K (H.set id (.map es')) := ⟨Nat.le_refl _, fun i hi hn => ⟨hn, by simp only [AH.set]; rw [if_neg (fun e => by rw [e, hb] at hn; cases hn)]⟩⟩
            cases q with
            | none =>
              simp only at hr
              subst hr
              refine ⟨K, World.putObj' w b (.map (cs ++ [({ key := a.eval k, val := a.eval x, born := clk } : MapEntry)]).toArray (clk + 1)), .skip, Go.undef, ?_, .inr ⟨rfl, rfl⟩, .refl K, frz, hs.putMap hb hg ⟨by simp [hl], ?_⟩, .undef K⟩
              · simp only [execOp, hme, Instr.mapUpdate, Sem.run_bind, Sem.run_pure, Result.andThen_ok, run_underlying' hty.un, hget, hf2, hf1, Option.bind_none]
                rw [run_setObj hh (fun _ _ _ => by simp)]
                simp
              · intro j p c hp' hc'
                by_cases hj : j < es.length
                · rw [List.getElem?_append_left hj] at hp'
                  rw [List.getElem?_append_left (by omega)] at hc'
                  exact hp j p c hp' hc'
                · rw [List.getElem?_append_right (by omega)] at hp'
                  rw [List.getElem?_append_right (by omega), hl] at hc'
                  have h0 : j - es.length = 0 := by
                    rcases Nat.eq_zero_or_pos (j - es.length) with h | h
                    · exact h
                    · rw [List.getElem?_eq_none (by simp; omega)] at hp'; cases hp'
                  rw [h0] at hp' hc'
                  simp at hp' hc'
                  subst hp'; subst hc'
                  exact ⟨hkv, hvv⟩
            | some i =>
              obtain ⟨hi, hr⟩ := hr
              subst hr
              obtain ⟨p, hpi, hpk⟩ := idxA_key hq
              have hci : cs[i]? = some (cs[i]'(by omega)) := List.getElem?_eq_getElem _
              obtain ⟨hc1, hc2⟩ := hp i p _ hpi hci
              refine ⟨K, World.putObj' w b (.map (cs.modify i fun e => { e with key := a.eval k, val := a.eval x }).toArray clk), .skip, Go.undef, ?_, .inr ⟨rfl, rfl⟩, .refl K, frz, hs.putMap hb hg ⟨by simp [hl], ?_⟩, .undef K⟩
              · simp only [execOp, hme, Instr.mapUpdate, Sem.run_bind, Sem.run_pure, Result.andThen_ok, run_underlying' hty.un, hget, hf2, hf1, Option.bind_some, hci, Option.map_some]
                have hks := keyStays (C := C) (w := w) hkv hc1 hpk
                simp only [List.getElem?_toArray, hci, Option.map_some, Option.getD_some, hks, Result.andThen_ok, Sem.run_bind]
                rw [run_setObj hh (fun _ _ _ => by simp)]
                simp
              · intro j q c hq' hc'
                rw [List.getElem?_modify] at hc'
                by_cases hj : i = j
                · subst hj
                  rw [List.getElem?_set_self hi] at hq'
                  injection hq' with hq'
                  subst hq'
                  rw [hci] at hc'
                  simp at hc'
                  subst hc'
                  exact ⟨hkv, hvv⟩
                · rw [List.getElem?_set_ne hj] at hq'
                  simp only [hj, if_false] at hc'
                  exact hp j q c hq' (by simpa using hc')
        · cases h
      · cases h
    · cases h
  | call c =>
    obtain ⟨callee, args, ts⟩ := c
    cases callee with
    | builtin bi =>
      cases bi with
      | append =>
        simp only [heavyA] at h
        split at h
        · rename_i t u s x hts hargs
          split at h
          · rename_i d du n cs c xv ht hut hse hxe
            split at h
            · rename_i esz eb ez e2 b2 z2 hsh hush
              split at h
              · rename_i m ds hread
                split at h
                · rename_i hcond
                  obtain ⟨hcs, hesz, heb, hbound⟩ := hcond
                  have hts' : ts = #[t, u] := Array.toList_inj.1 (by simpa using hts)
                  have hargs' : args = #[s, x] := Array.toList_inj.1 (by simpa using hargs)
                  subst hts'; subst hargs'
                  obtain ⟨by', ut, hty, hu, hsp⟩ := (hC.ty t d ht).i
                  rw [hsh] at hsp
                  obtain ⟨el, u', rfl, hie⟩ := hsp
                  obtain ⟨by2, ut2, hty2, hu2, hsp2⟩ := (hC.ty u du hut).i
                  rw [hush] at hsp2
                  obtain ⟨el2, u2', rfl, hie2⟩ := hsp2
                  have hsv := evalA_sound hs he hse
                  have hxv := evalA_sound hs he hxe
                  obtain ⟨us, B, cc, hxeq, hxr, hxo, hxl, hxrun⟩ := read_sound hs hxv hread
                  have hrun : ∀ (r : Result Value), (Builtin.append_ #[t, u] type #[a.eval s, a.eval x]).run C.P w = r →
                      (execOp a.eval { dst := dst, op := .call { callee := .builtin .append, args := #[s, x], argTypes := #[t, u] }, type := type, pos := pos, after := after, guard := guard }).run C.P w = r.andThen fun v w' => .ok (.value v) w' := by
                    intro r hr
                    have hm2 : Array.map a.eval #[s, x] = #[a.eval s, a.eval x] := by simp
                    simp only [execOp, resolve, Sem.run_bind, Sem.run_pure, Result.andThen_ok, invoke, builtin, hm2]
                    rw [hr]
                  split at h
                  · rename_i hm
                    subst hm
                    simp only [Option.some.injEq, Prod.mk.injEq] at h
                    obtain ⟨rfl, rfl⟩ := h
                    have hds : us = [] := by have := hxr.1; rw [hxl] at this; simpa using this
                    subst hds
                    generalize hsg : a.eval s = sv at hsv
                    have hsv' := hsv
                    cases hsv' with
                    | list vs hl hh ho hr hn hcap =>
                      rename_i cap A
                      have happ : (Builtin.append_ #[t, u] type #[a.eval s, a.eval x]).run C.P w = .ok (.slice A n cap) w := by
                        rw [hsg, hxeq]
                        exact run_append_none hty.un hty2.un hie hn (by rw [← hxeq]; exact hxrun w (fun _ _ _ h => h)) type
                      refine ⟨K, w, .value _, _, ?_, .inl rfl, .refl K, Frz.refl K H, hs, hsv⟩
                      rw [hrun _ happ]
                      rfl
                  · rename_i hm
                    generalize hsg : a.eval s = sv at hsv
                    have hsv' := hsv
                    cases hsv' with
                    | list vs hl hh ho hr hn hcap =>
                      rename_i cap A
                      obtain ⟨vs', A', cap', hseq, hsr, hso, hsl, hsrun⟩ := read_sound (esz := esz) (m := n) (ds := cs) hs hsv (by simp [readA, hcs])
                      injection hseq with e1 e2 e3
                      subst e1; subst e3
                      have hvl : vs'.length = n * esz := hsr.1.trans hsl
                      have hul : us.length = m * esz := hxr.1.trans hxl
                      have hboth := hsr.append hxr
                      have hone : ∀ a ∈ cs ++ ds, a.one = true := fun a ha => by rcases List.mem_append.1 ha with h | h; exact hso a h; exact hxo a h
                      have grow : ∀ (H2 : AH), cap < n + m → H2.n = H.n + 1 → H2.g H.n = .own → (∀ i, i < H.n → K.β i = none → H2.g i = H.g i) → (∀ i b, K.β i = some b → H2.g i = H.g i ∨ H2.g i = .gone) →
                          ∃ K' w' nx ru, (execOp a.eval { dst := dst, op := .call { callee := .builtin .append, args := #[s, x], argTypes := #[t, u] }, type := type, pos := pos, after := after, guard := guard }).run C.P w = .ok nx w' ∧ (nx = .value ru ∨ (nx = .skip ∧ ru = Go.undef)) ∧ K.le K' ∧ Frz K H K' H2 ∧ Sat C K' H2 D w' ∧ RepV K' (.list (n + m) (cs ++ ds) (.tok H.n)) ru := by
                        intro H2 hlt hn2 hg2 hfr hsame
                        obtain ⟨cap2, rest, hc2, hrl, happ⟩ := run_append_grow (w := w) hty.un hty2.un hie (sv := a.eval s) (xv := a.eval x) hsg ⟨B, cc, hxeq⟩ hlt heb hbound (by rw [hsg]; exact hsrun) hxrun type
                        obtain ⟨K', hK', hle, hsat⟩ := (Sat.drew hs).own (vs := vs' ++ us) (rest := rest) (ty := el) hn2 hg2 hsame
                        refine ⟨K', _, .value (.slice (some ⟨w.heap.size, 0, none⟩) (n + m) cap2), .slice (some ⟨w.heap.size, 0, none⟩) (n + m) cap2, ?_, .inl rfl, hle, ⟨by omega, fun i hi hb => ⟨?_, hfr i hi hb⟩⟩, hsat, ?_⟩
                        · rw [hrun _ happ]; rfl
                        · rw [hK']; simp [Kr.bind, Kr.settle, show i ≠ H.n by omega, hb]
                        · refine .list (vs' ++ us) hboth.1 (.inr ⟨w.heap.size, 0, rfl, fun j v hv => ?_⟩) hone (fun j a v ha hv => (hboth.2 j a v ha hv).mono hle) (by omega) ?_
                          · rw [hK']
                            show (if w.heap.size = w.heap.size then (vs' ++ us)[0 + j]? else K.G w.heap.size (0 + j)) = some v
                            rw [if_pos rfl, Nat.zero_add]
                            exact hv
                          · refine ⟨w.heap.size, esz, rfl, ?_, hesz, ?_, ?_⟩
                            · rw [hK']; simp [Kr.bind]
                            · simp only [List.length_append, hsl, hxl, Nat.add_mul]
                            · rw [hK']
                              simp only [Kr.bind, if_true, List.length_append, hvl, hul, hrl, ← Nat.add_mul]
                              congr 2
                              omega
                      split at h
                      · rename_i hcfull
                        simp only [CapOk] at hcap
                        split at h
                        · simp only [Option.some.injEq, Prod.mk.injEq] at h
                          obtain ⟨rfl, rfl⟩ := h
                          obtain ⟨cap2, rest, hc2, hrl, happ⟩ := run_append_grow (w := w) hty.un hty2.un hie (sv := a.eval s) (xv := a.eval x) hsg ⟨B, cc, hxeq⟩ (by omega) heb hbound (by rw [hsg]; exact hsrun) hxrun type
                          have hnew : Sat C (K.bind H.n w.heap.size (0, 0)) (H.push (.cells (cs ++ ds))) D (w.drew.alloc (.cells (vs' ++ us ++ rest).toArray el (0, 0))) := (Sat.drew hs).new (us := rest) (ty := el) hboth hone
                          refine ⟨_, _, .value (.slice (some ⟨w.heap.size, 0, none⟩) (n + m) cap2), .slice (some ⟨w.heap.size, 0, none⟩) (n + m) cap2, ?_, .inl rfl, Kr.bind_le (hs.β_n (Nat.le_refl _)), Frz.push hs _ w.heap.size (0, 0), hnew, .ms (by simp [Kr.bind]) hc2 (fun k hk => by cases hk)⟩
                          rw [hrun _ happ]
                          rfl
                        · simp only [Option.some.injEq, Prod.mk.injEq] at h
                          obtain ⟨rfl, rfl⟩ := h
                          exact grow _ (by omega) rfl (push_g H _) (fun i hi _ => push_lt H _ hi) (fun i b hb => .inl (push_lt H _ (hs.obj i b hb).2.2.1))
                      · rename_i id
                        split at h
                        · rename_i hown
                          split at h
                          · rename_i hnpos
                            simp only [Option.some.injEq, Prod.mk.injEq] at h
                            obtain ⟨rfl, rfl⟩ := h
                            obtain ⟨b, sz, hA, hbid, hsz, hlen, htk⟩ := hcap
                            have hszz : sz = esz := by
                              have : n * sz = n * esz := by rw [← hlen, hcs]
                              exact Nat.eq_of_mul_eq_mul_left hnpos this
                            subst hszz
                            have hgn : ∀ i, i < H.n → ((H.set id .gone).push .own).g i = if i = id then .gone else H.g i := fun i hi => by simp [AH.push, AH.set, show i ≠ H.n by omega]
                            by_cases hroom : n + m ≤ cap
                            · obtain ⟨o1, o2, o3, o4⟩ := hs.obj id b hbid
                              rw [hown] at o4
                              obtain ⟨vv, ty, lo, hi, q1, q0, q2, q3, q4, q5⟩ := o4
                              have hlo : lo = n * sz ∧ hi = cap * sz := by rw [htk] at q2; injection q2 with q2 q2'; exact ⟨q2.symm, q2'.symm⟩
                              obtain ⟨hlo1, hlo2⟩ := hlo
                              have hfit : n * sz + us.length ≤ vv.length := by rw [hul, q3, hlo2, ← Nat.add_mul]; exact Nat.mul_le_mul_right _ hroom
                              obtain ⟨w', happ, hb', hother, hsz', w1, w2, w3⟩ := run_append_place (w := w) (P := C.P) hty.un hty2.un hie hroom q1 hfit (hxr.ones hxo) (by rw [← hxeq]; exact hxrun w (fun _ _ _ h => h)) type
                              obtain ⟨K', hK', hle, hsat⟩ := hs.place (us := us) hbid hown (lo := n * sz) (by rw [htk]) q1 hfit hb' hother hsz' w1 w2 w3
                              refine ⟨K', w', .value (.slice A (n + m) cap), .slice A (n + m) cap, ?_, .inl rfl, hle, ⟨Nat.le_succ _, fun i hi hb => ⟨?_, ?_⟩⟩, hsat, ?_⟩
                              · have happ' : (Builtin.append_ #[t, u] type #[a.eval s, a.eval x]).run C.P w = .ok (.slice A (n + m) cap) w' := by rw [hsg, hxeq, hA]; exact happ
                                rw [hrun _ happ']; rfl
                              · rw [hK']; simp [Kr.bind, show i ≠ H.n by omega, hb]
                              · rw [hgn i hi, if_neg (fun e => by rw [e, hbid] at hb; cases hb)]
                              · refine .list (vs' ++ us) hboth.1 (.inr ⟨b, 0, hA, fun j v hv => ?_⟩) hone (fun j a v ha hv => (hboth.2 j a v ha hv).mono hle) hroom ?_
                                · rw [hK', Nat.zero_add]
                                  show (if b = b ∧ n * sz ≤ j ∧ j < n * sz + us.length then us[j - n * sz]? else K.G b j) = some v
                                  by_cases hj : j < n * sz
                                  · rw [if_neg (by omega)]
                                    rw [List.getElem?_append_left (by omega)] at hv
                                    have hcne : cs ≠ [] := fun e => by rw [e] at hcs; simp at hcs; have := Nat.mul_pos hnpos hsz; omega
                                    obtain ⟨b2, o2, he2, hh2⟩ := hh.resolve_left hcne
                                    rw [hA] at he2
                                    injection he2 with he2
                                    injection he2 with f1 f2 _
                                    subst f1; subst f2
                                    have hvv : vs[j]? = some v := by
                                      have h1 := hsrun w (fun _ _ _ h => h)
                                      have h2 := run_loadCells C.P w b 0 (n * sz) vs (by rw [hl, hcs]) (fun j v hv => hs.g _ _ _ (hh2 j v hv))
                                      have h3 : (Builtin.firstCells sz n (.slice A n cap)).run C.P w = .ok vs.toArray w := by rw [hA]; exact h2
                                      rw [h3] at h1
                                      injection h1 with h1
                                      have : vs = vs' := by simpa using h1
                                      rw [this]; exact hv
                                    have := hh2 j v hvv
                                    rw [Nat.zero_add] at this
                                    exact this
                                  · have hjl : j < (vs' ++ us).length := (List.getElem?_eq_some_iff.1 hv).1
                                    simp only [List.length_append] at hjl
                                    rw [if_pos ⟨rfl, by omega, by omega⟩]
                                    rw [List.getElem?_append_right (by omega), hvl] at hv
                                    exact hv
                                · refine ⟨b, sz, hA, ?_, hsz, ?_, ?_⟩
                                  · rw [hK']; simp [Kr.bind]
                                  · simp only [List.length_append, hsl, hxl, Nat.add_mul]
                                  · rw [hK']
                                    simp only [Kr.bind, if_true, hul, q3, hlo2, ← Nat.add_mul]
                            · refine grow _ (by omega) rfl (push_g' H id .gone .own) (fun i hi hb => ?_) (fun i b' hb' => ?_)
                              · rw [hgn i hi, if_neg (fun e => by rw [e, hbid] at hb; cases hb)]
                              · rw [hgn i (hs.obj i b' hb').2.2.1]
                                by_cases hii : i = id
                                · exact .inr (if_pos hii)
                                · exact .inl (if_neg hii)
                          · cases h
                        · cases h
                      · cases h
                · cases h
              · cases h
            · cases h
          · cases h
        · cases h
      | _ => simp [heavyA] at h
    | _ => simp [heavyA] at h
  | _ => simp [heavyA] at h
end ev
end Go.Abs
