/- All light operations together: what the abstract step says, the machine does. Conditions: the table of types fits the program. -/
import Derived.Test.YtdlofkamkiojlaaDoorXLtd
set_option linter.unusedVariables false
set_option linter.unusedSimpArgs false
namespace Go.Abs
open Go Go.RowKit

theorem flatten_get {α : Type} (zs : List α) (hz : 0 < zs.length) : ∀ (n i : Nat), i < n * zs.length → (List.replicate n zs).flatten[i]? = zs[i % zs.length]? := by
  intro n
  induction n with
  | zero => intro i h; simp at h
  | succ n ih =>
    intro i h
    rw [List.replicate_succ, List.flatten_cons]
    by_cases hi : i < zs.length
    · rw [List.getElem?_append_left hi, Nat.mod_eq_of_lt hi]
    · rw [List.getElem?_append_right (by omega), ih (i - zs.length) (by rw [Nat.succ_mul] at h; omega)]
      congr 1
      conv => rhs; rw [show i = (i - zs.length) + zs.length by omega, Nat.add_mod_right]
theorem flatten_len {α : Type} (zs : List α) (n : Nat) : (List.replicate n zs).flatten.length = n * zs.length := by
  induction n with
  | zero => simp
  | succ n ih => rw [List.replicate_succ, List.flatten_cons, List.length_append, ih, Nat.succ_mul]; omega
/-- The cells of n zero values, as the machine lays them. -/
theorem tile (zs : Array Value) (hz : 0 < zs.size) (n : Nat) : (Array.range (n * zs.size)).map (fun i => zs[i % zs.size]!) = (List.replicate n zs.toList).flatten.toArray := by
  apply Array.ext_getElem?
  intro i
  have hR : ((List.replicate n zs.toList).flatten.toArray)[i]? = (List.replicate n zs.toList).flatten[i]? := List.getElem?_toArray
  rw [hR]
  by_cases hi : i < n * zs.size
  · rw [flatten_get zs.toList (by simpa using hz) n i (by simpa using hi)]
    have h1 : i % zs.size < zs.size := Nat.mod_lt _ hz
    simp [hi, Array.getElem!_eq_getD, Array.getD_eq_getD_getElem?, h1]
  · have h2 : (List.replicate n zs.toList).flatten[i]? = none := List.getElem?_eq_none (by rw [flatten_len]; simpa using hi)
    rw [h2]
    exact Array.getElem?_eq_none (by simpa using hi)

section ev
variable {C : Ctx} {K : Kr} {H : AH} {D : List Nat} {w : World} {N : Nat} {e : Env} {a : Act}

theorem Sat.G_new (hs : Sat C K H D w) (o : Nat) : K.G w.heap.size o = none := by
  cases h : K.G w.heap.size o with
  | none => rfl
  | some v =>
    obtain ⟨cs, e, f, h1, _⟩ := cell_some (hs.g _ _ _ h)
    exact absurd (lt_of_heap h1) (Nat.lt_irrefl _)

/-- Cells settled in a block to come. -/
def Kr.settle (K : Kr) (b : Nat) (vs : List Value) : Kr := { K with G := fun b' o => if b' = b then vs[o]? else K.G b' o }
theorem Kr.settle_le (hs : Sat C K H D w) (vs : List Value) : K.le (K.settle w.heap.size vs) := by
  refine ⟨rfl, fun b o v h => ?_, fun _ _ h => h, fun _ _ _ => rfl, fun _ _ h => h, fun b hb => ⟨fun o => if_neg (hs.base.ne hb), rfl⟩⟩
  show (if b = w.heap.size then vs[o]? else K.G b o) = some v
  rw [if_neg (fun e => by rw [e, hs.G_new] at h; cases h)]
  exact h
theorem Sat.settle (hs : Sat C K H D w) (vs us : List Value) (ty : TypeId) : Sat C (K.settle w.heap.size vs) H D (w.alloc (.cells (vs ++ us).toArray ty (0, 0))) := by
  refine hs.fresh _ (Kr.settle_le hs vs) rfl (fun b o hb => if_neg hb) (fun o v hv => ?_)
  have hv' : vs[o]? = some v := by simpa [Kr.settle] using hv
  rw [cell_of (show (w.alloc _).heap[w.heap.size]? = _ by rw [heap_alloc_at, if_pos rfl])]
  rw [List.getElem?_toArray, List.getElem?_append_left (List.getElem?_eq_some_iff.1 hv').1]
  exact hv'

theorem buildSlice_sound (hC : CtxOk C) (hs : Sat C K H D w) (he : RepE K N e a.tmps) {t : TypeId} {d : ATy} (ht : C.T t = some d) {n : Nat} {ps : Array (Nat × Operand)} {vs : List (Nat × AV)} (hp : partsA C e ps.toList = some vs) {v : AV}
    (h : (match d.shape with
      | .slice esz _ ez => if n * esz ≤ 1024 ∧ 0 < esz then (fillA (fun i => some (i * esz, esz)) ((List.replicate n ez).flatten) vs).map fun cs => AV.list n cs .full else none
      | _ => none) = some v) :
    ∃ K' w' u, (Instr.buildSlice t n (ps.map fun (i, x) => (i, a.eval x))).run C.P w = .ok u w' ∧ K.le K' ∧ K'.β = K.β ∧ Sat C K' H D w' ∧ RepV K' v u := by
  obtain ⟨by', u, hi, hu, hsp⟩ := (hC.ty t d ht).i
  obtain ⟨hp1, hp2⟩ := partsA_sound hs he hp
  have hpl : (ps.map fun (i, x) => (i, a.eval x)).toList = ps.toList.map fun p => (p.1, a.eval p.2) := by simp
  split at h
  · rename_i esz eb ez hsh
    rw [hsh] at hsp
    obtain ⟨el, u', rfl, hie⟩ := hsp
    split at h
    · rename_i hc
      obtain ⟨hc, hesz⟩ := hc
      simp only [Option.map_eq_some_iff] at h
      obtain ⟨r, hr, rfl⟩ := h
      obtain ⟨z, hz, hzb, hz1, hz2⟩ := hie.zeroValue w
      obtain ⟨hzr, hzo⟩ := zeroB_rep K hzb
      have hzl : z.cells.size = esz := by have := hzr.1; rw [hie.len] at this; simpa using this
      obtain ⟨r', hr', hrr, hro, hrl⟩ := fill_sound (K := K) (place' := fun i => some (i * esz, esz)) (cells' := (List.replicate n z.cells.toList).flatten) (fun i => rfl) (by simpa using hp1) hp2 (hzr.flatten n) (by
        intro x hx
        simp only [List.mem_flatten, List.mem_replicate] at hx
        obtain ⟨l, ⟨_, rfl⟩, hx⟩ := hx
        exact hzo x hx) hr
      have hlen : r.length = n * esz := by rw [hrl, flatten_len, hie.len]
      refine ⟨K.settle w.heap.size r'.toList, w.alloc (.cells r' el), .slice (some ⟨w.heap.size, 0, none⟩) n n, ?_, Kr.settle_le hs _, rfl, ?_, ?_⟩
      · simp only [Instr.buildSlice, Sem.run_bind, run_underlying' hi.un, Result.andThen_ok, hie.sizeOf]
        rw [if_neg (by omega)]
        by_cases h0 : n * esz = 0
        · have hn : n = 0 := by rcases Nat.mul_eq_zero.1 h0 with h | h <;> omega
          subst hn
          rw [if_pos (by simp)]
          simp only [Sem.run_bind, Sem.run_pure, Result.andThen_ok, hpl]
          have hr'' : Instr.fill (fun i => some (i * esz, esz)) (Array.map (fun x => (#[] : Array Value)[x % (#[] : Array Value).size]!) (Array.range (0 * esz))) (ps.toList.map fun p => (p.1, a.eval p.2)) = some r' := by
            rw [← hr']
            congr 1
            simp
          rw [hr'']
          rfl
        · rw [if_neg h0]
          simp only [Sem.run_bind, Sem.run_pure, Result.andThen_ok, hz, hpl]
          have ht' := tile z.cells (by omega) n
          rw [hzl] at ht'
          rw [hzl, ht', hr']
          rfl
      · have := hs.settle r'.toList [] el
        simpa using this
      · refine .list r'.toList hrr.1 (.inr ⟨w.heap.size, 0, rfl, fun j v hv => ?_⟩) hro (fun j a v ha hv => (hrr.2 j a v ha hv).mono (Kr.settle_le hs _)) (Nat.le_refl _) rfl
        show (if w.heap.size = w.heap.size then _ else _) = some v
        rw [if_pos rfl, Nat.zero_add]
        exact hv
    · cases h
  · cases h

theorem light_sound (hC : CtxOk C) (hs : Sat C K H D w) (he : RepE K N e a.tmps) {o : Oper} {v : AV} (h : lightA C e H o = some v) :
    ∃ K' w' u, (execOp a.eval o).run C.P w = .ok (.value u) w' ∧ K.le K' ∧ K'.β = K.β ∧ Sat C K' H D w' ∧ RepV K' v u := by
  have done : ∀ {u}, (execOp a.eval o).run C.P w = .ok (.value u) w → RepV K v u →
      ∃ K' w' u, (execOp a.eval o).run C.P w = .ok (.value u) w' ∧ K.le K' ∧ K'.β = K.β ∧ Sat C K' H D w' ∧ RepV K' v u := fun hu hr => ⟨K, w, _, hu, .refl K, rfl, hs, hr⟩
  obtain ⟨dst, op, type, pos, after, guard⟩ := o
  cases op with
  | move x => exact done rfl (evalA_sound hs he h)
  | assign x => exact done rfl (evalA_sound hs he h)
  | pick c x y =>
    simp only [lightA] at h
    split at h
    · rename_i t hc
      have hcv := (evalA_sound hs he hc).bool_inv
      split at h
      · rename_i ht
        exact done (by simp [execOp, hcv, asBool, ht]) (evalA_sound hs he h)
      · rename_i ht
        exact done (by simp [execOp, hcv, asBool, ht]) (evalA_sound hs he h)
    · cases h
  | load t x =>
    simp only [lightA] at h
    split at h
    · rename_i d p ht hp
      obtain ⟨u, hu, hr⟩ := load_sound hC hs ht (evalA_sound hs he hp) h
      exact done (by simp [execOp, hu]) hr
    · cases h
  | binOp op t x y yt =>
    simp only [lightA] at h
    split at h
    · rename_i p q hp hq
      have key : ∃ u, (do eqGuard op t x y (a.eval x) (a.eval y); Go.binOp op t (a.eval x) (a.eval y) : Sem Value).run C.P w = .ok u w ∧ RepV K v u := by
        split at h
        · rename_i r hr
          injection h with h
          subst h
          obtain ⟨rfl, hrun⟩ := nil_sound (w := w) (X := x) hC (evalA_sound hs he hp) hr
          exact ⟨_, hrun, .bool _⟩
        · exact bin_sound (w := w) hC x y (evalA_sound hs he hp) (evalA_sound hs he hq) h
      obtain ⟨u, hu, hr⟩ := key
      refine done (u := u) ?_ hr
      have : (execOp a.eval { dst := dst, op := .binOp op t x y yt, type := type, pos := pos, after := after, guard := guard }).run C.P w =
          ((do eqGuard op t x y (a.eval x) (a.eval y); Go.binOp op t (a.eval x) (a.eval y) : Sem Value).run C.P w).andThen fun u w' => .ok (.value u) w' := by
        show ((do eqGuard op t x y (a.eval x) (a.eval y); Go.binOp op t (a.eval x) (a.eval y) : Sem Value) >>= fun u => pure (Next.value u)).run C.P w = _
        rw [Sem.run_bind]
        rfl
      rw [this, hu]
      rfl
    · cases h
  | unOp op t x =>
    simp only [lightA] at h
    split at h
    · rename_i p hp
      obtain ⟨u, hu, hr⟩ := un_sound (C := C) (w := w) (evalA_sound hs he hp) h
      exact done (by simp [execOp, hu]) hr
    · cases h
  | build t ps =>
    simp only [lightA] at h
    split at h
    · rename_i d vs ht hp
      obtain ⟨u, hu, hr⟩ := build_sound hC hs he ht hp h
      exact done (by simp only [execOp, Sem.run_bind]; rw [hu]; rfl) hr
    · cases h
  | buildSlice t n ps =>
    simp only [lightA] at h
    split at h
    · rename_i d vs ht hp
      obtain ⟨K', w', u, hu, h1, h2, h3, h4⟩ := buildSlice_sound hC hs he ht hp h
      exact ⟨K', w', u, by simp only [execOp, Sem.run_bind]; rw [hu]; rfl, h1, h2, h3, h4⟩
    · cases h
  | makeFunc fn first captured =>
    cases fn with
    | func f =>
      simp only [lightA] at h
      split at h
      · rename_i xs ys h1 h2
        injection h with h
        subst h
        have r1 := evalsA_sound hs he h1
        have r2 := evalsA_sound hs he h2
        have := RepV.func (f := f) (first.toList.map a.eval) (captured.toList.map a.eval) r1.1 r2.1 r1.2 r2.2
        refine done (by simp [execOp, Instr.makeFunc]; rfl) ?_
        have e1 : (List.map a.eval first.toList).toArray = Array.map a.eval first := by rw [← Array.toList_map, Array.toArray_toList]
        have e2 : (List.map a.eval captured.toList).toArray = Array.map a.eval captured := by rw [← Array.toList_map, Array.toArray_toList]
        rw [e1, e2] at this
        exact this
      · cases h
    | _ => simp [lightA] at h
  | slice t x lo hi mx =>
    simp only [lightA] at h
    split at h
    · rename_i d p ht hp
      split at h
      · cases h
      · cases h
      · cases h
      · rename_i h1 h2 h3
        have ro : ∀ (y : Option Operand), (y.map (evalA C e) = some none → False) → RepO K (y.map (evalA C e)).join (y.map a.eval) := by
          intro y hy
          cases y with
          | none => trivial
          | some y =>
            cases hv : evalA C e y with
            | none => exact (hy (by simp [hv])).elim
            | some v => simpa [RepO, hv] using evalA_sound hs he hv
        obtain ⟨u, hu, hr⟩ := slice_sound (w := w) hC ht (evalA_sound hs he hp) (ro lo h1) (ro hi h2) (ro mx h3) h
        exact done (by simp [execOp, hu]) hr
    · cases h
  | fieldAddr t x i =>
    simp only [lightA] at h
    split at h
    · rename_i d p ht hp
      obtain ⟨u, hu, hr⟩ := fieldAddr_sound (w := w) hC ht (evalA_sound hs he hp) h
      exact done (by simp [execOp, hu]) hr
    · cases h
  | field t x i =>
    simp only [lightA] at h
    split at h
    · rename_i d p ht hp
      obtain ⟨u, hu, hr⟩ := field_sound (w := w) hC ht (evalA_sound hs he hp) h
      exact done (by simp [execOp, hu]) hr
    · cases h
  | indexAddr t x i =>
    simp only [lightA] at h
    split at h
    · rename_i d p q ht hp hq
      obtain ⟨u, hu, hr⟩ := indexAddr_sound (w := w) hC ht (evalA_sound hs he hp) (evalA_sound hs he hq) h
      exact done (by simp [execOp, hu]) hr
    · cases h
  | index t x i =>
    simp only [lightA] at h
    split at h
    · rename_i d p q ht hp hq
      obtain ⟨u, hu, hr⟩ := index_sound (w := w) hC ht (evalA_sound hs he hp) (evalA_sound hs he hq) h
      exact done (by simp [execOp, hu]) hr
    · cases h
  | lookup t x i ok =>
    simp only [lightA] at h
    split at h
    · rename_i d id k ht hp hq
      obtain ⟨u, hu, hr⟩ := lookup_sound hC hs ht (evalA_sound hs he hp) (evalA_sound hs he hq) ok h
      exact done (by simp [execOp, hu]) hr
    · cases h
  | extract x i =>
    simp only [lightA] at h
    split at h
    · rename_i vs hp
      obtain ⟨us, hu, hr⟩ := (evalA_sound hs he hp).tuple_inv
      obtain ⟨y, hy, hyr⟩ := hr.get h
      exact done (u := y) (by simp [execOp, hu, Instr.extract, hy]) hyr
    · cases h
  | call c =>
    obtain ⟨callee, args, ts⟩ := c
    cases callee with
    | builtin b =>
      cases b with
      | len =>
        simp only [lightA] at h
        split at h
        · rename_i t x hts hargs
          split at h
          · rename_i d p ht hp
            obtain ⟨by', u, hty, hu, hsp⟩ := (hC.ty t d ht).i
            have hts' : ts = #[t] := Array.toList_inj.1 (by simpa using hts)
            have hargs' : args = #[x] := Array.toList_inj.1 (by simpa using hargs)
            subst hts'; subst hargs'
            have hpv := evalA_sound hs he hp
            generalize hpe : a.eval x = pv at hpv
            unfold lenA at h
            split at h
            · rename_i hsh
              rw [hsh] at hsp
              obtain ⟨el, u', rfl, hie⟩ := hsp
              injection h with h
              subst h
              cases hpv with
              | list vs hl hh ho hr hn hcap =>
                exact done (by simp [execOp, resolve, invoke, builtin, Builtin.len_, run_underlying' hty.un, hpe, goInt]) (.int _ _)
            · rename_i hsh
              rw [hsh] at hsp
              obtain ⟨el, u', rfl, hie⟩ := hsp
              injection h with h
              subst h
              cases hpv with
              | ms hb hn hcp =>
                exact done (by simp [execOp, resolve, invoke, builtin, Builtin.len_, run_underlying' hty.un, hpe, goInt]) (.int _ _)
            · rename_i hsh
              rw [hsh] at hsp
              obtain ⟨el, b, z, u', rfl, hie, _⟩ := hsp
              injection h with h
              subst h
              exact done (by simp [execOp, resolve, invoke, builtin, Builtin.len_, run_underlying' hty.un, goInt]) (.int _ _)
            · cases h
          · cases h
        · cases h
      | max =>
        simp only [lightA, Option.bind_eq_some_iff] at h
        obtain ⟨vs, hv, h⟩ := h
        have hr := evalsA_sound hs he hv
        unfold maxA at h
        split at h
        · cases h
        · obtain ⟨x, us, hx, hxr, ht⟩ := hr.uncons
          obtain rfl := hxr.int_inv
          obtain ⟨u, hu, hur⟩ := max_sound (P := C.P) (w := w) ht h
          refine done (u := u) ?_ hur
          simp only [execOp, resolve, Sem.run_bind, Sem.run_pure, Result.andThen_ok, invoke, builtin, Builtin.max_, Array.toList_map, hx]
          rw [hu]
          rfl
        · cases h
      | min =>
        simp only [lightA, Option.bind_eq_some_iff] at h
        obtain ⟨vs, hv, h⟩ := h
        have hr := evalsA_sound hs he hv
        unfold minA at h
        split at h
        · cases h
        · obtain ⟨x, us, hx, hxr, ht⟩ := hr.uncons
          obtain rfl := hxr.int_inv
          obtain ⟨u, hu, hur⟩ := min_sound (P := C.P) (w := w) ht h
          refine done (u := u) ?_ hur
          simp only [execOp, resolve, Sem.run_bind, Sem.run_pure, Result.andThen_ok, invoke, builtin, Builtin.min_, Array.toList_map, hx]
          rw [hu]
          rfl
        · cases h
      | _ => simp [lightA] at h
    | _ => simp [lightA] at h
  | _ => simp [lightA] at h
end ev
end Go.Abs
