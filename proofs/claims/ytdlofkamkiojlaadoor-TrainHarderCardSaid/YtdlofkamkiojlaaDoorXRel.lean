/- How abstract values and the abstract heap stand to the machine's memory. Conditions: none (definitions and small lemmas). -/
import Derived.Test.YtdlofkamkiojlaaDoorXAbs
import Derived.Laws.Sem
import Derived.Laws.World
set_option linter.unusedVariables false
set_option linter.unusedSimpArgs false
namespace Go.Abs
open Go Go.RowKit

/-- What is settled: the world at the start; cells that nobody writes any more; the block of each abstract object; of a slice that may be appended to in place: how many cells are laid, and how many there are. -/
structure Bas where
  w : World
  /-- blocks that are left as they are -/
  P : Nat → Bool
structure Kr where
  w0 : Bas
  G : Nat → Nat → Option Value
  β : Nat → Option Nat
  tk : Nat → Nat × Nat
  /-- maps that nobody writes any more -/
  M : Nat → Option (List MapEntry)

structure Kr.le (K K' : Kr) : Prop where
  w0 : K'.w0 = K.w0
  G : ∀ b o v, K.G b o = some v → K'.G b o = some v
  β : ∀ i b, K.β i = some b → K'.β i = some b
  tk : ∀ i b, K.β i = some b → K'.tk i = K.tk i
  M : ∀ b cs, K.M b = some cs → K'.M b = some cs
  old : ∀ b, K.w0.P b = true → (∀ o, K'.G b o = K.G b o) ∧ K'.M b = K.M b
theorem Kr.le.refl (K : Kr) : K.le K := ⟨rfl, fun _ _ _ h => h, fun _ _ h => h, fun _ _ _ => rfl, fun _ _ h => h, fun _ _ => ⟨fun _ => rfl, rfl⟩⟩
theorem Kr.le.trans {A B C : Kr} (h : A.le B) (k : B.le C) : A.le C :=
  ⟨k.w0.trans h.w0, fun b o v x => k.G _ _ _ (h.G _ _ _ x), fun i b x => k.β _ _ (h.β _ _ x), fun i b x => (k.tk _ _ (h.β _ _ x)).trans (h.tk _ _ x), fun b cs x => k.M _ _ (h.M _ _ x), fun b hb =>
    let ⟨p, q⟩ := k.old b (by rw [h.w0]; exact hb)
    let ⟨r, s⟩ := h.old b hb
    ⟨fun o => (p o).trans (r o), q.trans s⟩⟩

def Here (K : Kr) (b o : Nat) (vs : List Value) : Prop := ∀ j v, vs[j]? = some v → K.G b (o + j) = some v
theorem Here.mono {K K' : Kr} (h : K.le K') {b o vs} (x : Here K b o vs) : Here K' b o vs := fun j v hj => h.G _ _ _ (x j v hj)

def CapOk (K : Kr) (A : Option Addr) (n len cap : Nat) : Cap → Prop
  | .full => cap = n
  | .unk => True
  | .tok id => ∃ b sz, A = some ⟨b, 0, none⟩ ∧ K.β id = some b ∧ 0 < sz ∧ len = n * sz ∧ K.tk id = (n * sz, cap * sz)
theorem CapOk.mono {K K' : Kr} (h : K.le K') {A n len cap c} (x : CapOk K A n len cap c) : CapOk K' A n len cap c := by
  cases c with
  | full => exact x
  | unk => exact x
  | tok id => obtain ⟨b, sz, h1, h2, h3, h4, h5⟩ := x; exact ⟨b, sz, h1, h.β _ _ h2, h3, h4, (h.tk _ _ h2).trans h5⟩

inductive RepV (K : Kr) : AV → Value → Prop where
  | bool (b : Bool) : RepV K (.bool b) (.bool b)
  | int (k : IntKind) (n : Int) : RepV K (.int k n) (.int k n)
  | ptr {id off b : Nat} : K.β id = some b → RepV K (.ptr id off) (.pointer (some ⟨b, off, none⟩))
  | ro {cells : List AV} {b o : Nat} (vs : List Value) : vs.length = cells.length → Here K b o vs → (∀ a ∈ cells, a.one = true) →
      (∀ (j : Nat) a v, cells[j]? = some a → vs[j]? = some v → RepV K a v) → RepV K (.ro cells) (.pointer (some ⟨b, o, none⟩))
  | list {n cap : Nat} {cells : List AV} {c : Cap} {A : Option Addr} (vs : List Value) : vs.length = cells.length →
      (cells = [] ∨ ∃ b o, A = some ⟨b, o, none⟩ ∧ Here K b o vs) → (∀ a ∈ cells, a.one = true) →
      (∀ (j : Nat) a v, cells[j]? = some a → vs[j]? = some v → RepV K a v) → n ≤ cap → CapOk K A n cells.length cap c → RepV K (.list n cells c) (.slice A n cap)
  | ms {id off n cap b : Nat} {c : Option Nat} : K.β id = some b → n ≤ cap → (∀ k, c = some k → cap = k) → RepV K (.ms id off n c) (.slice (some ⟨b, off, none⟩) n cap)
  | map {id b : Nat} : K.β id = some b → RepV K (.map id) (.map (some b))
  | nilmap : RepV K .nilmap (.map none)
  | romap {es : List (AV × AV)} {b : Nat} (cs : List MapEntry) : K.M b = some cs → cs.length = es.length →
      (∀ (j : Nat) p c, es[j]? = some p → cs[j]? = some c → RepV K p.1 c.key) → (∀ (j : Nat) p c, es[j]? = some p → cs[j]? = some c → RepV K p.2 c.val) → RepV K (.romap es) (.map (some b))
  | romap0 : RepV K (.romap []) (.map none)
  | func {f : FuncId} {first captured : List AV} (xs ys : List Value) : xs.length = first.length → ys.length = captured.length →
      (∀ (j : Nat) a v, first[j]? = some a → xs[j]? = some v → RepV K a v) → (∀ (j : Nat) a v, captured[j]? = some a → ys[j]? = some v → RepV K a v) →
      RepV K (.func f first captured) (.func (.func f) xs.toArray ys.toArray)
  | yieldf {id b : Nat} : K.β id = some b → RepV K (.yieldf id) (.func (.yield b) #[] #[])
  | nilFunc : RepV K .nilFunc .nilFunc
  | agg {cells : List AV} (vs : List Value) : vs.length = cells.length → (∀ a ∈ cells, a.one = true) →
      (∀ (j : Nat) a v, cells[j]? = some a → vs[j]? = some v → RepV K a v) → RepV K (.agg cells) (.agg vs.toArray)
  | tuple {as : List AV} (vs : List Value) : vs.length = as.length →
      (∀ (j : Nat) a v, as[j]? = some a → vs[j]? = some v → RepV K a v) → RepV K (.tuple as) (.tuple vs.toArray)

theorem RepV.mono {K K' : Kr} (h : K.le K') {a : AV} {v : Value} (x : RepV K a v) : RepV K' a v := by
  induction x with
  | bool b => exact .bool b
  | int k n => exact .int k n
  | ptr hb => exact .ptr (h.β _ _ hb)
  | ro vs hl hh ho _ ih => exact .ro vs hl (hh.mono h) ho ih
  | list vs hl hh ho _ hn hc ih => exact .list vs hl (hh.imp id fun ⟨b, o, e, x⟩ => ⟨b, o, e, x.mono h⟩) ho ih hn (hc.mono h)
  | ms hb hn hc => exact .ms (h.β _ _ hb) hn hc
  | map hb => exact .map (h.β _ _ hb)
  | nilmap => exact .nilmap
  | romap cs hb hl _ _ i1 i2 => exact .romap cs (h.M _ _ hb) hl i1 i2
  | romap0 => exact .romap0
  | func xs ys h1 h2 _ _ i1 i2 => exact .func xs ys h1 h2 i1 i2
  | yieldf hb => exact .yieldf (h.β _ _ hb)
  | nilFunc => exact .nilFunc
  | agg vs hl ho _ ih => exact .agg vs hl ho ih
  | tuple vs hl _ ih => exact .tuple vs hl ih

theorem RepV.one {K : Kr} {a : AV} {v : Value} (x : RepV K a v) : v.oneCell' = a.one := by
  cases x <;> rfl

/-- Two lists, element by element. -/
def RepL (K : Kr) (as : List AV) (vs : List Value) : Prop := vs.length = as.length ∧ ∀ (j : Nat) a v, as[j]? = some a → vs[j]? = some v → RepV K a v
theorem RepL.nil (K : Kr) : RepL K [] [] := ⟨rfl, fun j a v h => by simp at h⟩
theorem RepL.cons {K : Kr} {a : AV} {v : Value} {as vs} (h : RepV K a v) (t : RepL K as vs) : RepL K (a :: as) (v :: vs) := by
  refine ⟨by simp [t.1], fun j b u hb hu => ?_⟩
  cases j with
  | zero => simp at hb hu; subst hb; subst hu; exact h
  | succ j => exact t.2 j b u (by simpa using hb) (by simpa using hu)
theorem RepL.uncons {K : Kr} {a : AV} {as : List AV} {vs} (h : RepL K (a :: as) vs) : ∃ v us, vs = v :: us ∧ RepV K a v ∧ RepL K as us := by
  cases vs with
  | nil => have := h.1; simp at this
  | cons v us => exact ⟨v, us, rfl, h.2 0 a v rfl rfl, by have := h.1; simpa using this, fun j b u hb hu => h.2 (j + 1) b u (by simpa using hb) (by simpa using hu)⟩
theorem RepL.of_nil {K : Kr} {vs} (h : RepL K [] vs) : vs = [] := by have := h.1; simpa using this
theorem RepL.mono {K K' : Kr} (h : K.le K') {as vs} (x : RepL K as vs) : RepL K' as vs := ⟨x.1, fun j a v ha hv => (x.2 j a v ha hv).mono h⟩
theorem RepL.append {K : Kr} {as bs vs us} (h : RepL K as vs) (k : RepL K bs us) : RepL K (as ++ bs) (vs ++ us) := by
  refine ⟨by simp [h.1, k.1], fun j a v ha hv => ?_⟩
  by_cases hj : j < as.length
  · rw [List.getElem?_append_left hj] at ha
    rw [List.getElem?_append_left (by rw [h.1]; exact hj)] at hv
    exact h.2 j a v ha hv
  · rw [List.getElem?_append_right (by omega)] at ha
    rw [List.getElem?_append_right (by rw [h.1]; omega), h.1] at hv
    exact k.2 _ a v ha hv
theorem RepL.take {K : Kr} {as vs} (h : RepL K as vs) (n : Nat) : RepL K (as.take n) (vs.take n) := by
  refine ⟨by simp [h.1], fun j a v ha hv => ?_⟩
  rw [List.getElem?_take] at ha hv
  split at ha
  · rename_i hj; rw [if_pos hj] at hv; exact h.2 j a v ha hv
  · simp at ha
theorem RepL.drop {K : Kr} {as vs} (h : RepL K as vs) (n : Nat) : RepL K (as.drop n) (vs.drop n) := by
  refine ⟨by simp [h.1], fun j a v ha hv => ?_⟩
  rw [List.getElem?_drop] at ha hv
  exact h.2 _ a v ha hv
theorem RepL.get {K : Kr} {as vs} (h : RepL K as vs) {j : Nat} {a : AV} (ha : as[j]? = some a) : ∃ v, vs[j]? = some v ∧ RepV K a v := by
  have hj : j < as.length := (List.getElem?_eq_some_iff.1 ha).1
  have hv : vs[j]? = some (vs[j]'(by rw [h.1]; exact hj)) := List.getElem?_eq_getElem _
  exact ⟨_, hv, h.2 j a _ ha hv⟩
theorem RepL.replicate {K : Kr} {a v} (h : RepV K a v) (n : Nat) : RepL K (List.replicate n a) (List.replicate n v) := by
  induction n with
  | zero => exact .nil K
  | succ n ih => rw [List.replicate_succ, List.replicate_succ]; exact .cons h ih
theorem RepL.flatten {K : Kr} {as vs} (h : RepL K as vs) (n : Nat) : RepL K (List.replicate n as).flatten (List.replicate n vs).flatten := by
  induction n with
  | zero => simpa using RepL.nil K
  | succ n ih => rw [List.replicate_succ, List.replicate_succ, List.flatten_cons, List.flatten_cons]; exact h.append ih

/-- One knows all that the other knows of values. -/
structure Kr.sb (K K' : Kr) : Prop where
  G : ∀ b o v, K.G b o = some v → K'.G b o = some v
  β : ∀ i b, K.β i = some b → K'.β i = some b
  tk : ∀ i b, K.β i = some b → K'.tk i = K.tk i
  M : ∀ b cs, K.M b = some cs → K'.M b = some cs
theorem RepV.sb {K K' : Kr} (h : K.sb K') {a : AV} {v : Value} (x : RepV K a v) : RepV K' a v := by
  have here : ∀ {b o vs}, Here K b o vs → Here K' b o vs := fun x j v hj => h.G _ _ _ (x j v hj)
  induction x with
  | bool b => exact .bool b
  | int k n => exact .int k n
  | ptr hb => exact .ptr (h.β _ _ hb)
  | ro vs hl hh ho _ ih => exact .ro vs hl (here hh) ho ih
  | @list n cap cells c A vs hl hh ho _ hn hc ih =>
    refine .list vs hl (hh.imp id fun ⟨b, o, e, x⟩ => ⟨b, o, e, here x⟩) ho ih hn ?_
    cases c with
    | full => exact hc
    | unk => exact hc
    | tok id => obtain ⟨b, sz, h1, h2, h3, h4, h5⟩ := hc; exact ⟨b, sz, h1, h.β _ _ h2, h3, h4, (h.tk _ _ h2).trans h5⟩
  | ms hb hn hc => exact .ms (h.β _ _ hb) hn hc
  | map hb => exact .map (h.β _ _ hb)
  | nilmap => exact .nilmap
  | romap cs hb hl _ _ i1 i2 => exact .romap cs (h.M _ _ hb) hl i1 i2
  | romap0 => exact .romap0
  | func xs ys h1 h2 _ _ i1 i2 => exact .func xs ys h1 h2 i1 i2
  | yieldf hb => exact .yieldf (h.β _ _ hb)
  | nilFunc => exact .nilFunc
  | agg vs hl ho _ ih => exact .agg vs hl ho ih
  | tuple vs hl _ ih => exact .tuple vs hl ih
theorem Wk.one {a a' : AV} (h : Wk a a') : a'.one = a.one := by cases h <;> rfl
theorem Wk.rep {K : Kr} {a a' : AV} (h : Wk a a') : ∀ {v : Value}, RepV K a v → RepV K a' v := by
  have ones : ∀ {cs cs' : List AV}, cs'.length = cs.length → (∀ (j : Nat) a a', cs[j]? = some a → cs'[j]? = some a' → Wk a a') → (∀ a ∈ cs, a.one = true) → ∀ a ∈ cs', a.one = true := by
    intro cs cs' hl hf ho a ha
    obtain ⟨j, hj⟩ := List.mem_iff_getElem?.1 ha
    have hlt := (List.getElem?_eq_some_iff.1 hj).1
    have hc : cs[j]? = some (cs[j]'(by omega)) := List.getElem?_eq_getElem _
    rw [(hf j _ _ hc hj).one]
    exact ho _ (List.getElem_mem _)
  have sub : ∀ {cs cs' : List AV} (hl : cs'.length = cs.length) (ih : ∀ (j : Nat) a a', cs[j]? = some a → cs'[j]? = some a' → ∀ {v : Value}, RepV K a v → RepV K a' v) {vs : List Value}
      (hp : ∀ (j : Nat) a v, cs[j]? = some a → vs[j]? = some v → RepV K a v), ∀ (j : Nat) a v, cs'[j]? = some a → vs[j]? = some v → RepV K a v := by
    intro cs cs' hl ih vs hp j a v ha hv
    have hlt := (List.getElem?_eq_some_iff.1 ha).1
    have hc : cs[j]? = some (cs[j]'(by omega)) := List.getElem?_eq_getElem _
    exact ih j _ _ hc ha (hp j _ v hc hv)
  induction h with
  | refl => intro v hv; exact hv
  | @list n cs cs' c c' hl hf hc ih =>
    intro v hv
    cases hv with
    | list vs hvl hh ho hp hn hcap =>
      refine .list vs (by omega) ?_ (ones hl hf ho) (sub hl ih hp) hn ?_
      · rcases hh with hh | hh
        · exact .inl (by rw [hh] at hl; simpa using hl)
        · exact .inr hh
      · rcases hc with rfl | rfl
        · rw [hl]; exact hcap
        · trivial
  | agg hl hf ih => intro v hv; cases hv with | agg vs hvl ho hp => exact .agg vs (by omega) (ones hl hf ho) (sub hl ih hp)
  | ro hl hf ih => intro v hv; cases hv with | ro vs hvl hh ho hp => exact .ro vs (by omega) hh (ones hl hf ho) (sub hl ih hp)
  | nilmap => intro v hv; cases hv with | nilmap => exact .romap0
theorem WkL.rep {K : Kr} {as as' : List AV} (h : WkL as as') : ∀ {vs : List Value}, RepL K as vs → RepL K as' vs := by
  induction h with
  | nil => intro vs hv; exact hv
  | cons h _ ih =>
    intro vs hv
    obtain ⟨v, us, rfl, h1, h2⟩ := hv.uncons
    exact .cons (h.rep h1) (ih h2)
theorem RepV.agg_inv {K : Kr} {cells v} (h : RepV K (.agg cells) v) : ∃ vs : List Value, v = .agg vs.toArray ∧ RepL K cells vs ∧ ∀ a ∈ cells, a.one = true := by
  cases h with
  | agg vs hl ho hp => exact ⟨vs, rfl, ⟨hl, hp⟩, ho⟩
theorem RepV.tuple_inv {K : Kr} {as v} (h : RepV K (.tuple as) v) : ∃ vs : List Value, v = .tuple vs.toArray ∧ RepL K as vs := by
  cases h with
  | tuple vs hl hp => exact ⟨vs, rfl, hl, hp⟩
/-- The cells of a value, on both sides. -/
theorem RepV.cells {K : Kr} {a v} (h : RepV K a v) : RepL K a.cells v.cells.toList := by
  cases h with
  | agg vs hl ho hp => exact ⟨by simpa [AV.cells, Value.cells] using hl, by simpa [AV.cells, Value.cells] using hp⟩
  | bool b => exact .cons (.bool b) (.nil K)
  | int k n => exact .cons (.int k n) (.nil K)
  | ptr hb => exact .cons (.ptr hb) (.nil K)
  | ro vs hl hh ho hp => exact .cons (.ro vs hl hh ho hp) (.nil K)
  | list vs hl hh ho hp hn hc => exact .cons (.list vs hl hh ho hp hn hc) (.nil K)
  | ms hb hn hc => exact .cons (.ms hb hn hc) (.nil K)
  | map hb => exact .cons (.map hb) (.nil K)
  | nilmap => exact .cons .nilmap (.nil K)
  | romap cs hb hl i1 i2 => exact .cons (.romap cs hb hl i1 i2) (.nil K)
  | romap0 => exact .cons .romap0 (.nil K)
  | func xs ys h1 h2 p1 p2 => exact .cons (.func xs ys h1 h2 p1 p2) (.nil K)
  | yieldf hb => exact .cons (.yieldf hb) (.nil K)
  | nilFunc => exact .cons .nilFunc (.nil K)
  | tuple vs hl hp => exact .cons (.tuple vs hl hp) (.nil K)
theorem RepV.undef (K : Kr) : RepV K (.tuple []) Go.undef := .tuple [] rfl (fun j a v h => by simp at h)

/-- The temporaries. -/
def RepE (K : Kr) (N : Nat) (e : Env) (tmps : Array Value) : Prop := tmps.size = N ∧ ∀ i a, e i = some a → ∃ v, tmps[i]? = some v ∧ RepV K a v
theorem RepE.mono {K K' : Kr} (h : K.le K') {N e tmps} (x : RepE K N e tmps) : RepE K' N e tmps :=
  ⟨x.1, fun i a ha => let ⟨v, hv, hr⟩ := x.2 i a ha; ⟨v, hv, hr.mono h⟩⟩
theorem RepE.weaken {K : Kr} {N e e' tmps} (x : RepE K N e tmps) (h : Env.le e' e) : RepE K N e' tmps := ⟨x.1, fun i a ha => x.2 i a (h i a ha)⟩
theorem RepE.set {K : Kr} {N e tmps} (x : RepE K N e tmps) {i : Nat} (hi : i < N) {a v} (h : RepV K a v) : RepE K N (e.set i a) (tmps.setIfInBounds i v) := by
  refine ⟨by simpa using x.1, fun j b hb => ?_⟩
  unfold Env.set at hb
  by_cases hj : j = i
  · rw [if_pos hj] at hb
    injection hb with hb
    subst hb; subst hj
    exact ⟨v, by rw [Array.getElem?_setIfInBounds_self_of_lt (by rw [x.1]; exact hi)], h⟩
  · rw [if_neg hj] at hb
    obtain ⟨u, hu, hr⟩ := x.2 j b hb
    exact ⟨u, by rw [Array.getElem?_setIfInBounds_ne (Ne.symm hj)]; exact hu, hr⟩
theorem RepE.put {K : Kr} {N e} {a : Act} (x : RepE K N e a.tmps) {dst} (hd : dstOk N dst = true) {u v} (h : RepV K u v) : RepE K N (e.put dst u) (a.put dst v).tmps := by
  cases dst with
  | none => exact x
  | some d => exact x.set (by simpa [dstOk] using hd) h

/-- What an abstract object says of its block. -/
def ObjOk (K : Kr) (id : Nat) (o : AObj) (b : Nat) (w : World) : Prop :=
  match o with
  | .cells cs => ∃ (vs us : List Value) (e : TypeId), w.heap[b]? = some (.cells (vs ++ us).toArray e (0, 0)) ∧ RepL K cs vs ∧ (∀ a ∈ cs, a.one = true) ∧ ∀ o, K.G b o = none
  | .map es => ∃ (cs : List MapEntry) (clk : Nat), w.heap[b]? = some (.map cs.toArray clk) ∧ cs.length = es.length ∧
      (∀ (j : Nat) p c, es[j]? = some p → cs[j]? = some c → RepV K p.1 c.key ∧ RepV K p.2 c.val) ∧ (∀ o, K.G b o = none) ∧ K.M b = none
  | .own => ∃ (vs : List Value) (e : TypeId) (lo hi : Nat), w.heap[b]? = some (.cells vs.toArray e (0, 0)) ∧ K.β id = some b ∧ K.tk id = (lo, hi) ∧ vs.length = hi ∧ lo ≤ hi ∧ ∀ o, lo ≤ o → K.G b o = none
  | .loop r => ∃ l : Loop, w.heap[b]? = some (.loop l) ∧ l.state = r.st ∧ l.pending = r.pend.code ∧ RepE K r.N r.tmps l.tmps ∧ l.params.toList = r.params ∧ l.assign = r.assign ∧ l.body = r.body ∧ ∀ o, K.G b o = none
  | .gone => True

theorem ObjOk.mono {K K' : Kr} {id o b w w'} (x : ObjOk K id o b w) (h : K.le K') (hw : w'.heap[b]? = w.heap[b]?) (hG : ∀ o, K'.G b o = K.G b o) (hM : K'.M b = K.M b) : ObjOk K' id o b w' := by
  cases o with
  | cells cs => obtain ⟨vs, us, e, h1, h2, h3, h4⟩ := x; exact ⟨vs, us, e, hw.trans h1, h2.mono h, h3, fun o => (hG o).trans (h4 o)⟩
  | map es =>
    obtain ⟨cs, clk, h1, h2, h3, h4⟩ := x
    exact ⟨cs, clk, hw.trans h1, h2, fun j p c hp hc => ⟨((h3 j p c hp hc).1).mono h, ((h3 j p c hp hc).2).mono h⟩, fun o => (hG o).trans (h4.1 o), hM.trans h4.2⟩
  | own => obtain ⟨vs, e, lo, hi, h1, h0, h2, h3, h4, h5⟩ := x; exact ⟨vs, e, lo, hi, hw.trans h1, h.β _ _ h0, (h.tk _ _ h0).trans h2, h3, h4, fun o ho => (hG o).trans (h5 o ho)⟩
  | loop r => obtain ⟨l, h1, h2, h3, h4, h5, h6, h7, h8⟩ := x; exact ⟨l, hw.trans h1, h2, h3, h4.mono h, h5, h6, h7, fun o => (hG o).trans (h8 o)⟩
  | gone => trivial

theorem ObjOk.sb {K K' : Kr} {id id' o b w} (x : ObjOk K id o b w) (h : K.sb K') (hG : ∀ o, K'.G b o = K.G b o) (hM : K'.M b = K.M b) (hid : o = .own → K'.β id' = K.β id ∧ K'.tk id' = K.tk id) : ObjOk K' id' o b w := by
  cases o with
  | cells cs => obtain ⟨vs, us, e, h1, h2, h3, h4⟩ := x; exact ⟨vs, us, e, h1, ⟨h2.1, fun j a v ha hv => (h2.2 j a v ha hv).sb h⟩, h3, fun o => (hG o).trans (h4 o)⟩
  | map es =>
    obtain ⟨cs, clk, h1, h2, h3, h4⟩ := x
    exact ⟨cs, clk, h1, h2, fun j p c hp hc => ⟨((h3 j p c hp hc).1).sb h, ((h3 j p c hp hc).2).sb h⟩, fun o => (hG o).trans (h4.1 o), hM.trans h4.2⟩
  | own => obtain ⟨vs, e, lo, hi, h1, h0, h2, h3, h4, h5⟩ := x; exact ⟨vs, e, lo, hi, h1, (hid rfl).1.trans h0, (hid rfl).2.trans h2, h3, h4, fun o ho => (hG o).trans (h5 o ho)⟩
  | loop r => obtain ⟨l, h1, h2, h3, h4, h5, h6, h7, h8⟩ := x; exact ⟨l, h1, h2, h3, ⟨h4.1, fun i a ha => let ⟨v, hv, hr⟩ := h4.2 i a ha; ⟨v, hv, hr.sb h⟩⟩, h5, h6, h7, fun o => (hG o).trans (h8 o)⟩
  | gone => trivial

def AObj.live : AObj → Bool
  | .gone => false
  | _ => true

/-- The blocks of a set are as they were. -/
structure BelowP (P : Nat → Bool) (w w' : World) : Prop where
  os : w'.os = w.os
  tape : w'.tape = w.tape
  output : w'.output = w.output
  size : w.heap.size ≤ w'.heap.size
  block : ∀ k, P k = true → w'.heap[k]? = w.heap[k]?
  lt : ∀ k, P k = true → k < w.heap.size
theorem BelowP.trans {P : Nat → Bool} {a b c : World} (h : BelowP P a b) (k : BelowP P b c) : BelowP P a c :=
  ⟨k.os.trans h.os, k.tape.trans h.tape, k.output.trans h.output, Nat.le_trans h.size k.size, fun i hi => (k.block i hi).trans (h.block i hi), h.lt⟩
theorem BelowP.alloc {P : Nat → Bool} {a w : World} (h : BelowP P a w) (o : Obj) : BelowP P a (w.alloc o) :=
  h.trans ⟨rfl, rfl, rfl, by simp, fun k hk => Below.heap_alloc _ _ _ (by have := h.lt k hk; have := h.size; omega), fun k hk => by have := h.lt k hk; have := h.size; omega⟩
theorem BelowP.new {P : Nat → Bool} {a w : World} (h : BelowP P a w) : P w.heap.size = false := by
  cases hp : P w.heap.size with
  | false => rfl
  | true => have := h.lt _ hp; have := h.size; omega
theorem BelowP.ne {P : Nat → Bool} {a w : World} (h : BelowP P a w) {k : Nat} (hk : P k = true) : k ≠ w.heap.size := fun e => by rw [e, h.new] at hk; cases hk
structure Sat (C : Ctx) (K : Kr) (H : AH) (D : List Nat) (w : World) : Prop where
  base : BelowP K.w0.P K.w0.w w
  g : ∀ b o v, K.G b o = some v → w.cell? ⟨b, o, none⟩ = some v
  obj : ∀ id b, K.β id = some b → K.w0.P b = false ∧ b < w.heap.size ∧ id < H.n ∧ ObjOk K id (H.g id) b w
  inj : ∀ i j b, K.β i = some b → K.β j = some b → (H.g i).live = true → (H.g j).live = true → i = j
  defs : ∀ b ∈ D, K.w0.P b = false ∧ w.heap[b]? = some (.deferred (some []))
  nodup : D.Nodup
  glob : ∀ g cs, C.glob g = some cs → RepV K (.ro cs) (.pointer (some ⟨g, 0, none⟩))
  m : ∀ b cs, K.M b = some cs → ∃ clk, w.heap[b]? = some (.map cs.toArray clk)

/-- Objects without a block are as they were. -/
def Frz (K : Kr) (H : AH) (K' : Kr) (H' : AH) : Prop := H.n ≤ H'.n ∧ ∀ i, i < H.n → K.β i = none → K'.β i = none ∧ H'.g i = H.g i
theorem Frz.refl (K : Kr) (H : AH) : Frz K H K H := ⟨Nat.le_refl _, fun _ _ h => ⟨h, rfl⟩⟩
theorem Frz.trans {K1 H1 K2 H2 K3 H3} (h : Frz K1 H1 K2 H2) (k : Frz K2 H2 K3 H3) : Frz K1 H1 K3 H3 :=
  ⟨Nat.le_trans h.1 k.1, fun i hi hb => by
    obtain ⟨h1, h2⟩ := h.2 i hi hb
    obtain ⟨k1, k2⟩ := k.2 i (Nat.lt_of_lt_of_le hi h.1) h1
    exact ⟨k1, k2.trans h2⟩⟩

/-! ### Worlds -/
theorem heap_alloc_at (w : World) (o : Obj) (k : Nat) : (w.alloc o).heap[k]? = if k = w.heap.size then some o else w.heap[k]? := by
  show (w.heap.push o)[k]? = _
  rw [Array.getElem?_push]
theorem cell_of {w : World} {b o : Nat} {cs : Array Value} {e : TypeId} {f : Nat × Nat} (h : w.heap[b]? = some (.cells cs e f)) : w.cell? ⟨b, o, none⟩ = cs[o]? := by
  simp [World.cell?, h]
theorem cell_some {w : World} {b o : Nat} {v : Value} (h : w.cell? ⟨b, o, none⟩ = some v) : ∃ cs e f, w.heap[b]? = some (.cells cs e f) ∧ cs[o]? = some v := by
  unfold World.cell? at h
  dsimp only at h
  split at h
  · rename_i c e f hh
    exact ⟨c, e, f, hh, by simpa using h⟩
  · simp at h
theorem heap_setCell_at (w : World) (b o : Nat) (v : Value) {cs : Array Value} {e : TypeId} {f : Nat × Nat} (h : w.heap[b]? = some (.cells cs e f)) :
    (w.setCell ⟨b, o, none⟩ v).heap[b]? = some (.cells (cs.setIfInBounds o v) e f) := by
  simp only [World.setCell, Array.getElem?_modify, if_pos, h]
  simp
theorem size_setCell (w : World) (a : Addr) (v : Value) : (w.setCell a v).heap.size = w.heap.size := by simp [World.setCell]
theorem lt_of_heap {w : World} {b : Nat} {o : Obj} (h : w.heap[b]? = some o) : b < w.heap.size := (Array.getElem?_eq_some_iff.1 h).1

/-- The heap with one block turned. -/
def World.putObj' (w : World) (b : Nat) (o : Obj) : World := { w with heap := w.heap.setIfInBounds b o }
theorem heap_put_at (w : World) (b : Nat) (o : Obj) (k : Nat) (hb : b < w.heap.size) : (World.putObj' w b o).heap[k]? = if k = b then some o else w.heap[k]? := by
  simp only [World.putObj', Array.getElem?_setIfInBounds]
  by_cases h : k = b
  · subst h; simp [hb]
  · rw [if_neg (fun e => h e.symm), if_neg h]

section sat
variable {C : Ctx} {K K' : Kr} {H H' : AH} {D : List Nat} {w w' : World}

/-- A draw. -/
theorem Sat.drew (h : Sat C K H D w) : Sat C K H D { w with drawn := w.drawn + 1 } :=
  ⟨⟨h.base.os, h.base.tape, h.base.output, h.base.size, h.base.block, h.base.lt⟩, h.g, fun id b hb => let ⟨a, b', c, d⟩ := h.obj id b hb; ⟨a, b', c, d.mono (.refl K) rfl (fun _ => rfl) rfl⟩, h.inj, h.defs, h.nodup, h.glob, h.m⟩

/-- A new block that no one knows of yet, or that holds settled cells. -/
theorem Sat.fresh (h : Sat C K H D w) (o : Obj) (hle : K.le K') (hβ : K'.β = K.β) (hG : ∀ b o, b ≠ w.heap.size → K'.G b o = K.G b o)
    (hnew : ∀ o' v, K'.G w.heap.size o' = some v → (w.alloc o).cell? ⟨w.heap.size, o', none⟩ = some v) (hM : K'.M = K.M := by rfl) : Sat C K' H D (w.alloc o) := by
  have hw0 := hle.w0
  refine ⟨?_, ?_, ?_, ?_, ?_, h.nodup, fun g cs hg => (h.glob g cs hg).mono hle, fun b cs hb => ?_⟩
  rotate_right
  · obtain ⟨clk, hm⟩ := h.m b cs (by rw [← hM]; exact hb)
    exact ⟨clk, by rw [heap_alloc_at, if_neg (by have := lt_of_heap hm; omega)]; exact hm⟩
  · rw [hw0]; exact h.base.alloc o
  · intro b o' v hv
    by_cases hb : b = w.heap.size
    · subst hb; exact hnew o' v hv
    · have h1 := h.g b o' v ((hG b o' hb).symm.trans hv)
      obtain ⟨cs, e, f, h2, h3⟩ := cell_some h1
      rw [cell_of (show (w.alloc o).heap[b]? = _ by rw [heap_alloc_at, if_neg hb]; exact h2)]
      exact h3
  · intro id b hb
    rw [hβ] at hb
    obtain ⟨h1, h2, h3, h4⟩ := h.obj id b hb
    refine ⟨by rw [hw0]; exact h1, by simp; omega, h3, h4.mono hle ?_ (fun o => hG b o (by omega)) (by rw [hM])⟩
    rw [heap_alloc_at, if_neg (by omega)]
  · intro i j b hi hj li lj
    rw [hβ] at hi hj
    exact h.inj i j b hi hj li lj
  · intro b hb
    obtain ⟨h1, h2⟩ := h.defs b hb
    exact ⟨by rw [hw0]; exact h1, by rw [heap_alloc_at, if_neg (by have := lt_of_heap h2; omega)]; exact h2⟩

/-- A new block for an abstract object. -/
theorem Sat.make (h : Sat C K H D w) (o : Obj) {id : Nat} {ob : AObj} (hid : K.β id = none) (hn : H.n ≤ H'.n) (hlt : id < H'.n) (hg : H'.g id = ob) (hsame : ∀ i b, K.β i = some b → H'.g i = H.g i ∨ H'.g i = .gone)
    (hle : K.le K') (hβ : ∀ i, K'.β i = if i = id then some w.heap.size else K.β i) (hG : ∀ b o, b ≠ w.heap.size → K'.G b o = K.G b o)
    (hnew : ∀ o' v, K'.G w.heap.size o' = some v → (w.alloc o).cell? ⟨w.heap.size, o', none⟩ = some v)
    (hob : ObjOk K' id ob w.heap.size (w.alloc o)) (hM : K'.M = K.M := by rfl) : Sat C K' H' D (w.alloc o) := by
  have hw0 := hle.w0
  refine ⟨?_, ?_, ?_, ?_, ?_, h.nodup, fun g cs hg => (h.glob g cs hg).mono hle, fun b cs hb => ?_⟩
  rotate_right
  · obtain ⟨clk, hm⟩ := h.m b cs (by rw [← hM]; exact hb)
    exact ⟨clk, by rw [heap_alloc_at, if_neg (by have := lt_of_heap hm; omega)]; exact hm⟩
  · rw [hw0]; exact h.base.alloc o
  · intro b o' v hv
    by_cases hb : b = w.heap.size
    · subst hb; exact hnew o' v hv
    · have h1 := h.g b o' v ((hG b o' hb).symm.trans hv)
      obtain ⟨cs, e, f, h2, h3⟩ := cell_some h1
      rw [cell_of (show (w.alloc o).heap[b]? = _ by rw [heap_alloc_at, if_neg hb]; exact h2)]
      exact h3
  · intro i b hb
    rw [hβ] at hb
    by_cases hi : i = id
    · rw [if_pos hi] at hb
      injection hb with hb
      subst hi; subst hb
      exact ⟨by rw [hw0]; exact h.base.new, by simp, hlt, by rw [hg]; exact hob⟩
    · rw [if_neg hi] at hb
      obtain ⟨h1, h2, h3, h4⟩ := h.obj i b hb
      refine ⟨by rw [hw0]; exact h1, by simp; omega, by omega, ?_⟩
      rcases hsame i b hb with hs | hs
      · rw [hs]
        refine h4.mono hle ?_ (fun o => hG b o (by omega)) (by rw [hM])
        rw [heap_alloc_at, if_neg (by omega)]
      · rw [hs]; trivial
  · intro i j b hi hj li lj
    rw [hβ] at hi hj
    by_cases h1 : i = id
    · by_cases h2 : j = id
      · rw [h1, h2]
      · rw [if_pos h1] at hi; rw [if_neg h2] at hj
        injection hi with hi
        have := (h.obj j b hj).2.1
        omega
    · by_cases h2 : j = id
      · rw [if_neg h1] at hi; rw [if_pos h2] at hj
        injection hj with hj
        have := (h.obj i b hi).2.1
        omega
      · rw [if_neg h1] at hi; rw [if_neg h2] at hj
        refine h.inj i j b hi hj ?_ ?_
        · rcases hsame i b hi with hs | hs
          · rw [hs] at li; exact li
          · rw [hs] at li; cases li
        · rcases hsame j b hj with hs | hs
          · rw [hs] at lj; exact lj
          · rw [hs] at lj; cases lj
  · intro b hb
    obtain ⟨h1, h2⟩ := h.defs b hb
    exact ⟨by rw [hw0]; exact h1, by rw [heap_alloc_at, if_neg (by have := lt_of_heap h2; omega)]; exact h2⟩

theorem Sat.M_none (h : Sat C K H D w) {b : Nat} {o : Obj} (hb : w.heap[b]? = some o) (ho : ∀ cs clk, o ≠ .map cs clk) : K.M b = none := by
  cases hm : K.M b with
  | none => rfl
  | some cs =>
    obtain ⟨clk, h1⟩ := h.m b cs hm
    rw [hb] at h1
    injection h1 with h1
    exact absurd h1 (ho _ _)
theorem Sat.M_new (h : Sat C K H D w) : K.M w.heap.size = none := by
  cases hm : K.M w.heap.size with
  | none => rfl
  | some cs =>
    obtain ⟨clk, h1⟩ := h.m _ cs hm
    exact absurd (lt_of_heap h1) (Nat.lt_irrefl _)

/-- A block of a living object turned. -/
theorem Sat.write (h : Sat C K H D w) {id b : Nat} {ob : AObj} (hid : K.β id = some b) (hl : (H.g id).live = true)
    (hw : BelowP K.w0.P w w') (hsz : w'.heap.size = w.heap.size) (hother : ∀ k, k ≠ b → w'.heap[k]? = w.heap[k]?) (hGb : ∀ o, K.G b o = none) (hMb : K.M b = none)
    (hob : ObjOk K id ob b w') (hnd : ∀ d, w.heap[b]? ≠ some (.deferred d)) : Sat C K (H.set id ob) D w' := by
  refine ⟨h.base.trans hw, ?_, ?_, ?_, ?_, h.nodup, h.glob, fun b' cs hb' => ?_⟩
  rotate_right
  · obtain ⟨clk, hm⟩ := h.m b' cs hb'
    exact ⟨clk, by rw [hother b' (fun e => by rw [e, hMb] at hb'; cases hb')]; exact hm⟩
  · intro b' o' v hv
    have hne : b' ≠ b := fun e => by rw [e, hGb] at hv; cases hv
    obtain ⟨cs, e, f, h2, h3⟩ := cell_some (h.g b' o' v hv)
    rw [cell_of (show w'.heap[b']? = _ by rw [hother b' hne]; exact h2)]
    exact h3
  · intro i b' hb'
    obtain ⟨h1, h2, h3, h4⟩ := h.obj i b' hb'
    refine ⟨h1, by omega, h3, ?_⟩
    show ObjOk K i (if i = id then ob else H.g i) b' w'
    by_cases hi : i = id
    · rw [if_pos hi]
      subst hi
      rw [hid] at hb'
      injection hb' with hb'
      subst hb'
      exact hob
    · rw [if_neg hi]
      by_cases hbb : b' = b
      · have : (H.g i).live = false := by
          cases hlive : (H.g i).live with
          | false => rfl
          | true => exact absurd (h.inj i id b (hbb ▸ hb') hid hlive hl) hi
        cases hg : H.g i with
        | gone => trivial
        | _ => rw [hg] at this; cases this
      · exact h4.mono (.refl K) (hother b' hbb) (fun _ => rfl) rfl
  · intro i j b' hi hj li lj
    have hlv : ∀ i, K.β i = some b' → ((H.set id ob).g i).live = true → (H.g i).live = true := by
      intro i hi li
      by_cases e : i = id
      · subst e; exact hl
      · simpa [AH.set, e] using li
    exact h.inj i j b' hi hj (hlv i hi li) (hlv j hj lj)
  · intro b' hb'
    obtain ⟨h1, h2⟩ := h.defs b' hb'
    exact ⟨h1, by rw [hother b' (fun e => hnd _ (e ▸ h2))]; exact h2⟩
end sat
end Go.Abs
