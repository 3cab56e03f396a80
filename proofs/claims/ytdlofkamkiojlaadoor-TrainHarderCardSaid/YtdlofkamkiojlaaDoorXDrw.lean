/- A region that draws its order: whatever order is drawn, the machine comes to what the abstract run in the order of the text says. Conditions: the region is well ordered (regOk), its reads are stable (Stable). -/
import Derived.Test.YtdlofkamkiojlaaDoorXReg
set_option linter.unusedVariables false
set_option linter.unusedSimpArgs false
namespace Go.Abs
open Go Go.RowKit

/-- What is known of one step of the abstract run: it may be made wherever what it looks at is the same; a light one in another heap, too, where it reads the same. -/
def Step2 (C : Ctx) (N : Nat) (all : List Oper) (base i : Nat) (o : Oper) (e : Env) (H : AH) (v : AV) (H' : AH) : Prop :=
  (∀ e2 : Env, (∀ t ∈ looksAt all o, e t = e2 t) → SStep C N all base i o e2 H v H') ∧
  (isHeavy o = false → H' = H ∧ ∀ (e2 : Env) (H2 : AH), (∀ t ∈ looksAt all o, e t = e2 t) → (isReading o = true → wantedA all e o = some true → lightA C e H2 o = lightA C e H o) → SStep C N all base i o e2 H2 v H2)

/-- The first heavy operation that has not run. -/
def nh : List Oper → (Nat → Bool) → Nat
  | [], _ => 0
  | o :: l, L => if isHeavy o && !L 0 then 0 else nh l (fun i => L (i + 1)) + 1
theorem nh_le : ∀ (l : List Oper) (L : Nat → Bool), nh l L ≤ l.length := by
  intro l
  induction l with
  | nil => intro L; exact Nat.le_refl _
  | cons o l ih =>
    intro L
    unfold nh
    split
    · exact Nat.zero_le _
    · have := ih (fun i => L (i + 1)); simp; omega
theorem nh_before : ∀ (l : List Oper) (L : Nat → Bool) (j : Nat) (o : Oper), j < nh l L → l[j]? = some o → isHeavy o = true → L j = true := by
  intro l
  induction l with
  | nil => intro L j o h; simp [nh] at h
  | cons x l ih =>
    intro L j o h ho hh
    unfold nh at h
    split at h
    · simp at h
    · rename_i hc
      cases j with
      | zero =>
        simp at ho
        subst ho
        simpa [hh] using hc
      | succ j => exact ih (fun i => L (i + 1)) j o (by omega) (by simpa using ho) hh
theorem nh_at : ∀ (l : List Oper) (L : Nat → Bool), nh l L < l.length → ∃ o, l[nh l L]? = some o ∧ isHeavy o = true ∧ L (nh l L) = false := by
  intro l
  induction l with
  | nil => intro L h; simp [nh] at h
  | cons x l ih =>
    intro L h
    unfold nh at h ⊢
    split
    · rename_i hc
      simp only [Bool.and_eq_true, Bool.not_eq_true'] at hc
      exact ⟨x, rfl, hc.1, hc.2⟩
    · rename_i hc
      rw [if_neg hc] at h
      obtain ⟨o, h1, h2, h3⟩ := ih (fun i => L (i + 1)) (by simp at h; omega)
      exact ⟨o, by simpa using h1, h2, h3⟩
theorem nh_eq {l : List Oper} {L : Nat → Bool} {p : Nat} (hp : p ≤ l.length) (h1 : ∀ j o, j < p → l[j]? = some o → isHeavy o = true → L j = true) (h2 : p < l.length → ∃ o, l[p]? = some o ∧ isHeavy o = true ∧ L p = false) : nh l L = p := by
  have hle := nh_le l L
  rcases Nat.lt_trichotomy (nh l L) p with h | h | h
  · obtain ⟨o, q1, q2, q3⟩ := nh_at l L (by omega)
    rw [h1 _ o h q1 q2] at q3
    cases q3
  · exact h
  · obtain ⟨o, q1, q2, q3⟩ := h2 (by omega)
    rw [nh_before l L p o h q1 q2] at q3
    cases q3

section
variable {all : List Oper}
theorem regOk_edge (h : regOk all = true) {j : Nat} {o : Oper} (hj : all[j]? = some o) : ∀ e ∈ o.after.toList, Region.binds .any e = true → e.on < j := by
  intro e he hb
  unfold regOk at h
  simp only [Bool.and_eq_true, List.all_eq_true] at h
  have hm : (o, j) ∈ all.zipIdx := by rw [List.mem_zipIdx_iff_getElem?]; exact hj
  have := h.1 (o, j) hm e he
  simpa [hb] using this
theorem regOk_pair (h : regOk all = true) {i j : Nat} {p o : Oper} (hi : all[i]? = some p) (hj : all[j]? = some o) (hij : i < j) (hc : clash all p o = true ∨ (isHeavy p = true ∧ isHeavy o = true)) : bef (befores all) i j = true := by
  unfold regOk at h
  simp only [Bool.and_eq_true, List.all_eq_true] at h
  have hmj : (o, j) ∈ all.zipIdx := by rw [List.mem_zipIdx_iff_getElem?]; exact hj
  have hmi : (p, i) ∈ all.zipIdx := by rw [List.mem_zipIdx_iff_getElem?]; exact hi
  have := h.2 (o, j) hmj (p, i) hmi
  simp only [hij, decide_true, Bool.not_true, Bool.false_or, Bool.or_eq_true, Bool.not_eq_true', Bool.or_eq_false_iff, Bool.and_eq_false_iff] at this
  rcases this with h1 | ⟨h1, h2⟩
  · exact h1
  · rcases hc with hc | ⟨hc1, hc2⟩
    · rw [hc] at h1; cases h1
    · rw [hc1, hc2] at h2; rcases h2 with h2 | h2 <;> cases h2
/-- What comes before stands before. -/
theorem bef_lt (h : regOk all = true) {q j : Nat} {o : Oper} (hj : all[j]? = some o) (hb : bef (befores all) q j = true) : q < j := by
  have key : ∀ n j o, j ≤ n → all[j]? = some o → bef (befores all) q j = true → q < j := by
    intro n
    induction n with
    | zero =>
      intro j o hn hj hb
      -- nothing comes before the first one
      have hc : (fun i => decide (i < j)) q = true := by
        refine bef_closed (all := all) (L := fun i => decide (i < j)) ?_ hj (.inr ?_) hb
        · intro i o' ho' hL e he hbd
          have := regOk_edge h ho' e he hbd
          simp only [decide_eq_true_eq] at hL ⊢
          omega
        · intro e he hbd
          simpa using regOk_edge h hj e he hbd
      simpa using hc
    | succ n ih =>
      intro j o hn hj hb
      have hc : (fun i => decide (i < j)) q = true := by
        refine bef_closed (all := all) (L := fun i => decide (i < j)) ?_ hj (.inr ?_) hb
        · intro i o' ho' hL e he hbd
          have := regOk_edge h ho' e he hbd
          simp only [decide_eq_true_eq] at hL ⊢
          omega
        · intro e he hbd
          simpa using regOk_edge h hj e he hbd
      simpa using hc
  exact key j j o (Nat.le_refl _) hj hb

/-- Between two heavy operations the heap stays. -/
theorem heap_stay {H : AH} {tr : List (AV × AH)} (hst : ∀ j o, all[j]? = some o → isHeavy o = false → heapAt H tr (j + 1) = heapAt H tr j) : ∀ (n p : Nat), p + n ≤ all.length → (∀ j o, p ≤ j → j < p + n → all[j]? = some o → isHeavy o = false) → heapAt H tr (p + n) = heapAt H tr p := by
  intro n
  induction n with
  | zero => intro p _ _; rfl
  | succ n ih =>
    intro p hl h
    have ho : all[p + n]? = some (all[p + n]'(by omega)) := List.getElem?_eq_getElem _
    rw [← Nat.add_assoc, hst (p + n) _ ho (h (p + n) _ (by omega) (by omega) ho)]
    exact ih p (by omega) (fun j o h1 h2 => h j o h1 (by omega))
end

def cnt (n : Nat) (L : Nat → Bool) : Nat := ((List.range n).filter fun j => !L j).length
theorem cnt_zero {n : Nat} {L : Nat → Bool} (h : cnt n L = 0) {j : Nat} (hj : j < n) : L j = true := by
  unfold cnt at h
  have := List.length_eq_zero_iff.1 h
  have hm : j ∉ (List.range n).filter fun j => !L j := by rw [this]; simp
  simpa [hj] using hm
theorem cnt_set {n : Nat} {L : Nat → Bool} {i : Nat} (hi : i < n) (hL : L i = false) : cnt n (fun j => if j = i then true else L j) + 1 = cnt n L := by
  unfold cnt
  induction n with
  | zero => omega
  | succ n ih =>
    rw [List.range_succ, List.filter_append, List.filter_append, List.length_append, List.length_append]
    by_cases h : i = n
    · subst h
      have h1 : (List.range i).filter (fun j => !(if j = i then true else L j)) = (List.range i).filter (fun j => !L j) := by
        apply List.filter_congr
        intro j hj
        have : j < i := by simpa using hj
        rw [if_neg (by omega)]
      rw [h1]
      simp [hL]
    · have := ih (by omega)
      have h1 : ([n] : List Nat).filter (fun j => !(if j = i then true else L j)) = [n].filter (fun j => !L j) := by
        simp only [List.filter_cons, List.filter_nil]
        rw [if_neg (show ¬ n = i by omega)]
      rw [h1]
      omega

section ev
variable {C : Ctx} {D : List Nat} {N : Nat}

theorem draw_sound {all : List Oper} {base : Nat} {e : Env} {H : AH} {tr : List (AV × AH)} (hreg : regOk all = true) (hstab : Stable C all e H tr) (htl : tr.length = all.length)
    (hst : ∀ j o, all[j]? = some o → ∃ v Hn, tr[j]? = some (v, Hn) ∧ Hn = heapAt H tr (j + 1) ∧ dstOk N o.dst = true ∧ Step2 C N all base j o (envAt e all tr j) (heapAt H tr j) v Hn)
    (b : Frame) (k : List Item) (cs : List Frame) (K0 : Kr) (ds : List Deferred) :
    ∀ (fuel t : Nat) (listed : Array Bool) (K : Kr) (w : World) (a : Act), listed.size = all.length → cnt all.length (fun j => listed.getD j false) ≤ fuel →
      (∀ j o, all[j]? = some o → listed.getD j false = true → ∀ e ∈ o.after.toList, Region.binds .any e = true → listed.getD e.on false = true) →
      Sat C K (heapAt H tr (nh all (fun j => listed.getD j false))) D w → RepE K N (envL e all tr (fun j => listed.getD j false)) a.tmps →
      Pend C K (heapAt H tr (nh all (fun j => listed.getD j false))) all base (fun j => listed.getD j false = false) → a.defers = ds → K0.le K →
      (H.n ≤ (heapAt H tr (nh all (fun j => listed.getD j false))).n ∧ ∀ j, j < base → K0.β j = none → j < H.n → K.β j = none ∧ (heapAt H tr (nh all (fun j => listed.getD j false))).g j = H.g j) →
      ∃ K' w' a', Steps C.P (lone (b.atR a (.inRegion all.toArray (Region.linearise.go .any all.toArray fuel t listed []) :: k)) cs w) (lone (b.atR a' (.inRegion all.toArray [] :: k)) cs w') ∧
        K0.le K' ∧ (H.n ≤ (heapAt H tr all.length).n ∧ ∀ j, j < base → K0.β j = none → j < H.n → K'.β j = none ∧ (heapAt H tr all.length).g j = H.g j) ∧ Sat C K' (heapAt H tr all.length) D w' ∧ RepE K' N (envAt e all tr all.length) a'.tmps ∧ a'.defers = ds := by
  have hstay : ∀ j o, all[j]? = some o → isHeavy o = false → heapAt H tr (j + 1) = heapAt H tr j := by
    intro j o ho hh
    obtain ⟨v, Hn, _, h2, _, h4⟩ := hst j o ho
    rw [← h2]
    exact (h4.2 hh).1
  intro fuel
  -- when all have run
  have fin : ∀ (t : Nat) (listed : Array Bool) (K : Kr) (w : World) (a : Act), listed.size = all.length → (∀ j, j < all.length → listed.getD j false = true) →
      Sat C K (heapAt H tr (nh all (fun j => listed.getD j false))) D w → RepE K N (envL e all tr (fun j => listed.getD j false)) a.tmps →
      (H.n ≤ (heapAt H tr (nh all (fun j => listed.getD j false))).n ∧ ∀ j, j < base → K0.β j = none → j < H.n → K.β j = none ∧ (heapAt H tr (nh all (fun j => listed.getD j false))).g j = H.g j) →
      (H.n ≤ (heapAt H tr all.length).n ∧ ∀ j, j < base → K0.β j = none → j < H.n → K.β j = none ∧ (heapAt H tr all.length).g j = H.g j) ∧ Sat C K (heapAt H tr all.length) D w ∧ RepE K N (envAt e all tr all.length) a.tmps := by
    intro t listed K w a hsz hall hs he hf
    have hnh : nh all (fun j => listed.getD j false) = all.length := nh_eq (Nat.le_refl _) (fun j o hj _ _ => hall j hj) (fun h => absurd h (Nat.lt_irrefl _))
    rw [hnh] at hs hf
    refine ⟨hf, hs, ⟨he.1, fun i x hx => he.2 i x ?_⟩⟩
    rw [envAt_envL] at hx
    rw [← hx]
    refine envL_congr i all tr e e _ _ rfl (fun j o ho _ => ?_)
    have hj : j < all.length := (List.getElem?_eq_some_iff.1 ho).1
    rw [hall j hj]
    simp [hj]
  induction fuel with
  | zero =>
    intro t listed K w a hsz hcnt hcl hs he hp hd hle hf
    have hall : ∀ j, j < all.length → listed.getD j false = true := fun j hj => cnt_zero (Nat.le_zero.1 hcnt) hj
    obtain ⟨h1, h2, h3⟩ := fin t listed K w a hsz hall hs he hf
    exact ⟨K, w, a, Steps.refl _ _, hle, h1, h2, h3, hd⟩
  | succ fuel ih =>
    intro t listed K w a hsz hcnt hcl hs he hp hd hle hf
    have hgo : Region.linearise.go .any all.toArray (fuel + 1) t listed [] = (match (Region.ready .any all.toArray listed)[t % (Region.ready .any all.toArray listed).length]? with
        | some i => i :: Region.linearise.go .any all.toArray fuel (t / (Region.ready .any all.toArray listed).length) (listed.setIfInBounds i true) []
        | none => []) := by
      simp only [Region.linearise.go]
      change (match (Region.ready .any all.toArray listed)[t % (Region.ready .any all.toArray listed).length]? with
        | some i => Region.linearise.go .any all.toArray fuel (t / (Region.ready .any all.toArray listed).length) (listed.setIfInBounds i true) [i]
        | none => [].reverse) = _
      split
      · rename_i i _
        rw [linearise_go_acc]
        rfl
      · rfl
    rw [hgo]
    have hget : ∀ j, all.toArray[j]? = all[j]? := fun j => List.getElem?_toArray
    cases hi : (Region.ready .any all.toArray listed)[t % (Region.ready .any all.toArray listed).length]? with
    | none =>
      have hnil : Region.ready .any all.toArray listed = [] := by
        cases hr : Region.ready .any all.toArray listed with
        | nil => rfl
        | cons x xs =>
          rw [hr] at hi
          have hlt : t % (x :: xs).length < (x :: xs).length := Nat.mod_lt _ (by simp)
          simp at hi
          simp at hlt
          omega
      have hall : ∀ n j, j < n → j < all.length → listed.getD j false = true := by
        intro n
        induction n with
        | zero => intro j h; omega
        | succ n ihn =>
          intro j hjn hj
          cases hL : listed.getD j false with
          | true => rfl
          | false =>
            exfalso
            have hm : j ∈ Region.ready .any all.toArray listed := by
              unfold Region.ready
              rw [List.mem_filter]
              refine ⟨by simpa using hj, ?_⟩
              have hoj : all[j]? = some (all[j]'hj) := List.getElem?_eq_getElem _
              have hlt : listed.getD j true = false := by
                rw [Array.getD_eq_getD_getElem?] at hL ⊢
                have : j < listed.size := by omega
                rw [Array.getElem?_eq_getElem this] at hL ⊢
                exact hL
              rw [hget, hoj, hlt]
              simp only [Bool.not_false, Bool.true_and, Option.map_some, Option.getD_some]
              rw [Array.all_eq_true_iff_forall_mem]
              intro ed hed
              cases hbd : Region.binds .any ed with
              | false => rfl
              | true =>
                have hlt2 := regOk_edge hreg hoj ed (by simpa using hed) hbd
                have := ihn ed.on (by omega) (by omega)
                simp [this]
            rw [hnil] at hm
            cases hm
      obtain ⟨h1, h2, h3⟩ := fin t listed K w a hsz (fun j hj => hall (j + 1) j (by omega) hj) hs he hf
      exact ⟨K, w, a, Steps.refl _ _, hle, h1, h2, h3, hd⟩
    | some i =>
      have hmem := List.mem_of_getElem? hi
      unfold Region.ready at hmem
      rw [List.mem_filter] at hmem
      obtain ⟨hir, hic⟩ := hmem
      have hin : i < all.length := by simpa using hir
      obtain ⟨o, ho⟩ : ∃ o, all[i]? = some o := ⟨_, List.getElem?_eq_getElem hin⟩
      rw [hget, ho] at hic
      simp only [Bool.and_eq_true, Bool.not_eq_true', Option.map_some, Option.getD_some] at hic
      obtain ⟨hLi, hpre⟩ := hic
      have hLi' : listed.getD i false = false := by
        rw [Array.getD_eq_getD_getElem?] at hLi ⊢
        have : i < listed.size := by omega
        rw [Array.getElem?_eq_getElem this] at hLi ⊢
        exact hLi
      have hpre' : ∀ ed ∈ o.after.toList, Region.binds .any ed = true → listed.getD ed.on false = true := by
        intro ed hed hbd
        rw [Array.all_eq_true_iff_forall_mem] at hpre
        have := hpre ed (by simpa using hed)
        simpa [hbd] using this
      obtain ⟨L, hLdef⟩ : ∃ L : Nat → Bool, L = fun j => listed.getD j false := ⟨_, rfl⟩
      have hL : ∀ j, listed.getD j false = L j := fun j => by rw [hLdef]
      have hfun : (fun j => listed.getD j false) = L := hLdef.symm
      rw [hfun] at hs he hp hf hcnt
      simp only [hL] at hcl hLi' hpre' hp
      -- what comes before it has run, what comes behind it has not
      have hpast : ∀ q, bef (befores all) q i = true → L q = true := fun q hq => bef_closed hcl ho (.inr hpre') hq
      have hfut : ∀ j oj, all[j]? = some oj → bef (befores all) i j = true → L j = false := by
        intro j oj hoj hbj
        cases hLj : L j with
        | false => rfl
        | true =>
          have := bef_closed hcl hoj (.inl hLj) hbj
          rw [hLi'] at this
          cases this
      obtain ⟨v, Hn, htr, hHn, hdo, hstep⟩ := hst i o ho
      -- what it looks at is there
      obtain ⟨e2, he2⟩ : ∃ e2 : Env, e2 = fun t => if (looksAt all o).contains t then envAt e all tr i t else none := ⟨_, rfl⟩
      have hagree : ∀ t ∈ looksAt all o, envAt e all tr i t = e2 t := by
        intro t ht
        rw [he2]
        simp only
        rw [if_pos (by simpa using ht)]
      have hre2 : RepE K N e2 a.tmps := by
        refine ⟨he.1, fun t x hx => he.2 t x ?_⟩
        rw [he2] at hx
        simp only at hx
        split at hx
        · rename_i hc
          rw [envAt_envL] at hx
          rw [← hx]
          refine envL_congr t all tr e e _ _ rfl (fun j oj hoj hdj => ?_)
          rcases Nat.lt_trichotomy j i with h | h | h
          · have hb := regOk_pair hreg hoj ho h (.inl (by unfold clash; rw [hdj]; simp only [hc, Bool.true_or]))
            rw [hpast j hb]
            simp [h]
          · subst h
            rw [hLi']
            simp
          · have hb := regOk_pair hreg ho hoj h (.inl (by unfold clash; rw [hdj]; simp only [hc, Bool.or_true]))
            rw [hfut j oj hoj hb]
            simp
            omega
        · cases hx
      -- the heap in which it runs, and the one behind it
      have hset : ∀ j, (listed.setIfInBounds i true).getD j false = (if j = i then true else L j) := by
        intro j
        rw [Array.getD_eq_getD_getElem?, Array.getElem?_setIfInBounds]
        by_cases hj : i = j
        · rw [if_pos hj, if_pos hj.symm]
          rw [if_pos (by omega)]
          rfl
        · rw [if_neg hj, if_neg (fun h => hj h.symm), ← Array.getD_eq_getD_getElem?, hL]
      have run : ∃ K1 w1 vc, Steps C.P (lone (b.atR a (.inRegion all.toArray (i :: Region.linearise.go .any all.toArray fuel (t / (Region.ready .any all.toArray listed).length) (listed.setIfInBounds i true) []) :: k)) cs w)
            (lone (b.atR (a.put o.dst vc) (.inRegion all.toArray (Region.linearise.go .any all.toArray fuel (t / (Region.ready .any all.toArray listed).length) (listed.setIfInBounds i true) []) :: k)) cs w1) ∧ K.le K1 ∧
          ((heapAt H tr (nh all L)).n ≤ (heapAt H tr (nh all (fun j => if j = i then true else L j))).n ∧ ∀ j, j < (heapAt H tr (nh all L)).n → K.β j = none → (isAlloc o = true → j ≠ base + rank all i) → K1.β j = none ∧ (heapAt H tr (nh all (fun j => if j = i then true else L j))).g j = (heapAt H tr (nh all L)).g j) ∧
          Sat C K1 (heapAt H tr (nh all (fun j => if j = i then true else L j))) D w1 ∧ RepV K1 v vc := by
        have hpi : ∀ t, o.op = .alloc t → ∃ d, C.T t = some d ∧ base + rank all i < (heapAt H tr (nh all L)).n ∧ K.β (base + rank all i) = none ∧ (heapAt H tr (nh all L)).g (base + rank all i) = .cells d.zero := fun t ht => hp i o t hLi' ho ht
        cases hh : isHeavy o with
        | true =>
          have hnh : nh all L = i := nh_eq (by omega) (fun j oj hj hoj hhj => hpast j (regOk_pair hreg hoj ho hj (.inr ⟨hhj, hh⟩))) (fun _ => ⟨o, ho, hh, hLi'⟩)
          have hnh2 : heapAt H tr (nh all (fun j => if j = i then true else L j)) = heapAt H tr (i + 1) := by
            obtain ⟨p, hp⟩ : ∃ p, p = nh all (fun j => if j = i then true else L j) := ⟨_, rfl⟩
            rw [← hp]
            have hpi : i < p := by
              rcases Nat.lt_or_ge i p with h | h
              · exact h
              · exfalso
                have hlt : p < all.length := by omega
                obtain ⟨op, q1, q2, q3⟩ := nh_at all (fun j => if j = i then true else L j) (by omega)
                rw [← hp] at q1 q3
                by_cases hpe : p = i
                · rw [if_pos hpe] at q3; cases q3
                · rw [if_neg hpe] at q3
                  have := nh_before all L p op (by omega) q1 q2
                  rw [this] at q3; cases q3
            have hpl : p ≤ all.length := by rw [hp]; exact nh_le _ _
            have := heap_stay (all := all) hstay (p - (i + 1)) (i + 1) (by omega) (fun j oj h1 h2 hoj => by
              cases hhj : isHeavy oj with
              | false => rfl
              | true =>
                have hLj := nh_before all (fun j => if j = i then true else L j) j oj (by omega) hoj hhj
                rw [if_neg (by omega)] at hLj
                rw [hfut j oj hoj (regOk_pair hreg ho hoj (by omega) (.inr ⟨hh, hhj⟩))] at hLj
                cases hLj)
            rw [show i + 1 + (p - (i + 1)) = p by omega] at this
            exact this
          rw [hnh, hnh2]
          rw [hnh] at hs hpi
          rw [← hHn]
          exact hstep.1 e2 hagree K D w a b _ k cs hs hre2 ho hpi
        | false =>
          obtain ⟨hsame, hany⟩ := hstep.2 hh
          have hnh2 : nh all (fun j => if j = i then true else L j) = nh all L := by
            refine nh_eq (nh_le _ _) (fun j oj hj hoj hhj => ?_) (fun hlt => ?_)
            · split
              · rfl
              · exact nh_before all L j oj hj hoj hhj
            · obtain ⟨op, q1, q2, q3⟩ := nh_at all L hlt
              refine ⟨op, q1, q2, ?_⟩
              rw [if_neg (fun he => by rw [he, ho] at q1; injection q1 with q1; rw [← q1, hh] at q2; cases q2)]
              exact q3
          rw [hnh2]
          refine hany e2 (heapAt H tr (nh all L)) hagree (fun hread hwant => ?_) K D w a b _ k cs hs hre2 ho hpi
          have hsb := hstab i o ho hread hwant
          obtain ⟨p, hp⟩ : ∃ p, p = nh all L := ⟨_, rfl⟩
          rw [← hp]
          have hpl : p ≤ all.length := by rw [hp]; exact nh_le _ _
          have hbes : ∀ j oj, all[j]? = some oj → isHeavy oj = true → j ≠ i → bef (befores all) j i = false → bef (befores all) i j = false → j ∈ beside all i := by
            intro j oj hoj hhj hne h1 h2
            unfold beside
            simp only [List.mem_filterMap]
            refine ⟨(oj, j), by rw [List.mem_zipIdx_iff_getElem?]; exact hoj, ?_⟩
            simp [hhj, hne, h1, h2]
          rcases Nat.lt_or_ge p i with hlt | hge
          · -- a heavy one before it has not run
            obtain ⟨op, q1, q2, q3⟩ := nh_at all L (by omega)
            rw [← hp] at q1 q3
            have hb1 : bef (befores all) p i = false := by
              cases hb : bef (befores all) p i with
              | false => rfl
              | true => rw [hpast p hb] at q3; cases q3
            have hb2 : bef (befores all) i p = false := by
              cases hb : bef (befores all) i p with
              | false => rfl
              | true => have := bef_lt hreg q1 hb; omega
            exact (hsb p (hbes p op q1 q2 (by omega) hb1 hb2)).1
          · -- all heavy ones before p have run: the last of them, if one stands behind i
            by_cases hex : ∃ g og, i < g ∧ g < p ∧ all[g]? = some og ∧ isHeavy og = true
            · have hmax : ∀ n, n ≤ p → (∃ g og, i < g ∧ g < n ∧ all[g]? = some og ∧ isHeavy og = true) → ∃ g og, i < g ∧ g < n ∧ all[g]? = some og ∧ isHeavy og = true ∧ ∀ j oj, g < j → j < n → all[j]? = some oj → isHeavy oj = false := by
                intro n
                induction n with
                | zero => rintro _ ⟨g, og, _, h, _⟩; omega
                | succ n ihn =>
                  rintro hn ⟨g, og, g1, g2, g3, g4⟩
                  obtain ⟨on, hon⟩ : ∃ on, all[n]? = some on := ⟨_, List.getElem?_eq_getElem (by omega)⟩
                  cases hhn : isHeavy on with
                  | true =>
                    by_cases hin2 : i < n
                    · exact ⟨n, on, hin2, by omega, hon, hhn, fun j oj h1 h2 => by omega⟩
                    · have : g = n := by omega
                      omega
                  | false =>
                    have hgn : g < n := by
                      rcases Nat.lt_or_ge g n with h | h
                      · exact h
                      · have : g = n := by omega
                        subst this
                        rw [hon] at g3; injection g3 with g3; rw [← g3, hhn] at g4; cases g4
                    obtain ⟨g', og', r1, r2, r3, r4, r5⟩ := ihn (by omega) ⟨g, og, g1, hgn, g3, g4⟩
                    refine ⟨g', og', r1, by omega, r3, r4, fun j oj h1 h2 hoj => ?_⟩
                    by_cases hjn : j = n
                    · subst hjn; rw [hon] at hoj; injection hoj with hoj; rw [← hoj]; exact hhn
                    · exact r5 j oj h1 (by omega) hoj
              obtain ⟨g, og, r1, r2, r3, r4, r5⟩ := hmax p (Nat.le_refl _) hex
              have hLg := nh_before all L g og (by omega) r3 r4
              have hb1 : bef (befores all) g i = false := by
                cases hb : bef (befores all) g i with
                | false => rfl
                | true => have := bef_lt hreg ho hb; omega
              have hb2 : bef (befores all) i g = false := by
                cases hb : bef (befores all) i g with
                | false => rfl
                | true => rw [hfut g og r3 hb] at hLg; cases hLg
              have hst2 := heap_stay (all := all) hstay (p - (g + 1)) (g + 1) (by omega) (fun j oj h1 h2 hoj => r5 j oj (by omega) (by omega) hoj)
              rw [show g + 1 + (p - (g + 1)) = p by omega] at hst2
              rw [hst2]
              exact (hsb g (hbes g og r3 r4 (by omega) hb1 hb2)).2
            · have hst2 := heap_stay (all := all) hstay (p - i) i (by omega) (fun j oj h1 h2 hoj => by
                cases hhj : isHeavy oj with
                | false => rfl
                | true =>
                  by_cases hji : j = i
                  · subst hji; rw [ho] at hoj; injection hoj with hoj; rw [← hoj, hh] at hhj; cases hhj
                  · exact absurd ⟨j, oj, by omega, by omega, hoj, hhj⟩ hex)
              rw [show i + (p - i) = p by omega] at hst2
              rw [hst2]
      obtain ⟨K1, w1, vc, hsteps, hle1, hfr, hs1, hv⟩ := run
      have hfun2 : (fun j => (listed.setIfInBounds i true).getD j false) = (fun j => if j = i then true else L j) := funext hset
      obtain ⟨K', w', a', hsteps2, r1, r2, r3, r4, r5⟩ := ih (t / (Region.ready .any all.toArray listed).length) (listed.setIfInBounds i true) K1 w1 (a.put o.dst vc) (by simpa using hsz)
        (by rw [hfun2]; have := cnt_set (L := L) hin hLi'; omega)
        (by
          intro j oj hoj hLj ed hed hbd
          rw [hset] at hLj ⊢
          split
          · rfl
          · split at hLj
            · rename_i hji
              subst hji
              rw [ho] at hoj; injection hoj with hoj
              subst hoj
              exact hpre' ed hed hbd
            · exact hcl j oj hoj hLj ed hed hbd)
        (by rw [hfun2]; exact hs1)
        (by
          rw [hfun2]
          refine ⟨?_, fun t x hx => ?_⟩
          · have := he.1
            cases o.dst <;> simpa [Act.put] using this
          · by_cases hd : o.dst = some t
            · have hlast := envL_last t all tr e (fun j => if j = i then true else L j) i o v Hn ho hd htr (if_pos rfl) (fun j oj hij hoj hdj => by
                rw [if_neg (by omega)]
                exact hfut j oj hoj (regOk_pair hreg ho hoj hij (.inl (by unfold clash; rw [hd, hdj]; simp))))
              rw [hlast] at hx
              injection hx with hx
              subst hx
              rw [hd]
              refine ⟨vc, ?_, hv⟩
              show (a.tmps.setIfInBounds t vc)[t]? = some vc
              rw [Array.getElem?_setIfInBounds_self_of_lt]
              rw [he.1]
              rw [hd] at hdo
              simpa [dstOk] using hdo
            · have hcong := envL_congr t all tr e e (fun j => if j = i then true else L j) L rfl (fun j oj hoj hdj => by
                rw [if_neg (fun hji => by rw [hji, ho] at hoj; injection hoj with hoj; rw [← hoj] at hdj; exact hd hdj)])
              rw [hcong] at hx
              obtain ⟨u, hu, hr⟩ := he.2 t x hx
              refine ⟨u, ?_, hr.mono hle1⟩
              cases hdst : o.dst with
              | none => exact hu
              | some d =>
                show (a.tmps.setIfInBounds d vc)[t]? = some u
                rw [Array.getElem?_setIfInBounds_ne (fun h => hd (by rw [hdst, h]))]
                exact hu)
        (by
          rw [hfun2]
          intro j oj tj hj hoj htj
          rw [hset] at hj
          have hji : j ≠ i := fun h => by rw [if_pos h] at hj; cases hj
          rw [if_neg hji] at hj
          obtain ⟨d, p1, p2, p3, p4⟩ := hp j oj tj hj hoj htj
          have hne : isAlloc o = true → base + rank all j ≠ base + rank all i := fun ha => by
            rcases Nat.lt_or_ge j i with h | h
            · have := rank_lt h hoj (isAlloc_iff.2 ⟨tj, htj⟩); omega
            · have := rank_lt (show i < j by omega) ho ha; omega
          obtain ⟨f1, f2⟩ := hfr.2 _ p2 p3 hne
          have := hfr.1
          exact ⟨d, p1, by omega, f1, f2.trans p4⟩)
        (by cases hdst : o.dst <;> exact hd) (hle.trans hle1)
        (by
          rw [hfun2]
          refine ⟨Nat.le_trans hf.1 hfr.1, fun j hj hb hjn => ?_⟩
          obtain ⟨f1, f2⟩ := hf.2 j hj hb hjn
          obtain ⟨g1, g2⟩ := hfr.2 j (by have := hf.1; omega) f1 (fun _ => by omega)
          exact ⟨g1, g2.trans f2⟩)
      exact ⟨K', w', a', hsteps.trans hsteps2, r1, r2, r3, r4, r5⟩
end ev
end Go.Abs
