/- A region's operations, in the order of the text and in whatever order is drawn: what the abstract run says, the machine does. Conditions: none beyond the table of types. -/
import Derived.Test.YtdlofkamkiojlaaDoorXStp
set_option linter.unusedVariables false
set_option linter.unusedSimpArgs false
namespace Go.Abs
open Go Go.RowKit

/-- One operation, wherever it stands in its region's order. -/
def SStep (C : Ctx) (N : Nat) (all : List Oper) (base i : Nat) (o : Oper) (e : Env) (H : AH) (v : AV) (H' : AH) : Prop :=
  ∀ (K : Kr) (D : List Nat) (w : World) (a : Act) (b : Frame) (rest : List Nat) (k : List Item) (cs : List Frame), Sat C K H D w → RepE K N e a.tmps → all[i]? = some o →
    (∀ t, o.op = .alloc t → ∃ d, C.T t = some d ∧ base + rank all i < H.n ∧ K.β (base + rank all i) = none ∧ H.g (base + rank all i) = .cells d.zero) →
    ∃ K' w' vc, Steps C.P (lone (b.atR a (.inRegion all.toArray (i :: rest) :: k)) cs w) (lone (b.atR (a.put o.dst vc) (.inRegion all.toArray rest :: k)) cs w') ∧ K.le K' ∧
      (H.n ≤ H'.n ∧ ∀ j, j < H.n → K.β j = none → (isAlloc o = true → j ≠ base + rank all i) → K'.β j = none ∧ H'.g j = H.g j) ∧ Sat C K' H' D w' ∧ RepV K' v vc

/-- The variables of a region that are not made yet. -/
def Pend (C : Ctx) (K : Kr) (H : AH) (all : List Oper) (base : Nat) (S : Nat → Prop) : Prop :=
  ∀ j o t, S j → all[j]? = some o → o.op = .alloc t → ∃ d, C.T t = some d ∧ base + rank all j < H.n ∧ K.β (base + rank all j) = none ∧ H.g (base + rank all j) = .cells d.zero

theorem rank_lt {all : List Oper} {i j : Nat} {o : Oper} (hij : i < j) (ho : all[i]? = some o) (ha : isAlloc o = true) : rank all i < rank all j := by
  have hi : i < all.length := (List.getElem?_eq_some_iff.1 ho).1
  have h1 : all.take (i + 1) = all.take i ++ [o] := by rw [List.take_add_one, ho]; rfl
  have h2 : rank all (i + 1) = rank all i + 1 := by
    unfold rank
    rw [h1, List.filter_append, List.length_append]
    simp [ha]
  have h3 : rank all (i + 1) ≤ rank all j := by
    unfold rank
    have : all.take (i + 1) = (all.take j).take (i + 1) := by rw [List.take_take, Nat.min_eq_left (by omega)]
    rw [this]
    exact (List.Sublist.filter _ (List.take_sublist _ _)).length_le
  omega
theorem isAlloc_iff {o : Oper} : isAlloc o = true ↔ ∃ t, o.op = .alloc t := by
  unfold isAlloc
  constructor
  · intro h
    split at h
    · exact ⟨_, ‹_›⟩
    · cases h
  · rintro ⟨t, h⟩; rw [h]

/-- The variables made ahead. -/
theorem allocsA_spec {C : Ctx} : ∀ (l pre : List Oper) (H H0 : AH) (base : Nat), allocsA C H l = some H0 → H.n = base + rank (pre ++ l) pre.length →
    H.n ≤ H0.n ∧ (∀ i, i < H.n → H0.g i = H.g i) ∧ ∀ j o t, pre.length ≤ j → (pre ++ l)[j]? = some o → o.op = .alloc t → ∃ d, C.T t = some d ∧ base + rank (pre ++ l) j < H0.n ∧ H0.g (base + rank (pre ++ l) j) = .cells d.zero := by
  intro l
  induction l with
  | nil =>
    intro pre H H0 base h hn
    simp only [allocsA] at h
    injection h with h
    subst h
    refine ⟨Nat.le_refl _, fun _ _ => rfl, fun j o t hj ho _ => ?_⟩
    rw [List.append_nil, List.getElem?_eq_none hj] at ho
    cases ho
  | cons x l ih =>
    intro pre H H0 base h hn
    have happ : pre ++ x :: l = (pre ++ [x]) ++ l := by simp
    have hr : rank (pre ++ x :: l) (pre.length + 1) = rank (pre ++ x :: l) pre.length + (if isAlloc x then 1 else 0) := by
      unfold rank
      rw [List.take_add_one]
      rw [List.filter_append, List.length_append]
      congr 1
      have : (pre ++ x :: l)[pre.length]? = some x := by rw [List.getElem?_append_right (Nat.le_refl _)]; simp
      rw [this]
      cases hx : isAlloc x <;> simp [hx]
    unfold allocsA at h
    split at h
    · rename_i t hop
      split at h
      · rename_i d hd
        have ha : isAlloc x = true := isAlloc_iff.2 ⟨t, hop⟩
        rw [ha] at hr
        obtain ⟨h1, h2, h3⟩ := ih (pre ++ [x]) (H.push (.cells d.zero)) H0 base h (by
          rw [← happ]
          simp only [List.length_append, List.length_cons, List.length_nil, AH.push, Nat.zero_add]
          rw [hr]
          simp
          omega)
        have hlt : H.n < H0.n := by simp only [AH.push] at h1; omega
        refine ⟨by omega, fun i hi => (h2 i (by simp only [AH.push]; omega)).trans (by simp [AH.push]; intro h; omega), fun j o t' hj ho ht => ?_⟩
        by_cases he : j = pre.length
        · subst he
          have : (pre ++ x :: l)[pre.length]? = some x := by rw [List.getElem?_append_right (Nat.le_refl _)]; simp
          rw [this] at ho
          injection ho with ho
          subst ho
          rw [hop] at ht
          injection ht with ht
          subst ht
          refine ⟨d, hd, by omega, ?_⟩
          rw [← hn, h2 H.n (by simp [AH.push])]
          simp [AH.push]
        · rw [happ] at ho ⊢
          exact h3 j o t' (by simp; omega) ho ht
      · cases h
    · rename_i hop
      have ha : isAlloc x = false := by
        cases hx : isAlloc x with
        | false => rfl
        | true => obtain ⟨t, ht⟩ := isAlloc_iff.1 hx; exact absurd ht (hop t)
      rw [ha] at hr
      obtain ⟨h1, h2, h3⟩ := ih (pre ++ [x]) H H0 base h (by
        rw [← happ]
        simp only [List.length_append, List.length_cons, List.length_nil, Nat.zero_add]
        rw [hr, hn]
        simp)
      refine ⟨h1, h2, fun j o t' hj ho ht => ?_⟩
      by_cases he : j = pre.length
      · subst he
        have : (pre ++ x :: l)[pre.length]? = some x := by rw [List.getElem?_append_right (Nat.le_refl _)]; simp
        rw [this] at ho
        injection ho with ho
        subst ho
        exact absurd ht (hop t')
      · rw [happ] at ho ⊢
        exact h3 j o t' (by simp; omega) ho ht

section ev
variable {C : Ctx} {K : Kr} {H H0 : AH} {D : List Nat} {w : World} {N : Nat} {e : Env} {a : Act}

/-- Objects added that have no block yet. -/
theorem Sat.ext (hs : Sat C K H D w) (hn : H.n ≤ H0.n) (hg : ∀ i, i < H.n → H0.g i = H.g i) : Sat C K H0 D w := by
  refine ⟨hs.base, hs.g, fun id b hb => ?_, fun i j b hi hj li lj => ?_, hs.defs, hs.nodup, hs.glob, hs.m⟩
  · obtain ⟨h1, h2, h3, h4⟩ := hs.obj id b hb
    exact ⟨h1, h2, by omega, by rw [hg id h3]; exact h4⟩
  · rw [hg i (hs.obj i b hi).2.2.1] at li
    rw [hg j (hs.obj j b hj).2.2.1] at lj
    exact hs.inj i j b hi hj li lj

theorem Pend.start (hs : Sat C K H D w) {all : List Oper} (h : allocsA C H all = some H0) : Sat C K H0 D w ∧ Pend C K H0 all H.n (fun _ => True) ∧ Frz K H K H0 := by
  obtain ⟨h1, h2, h3⟩ := allocsA_spec all [] H H0 H.n h (by simp [rank])
  refine ⟨hs.ext h1 h2, fun j o t _ ho ht => ?_, h1, fun i hi hb => ⟨hb, h2 i hi⟩⟩
  obtain ⟨d, hd, hlt, hg⟩ := h3 j o t (Nat.zero_le _) (by simpa using ho) ht
  exact ⟨d, hd, by simpa using hlt, hs.β_n (by simp), by simpa using hg⟩

/-- The operations in the order of the text. -/
theorem seq_sound {all : List Oper} {base : Nat} (b : Frame) (k : List Item) (cs : List Frame) : ∀ (n i : Nat) (e : Env) (H : AH) (tr : List (AV × AH)) (K : Kr) (w : World) (a : Act), i + n = all.length → tr.length = n →
    (∀ j o, j < n → all[i + j]? = some o → ∃ v Hn, tr[j]? = some (v, Hn) ∧ dstOk N o.dst = true ∧ SStep C N all base (i + j) o (envAt e (all.drop i) tr j) (heapAt H tr j) v Hn) →
    Sat C K H D w → RepE K N e a.tmps → Pend C K H all base (fun j => i ≤ j) →
    ∃ K' w' a', Steps C.P (lone (b.atR a (.inRegion all.toArray ((List.range n).map (i + ·)) :: k)) cs w) (lone (b.atR a' (.inRegion all.toArray [] :: k)) cs w') ∧ K.le K' ∧
      (H.n ≤ (heapAt H tr n).n ∧ ∀ j, j < base → K.β j = none → j < H.n → K'.β j = none ∧ (heapAt H tr n).g j = H.g j) ∧ Sat C K' (heapAt H tr n) D w' ∧ RepE K' N (envAt e (all.drop i) tr n) a'.tmps ∧ a'.defers = a.defers := by
  intro n
  induction n with
  | zero =>
    intro i e H tr K w a hl htl hst hs he hp
    have : tr = [] := by simpa using htl
    subst this
    have e1 : envAt e (all.drop i) [] 0 = e := by cases all.drop i <;> rfl
    have e2 : heapAt H [] 0 = H := rfl
    rw [e1, e2]
    exact ⟨K, w, a, Steps.refl _ _, .refl K, ⟨Nat.le_refl _, fun j _ hb _ => ⟨hb, rfl⟩⟩, hs, he, rfl⟩
  | succ n ih =>
    intro i e H tr K w a hl htl hst hs he hp
    have hi : i < all.length := by omega
    obtain ⟨o, ho⟩ : ∃ o, all[i]? = some o := ⟨_, List.getElem?_eq_getElem hi⟩
    obtain ⟨v, Hn, htr, hdo, hstep⟩ := hst 0 o (by omega) (by simpa using ho)
    cases tr with
    | nil => simp at htr
    | cons p tr =>
      simp at htr
      subst htr
      have hdrop : all.drop i = o :: all.drop (i + 1) := by rw [List.drop_eq_getElem_cons hi]; congr 1; rw [List.getElem?_eq_getElem hi] at ho; injection ho
      have e1 : ∀ j, envAt e (all.drop i) ((v, Hn) :: tr) (j + 1) = envAt (e.put o.dst v) (all.drop (i + 1)) tr j := fun j => by rw [hdrop]; rfl
      have e2 : ∀ j, heapAt H ((v, Hn) :: tr) (j + 1) = heapAt Hn tr j := fun j => rfl
      have e0 : envAt e (all.drop i) ((v, Hn) :: tr) 0 = e := by rw [hdrop]; rfl
      have e20 : heapAt H ((v, Hn) :: tr) 0 = H := rfl
      rw [Nat.add_zero, e0, e20] at hstep
      obtain ⟨K1, w1, vc, hsteps, hle, hfr, hs1, hv⟩ := hstep K D w a b ((List.range n).map (i + 1 + ·)) k cs hs he ho (fun t ht => hp i o t (Nat.le_refl _) ho ht)
      have hp1 : Pend C K1 Hn all base (fun j => i + 1 ≤ j) := by
        intro j o' t hj ho' ht
        obtain ⟨d, h1, h2, h3, h4⟩ := hp j o' t (by omega) ho' ht
        have hne : isAlloc o = true → base + rank all j ≠ base + rank all i := fun ha => by have := rank_lt (show i < j by omega) ho ha; omega
        obtain ⟨f1, f2⟩ := hfr.2 _ h2 h3 hne
        have := hfr.1
        exact ⟨d, h1, by omega, f1, f2.trans h4⟩
      have he1 : RepE K1 N (e.put o.dst v) (a.put o.dst vc).tmps := (he.mono hle).put hdo hv
      obtain ⟨K', w', a', hs2, hle2, hfr2, hsat2, hre2, hdef⟩ := ih (i + 1) (e.put o.dst v) Hn tr K1 w1 (a.put o.dst vc) (by omega) (by simpa using htl) (fun j o' hj ho' => by
        obtain ⟨v', Hn', q1, q2, q3⟩ := hst (j + 1) o' (by omega) (by rw [show i + (j + 1) = i + 1 + j by omega]; exact ho')
        refine ⟨v', Hn', by simpa using q1, q2, ?_⟩
        rw [e1, e2, show i + (j + 1) = i + 1 + j by omega] at q3
        exact q3) hs1 he1 hp1
      rw [e1, e2]
      refine ⟨K', w', a', ?_, hle.trans hle2, ⟨by have := hfr.1; omega, fun j hj hb hjn => ?_⟩, hsat2, hre2, hdef.trans (by cases o.dst <;> rfl)⟩
      · have hr : (List.range (n + 1)).map (i + ·) = i :: (List.range n).map (i + 1 + ·) := by
          rw [List.range_succ_eq_map, List.map_cons, List.map_map]
          congr 1
          apply List.map_congr_left
          intro x _
          simp
          omega
        rw [hr]
        exact hsteps.trans hs2
      · obtain ⟨f1, f2⟩ := hfr.2 j hjn hb (fun _ => by omega)
        obtain ⟨g1, g2⟩ := hfr2.2 j hj f1 (by have := hfr.1; omega)
        exact ⟨g1, g2.trans f2⟩

/-! ### An order that is drawn -/
/-- The temporaries when just these operations have run. -/
def envL (e : Env) : List Oper → List (AV × AH) → (Nat → Bool) → Env
  | o :: l, (v, _) :: tr, L => envL (if L 0 then e.put o.dst v else e) l tr (fun i => L (i + 1))
  | _, _, _ => e
theorem put_ne {e : Env} {dst : Option Tmp} {v : AV} {t : Nat} (h : dst ≠ some t) : (e.put dst v) t = e t := by
  cases dst with
  | none => rfl
  | some d =>
    show (if t = d then some v else e t) = e t
    rw [if_neg (fun x => h (by rw [x]))]
/-- It hangs on those alone that write it. -/
theorem envL_congr (t : Nat) : ∀ (l : List Oper) (tr : List (AV × AH)) (e e' : Env) (L L' : Nat → Bool), e t = e' t → (∀ i o, l[i]? = some o → o.dst = some t → L i = L' i) → envL e l tr L t = envL e' l tr L' t := by
  intro l
  induction l with
  | nil => intro tr e e' L L' he _; cases tr <;> exact he
  | cons o l ih =>
    intro tr e e' L L' he h
    cases tr with
    | nil => exact he
    | cons p tr =>
      obtain ⟨v, Hn⟩ := p
      simp only [envL]
      refine ih tr _ _ _ _ ?_ (fun i o' ho hd => h (i + 1) o' (by simpa using ho) hd)
      by_cases hd : o.dst = some t
      · have := h 0 o rfl hd
        rw [this]
        by_cases hL : L' 0 = true
        · rw [if_pos hL, if_pos hL, hd]; simp [Env.put, Env.set]
        · rw [if_neg hL, if_neg hL]; exact he
      · have h1 : (if L 0 = true then e.put o.dst v else e) t = e t := by split; exact put_ne hd; rfl
        have h2 : (if L' 0 = true then e'.put o.dst v else e') t = e' t := by split; exact put_ne hd; rfl
        rw [h1, h2]; exact he
/-- The last of those that write it gives it. -/
theorem envL_last (t : Nat) : ∀ (l : List Oper) (tr : List (AV × AH)) (e : Env) (L : Nat → Bool) (i : Nat) (o : Oper) (v : AV) (Hn : AH), l[i]? = some o → o.dst = some t → tr[i]? = some (v, Hn) → L i = true → (∀ j o', i < j → l[j]? = some o' → o'.dst = some t → L j = false) →
    envL e l tr L t = some v := by
  intro l
  induction l with
  | nil => intro tr e L i o v Hn ho; simp at ho
  | cons x l ih =>
    intro tr e L i o v Hn ho hd htr hL hlast
    cases tr with
    | nil => simp at htr
    | cons p tr =>
      obtain ⟨u, Hu⟩ := p
      cases i with
      | zero =>
        simp at ho htr
        obtain ⟨rfl, rfl⟩ := htr
        subst ho
        simp only [envL, hL, if_true]
        have hnone : ∀ (l : List Oper) (tr : List (AV × AH)) (e : Env) (L : Nat → Bool), (∀ j o', l[j]? = some o' → o'.dst = some t → L j = false) → envL e l tr L t = e t := by
          intro l
          induction l with
          | nil => intro tr e L _; cases tr <;> rfl
          | cons y l ih2 =>
            intro tr e L hn
            cases tr with
            | nil => rfl
            | cons q tr =>
              obtain ⟨z, Hz⟩ := q
              simp only [envL]
              rw [ih2 tr _ _ (fun j o' ho' hd' => hn (j + 1) o' (by simpa using ho') hd')]
              by_cases hy : y.dst = some t
              · rw [hn 0 y rfl hy]; rfl
              · split
                · exact put_ne hy
                · rfl
        rw [hnone l tr _ _ (fun j o' ho' hd' => hlast (j + 1) o' (by omega) (by simpa using ho') hd'), hd]
        simp [Env.put, Env.set]
      | succ i =>
        simp only [envL]
        exact ih tr _ _ i o v Hn (by simpa using ho) hd (by simpa using htr) hL (fun j o' hj ho' hd' => hlast (j + 1) o' (by omega) (by simpa using ho') hd')
theorem envAt_envL : ∀ (l : List Oper) (tr : List (AV × AH)) (e : Env) (i : Nat), envAt e l tr i = envL e l tr (fun j => decide (j < i)) := by
  intro l
  induction l with
  | nil => intro tr e i; cases tr <;> cases i <;> rfl
  | cons o l ih =>
    intro tr e i
    cases tr with
    | nil => cases i <;> rfl
    | cons p tr =>
      obtain ⟨v, Hn⟩ := p
      cases i with
      | zero =>
        have hno : ∀ (l : List Oper) (tr : List (AV × AH)) (e : Env), envL e l tr (fun _ => false) = e := by
          intro l
          induction l with
          | nil => intro tr e; cases tr <;> rfl
          | cons y l ih2 => intro tr e; cases tr with
            | nil => rfl
            | cons q tr => obtain ⟨z, Hz⟩ := q; simp only [envL]; exact ih2 tr e
        have h0 : (fun j => decide (j < 0)) = (fun _ : Nat => false) := by funext j; simp
        rw [h0, hno]
        rfl
      | succ i =>
        simp only [envAt, envL]
        rw [ih]
        simp

theorem foldl_bits (acc : List Nat) (q : Nat) : ∀ (es : List Edge) (s : Nat), (es.foldl (fun s e => if Region.binds .any e then s ||| 2 ^ e.on ||| acc.getD e.on 0 else s) s).testBit q = true →
    s.testBit q = true ∨ ∃ e ∈ es, Region.binds .any e = true ∧ (e.on = q ∨ (acc.getD e.on 0).testBit q = true) := by
  intro es
  induction es with
  | nil => intro s h; exact .inl h
  | cons e es ih =>
    intro s h
    rw [List.foldl_cons] at h
    rcases ih _ h with h | ⟨e', he, hb, h⟩
    · by_cases hb : Region.binds .any e = true
      · rw [if_pos hb] at h
        simp only [Nat.testBit_or, Bool.or_eq_true] at h
        rcases h with (h | h) | h
        · exact .inl h
        · rw [Nat.testBit_two_pow] at h
          exact .inr ⟨e, List.mem_cons_self .., hb, .inl (by simpa using h)⟩
        · exact .inr ⟨e, List.mem_cons_self .., hb, .inr h⟩
      · rw [if_neg hb] at h
        exact .inl h
    · exact .inr ⟨e', List.mem_cons_of_mem _ he, hb, h⟩

/-- A set of operations that holds, with each one, what that hangs on, holds all that comes before. -/
theorem bef_closed {all : List Oper} {L : Nat → Bool} (hc : ∀ j o, all[j]? = some o → L j = true → ∀ e ∈ o.after.toList, Region.binds .any e = true → L e.on = true)
    {j : Nat} {o : Oper} (hj : all[j]? = some o) (hL : L j = true ∨ ∀ e ∈ o.after.toList, Region.binds .any e = true → L e.on = true) {q : Nat} (hb : bef (befores all) q j = true) : L q = true := by
  have key : ∀ (l pre : List Oper) (acc : List Nat), acc.length = pre.length → (∀ i q, (acc.getD i 0).testBit q = true → ∀ o, (pre ++ l)[i]? = some o → (∀ e ∈ o.after.toList, Region.binds .any e = true → L e.on = true) → L q = true) →
      (∀ i o, (pre ++ l)[i]? = some o → L i = true → ∀ e ∈ o.after.toList, Region.binds .any e = true → L e.on = true) →
      ∀ i q, ((l.foldl (fun acc o => acc ++ [o.after.toList.foldl (fun s e => if Region.binds .any e then s ||| 2 ^ e.on ||| acc.getD e.on 0 else s) 0]) acc).getD i 0).testBit q = true → ∀ o, (pre ++ l)[i]? = some o → (∀ e ∈ o.after.toList, Region.binds .any e = true → L e.on = true) → L q = true := by
    intro l
    induction l with
    | nil => intro pre acc _ h _; exact h
    | cons x l ih =>
      intro pre acc hlen h hcl i q hbit o ho he
      rw [List.foldl_cons] at hbit
      have happ : pre ++ x :: l = (pre ++ [x]) ++ l := by simp
      rw [happ] at ho
      refine ih (pre ++ [x]) _ (by simp [hlen]) ?_ (fun i o ho => hcl i o (by rw [happ]; exact ho)) i q hbit o ho he
      intro i q hbit o ho he
      by_cases hi : i < acc.length
      · rw [List.getD_eq_getElem?_getD, List.getElem?_append_left hi, ← List.getD_eq_getElem?_getD] at hbit
        exact h i q hbit o (by rw [happ]; exact ho) he
      · by_cases hi2 : i = acc.length
        · subst hi2
          have hx : ((pre ++ [x]) ++ l)[acc.length]? = some x := by rw [hlen, List.append_assoc, List.getElem?_append_right (Nat.le_refl _)]; simp
          rw [hx] at ho
          injection ho with ho
          subst ho
          rw [List.getD_eq_getElem?_getD, List.getElem?_append_right (Nat.le_refl _)] at hbit
          simp only [Nat.sub_self, List.getElem?_cons_zero, Option.getD_some] at hbit
          rcases foldl_bits acc q x.after.toList 0 hbit with h0 | ⟨e, hm, hbd, hq⟩
          · simp at h0
          · have hLe := he e hm hbd
            rcases hq with hq | hq
            · rw [← hq]; exact hLe
            · by_cases hin : e.on < (pre ++ x :: l).length
              · obtain ⟨oe, hoe⟩ : ∃ oe, (pre ++ x :: l)[e.on]? = some oe := ⟨_, List.getElem?_eq_getElem hin⟩
                exact h e.on q hq oe hoe (hcl e.on oe hoe hLe)
              · have : acc.getD e.on 0 = 0 := by
                  rw [List.getD_eq_getElem?_getD, List.getElem?_eq_none (by simp at hin; omega)]
                  rfl
                rw [this] at hq
                simp at hq
        · rw [List.getD_eq_getElem?_getD, List.getElem?_eq_none (by simp; omega)] at hbit
          simp at hbit
  refine key all [] [] rfl (fun i q h => by simp at h) (fun i o ho hL => hc i o (by simpa using ho) hL) j q hb o (by simpa using hj) ?_
  rcases hL with hL | hL
  · exact hc j o hj hL
  · exact hL
end ev
end Go.Abs
