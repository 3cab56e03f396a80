/- Plain law: Reach: the program and the specification. Plain law: Latest: the program and the specification. Plain law: Latest: one step, and all. Plain law: Latest; TrainReaches. Conditions: none. -/
import Derived.Test.YtdlofkamkiojlaaDoorXMf
namespace Go.Abs.Tr
open Go Go.Abs
set_option linter.unusedSimpArgs false
set_option linter.unusedVariables false

def reach1 (t : Table) (a at' : Int) (i : Nat) : Int := if (i : Int) == a then at' else if (bestV t a i at').til == 2880 then -1 else (bestV t a i at').til
def askS (t : Table) (a at' : Int) : Bool := amid a 0 ((t.offices.length : Int) - 1) && amid at' 0 2879
def reachR (t : Table) (a at' : Int) : List Int × Int :=
  if V t && askS t a at' then ((List.range t.offices.length).map (reach1 t a at'), 0) else ([], askV t (askS t a at'))
theorem set_mid (pre : List Int) (x v : Int) (r : List Int) : setA (pre ++ x :: r) (pre.length : Int) v = some (pre ++ v :: r) := by
  unfold setA
  rw [if_pos ⟨by omega, by simp⟩]
  simp
theorem s33_eq {N : Nat} {t : Table} (L : Lens N t) (a at' : Int) : s33 N t a at' = some (reachR t a at') := by
  unfold s33 reachR askV
  rw [s51_eq L (b := askS t a at') (fun G => by
    unfold s84 askS
    have ct : (calcOf t).t = t := rfl
    simp only [ct, ck_len L.o, bind_some', s60_eq]
    cases amid a 0 ((t.offices.length : Int) - 1) <;> rfl), bind_some']
  cases hv : V t with
  | false => rfl
  | true =>
    cases ha : askS t a at' with
    | false => rfl
    | true =>
      have G := good_of hv
      have hN := L.n4
      have o1 := G.o1
      have o6 := G.o6
      have ha' := ha
      simp only [askS, Bool.and_eq_true, amid_iff] at ha'
      obtain ⟨⟨b0, b1⟩, a0, a1⟩ := ha'
      have e : (!((0 : Int) == 0)) = false := rfl
      have ct : (calcOf t).t = t := rfl
      have en : ((t.offices.length : Int)).toNat = t.offices.length := by omega
      have main := iter_list (f := s33_l20 N a at' (calcOf t, 0)) (S := List Int) (fun pre i => (i, calcOf t, pre ++ List.replicate (t.offices.length - pre.length) 0)) (List.range t.offices.length) (by simp [big]; omega)
        (fun pre l => pre.length + l.length = t.offices.length) (fun pre l => pre ++ l.map (reach1 t a at'))
        (fun pre hI => by
          unfold s33_l20
          have h0 : pre.length = t.offices.length := by simpa using hI
          have : decide ((((List.range t.offices.length).length : Nat) : Int) < (((((t.offices.length : Nat) : Int)).toNat : Nat) : Int)) = false := by simp
          simp only [ct, this, h0, Nat.sub_self, List.replicate_zero, List.map_nil]
          rfl)
        (fun i x l pre hd hi hlt hck hI => by
          have hlt' : i < t.offices.length := by simpa using hlt
          have hx : x = i := by
            rw [ix_ok (by simpa using hlt')] at hi
            simp at hi; exact hi.symm
          subst hx
          have hpl : pre.length = x := by
            have := congrArg List.length hd
            simp only [List.length_cons] at hI
            simp at this; omega
          simp only [List.length_cons] at hI
          have hrep : List.replicate (t.offices.length - pre.length) (0 : Int) = 0 :: List.replicate (t.offices.length - (pre.length + 1)) 0 := by
            rw [show t.offices.length - pre.length = (t.offices.length - (pre.length + 1)) + 1 by omega, List.replicate_succ]
          have hin : inA t.offices.length (x : Int) = some () := if_pos ⟨by omega, by omega⟩
          left
          refine ⟨pre ++ [reach1 t a at' x], ?_, by simp; omega, by simp⟩
          unfold s33_l20
          have hlt2 : decide ((x : Int) < (((((t.offices.length : Nat) : Int)).toNat : Nat) : Int)) = true := decide_eq_true (by rw [en]; omega)
          subst hpl
          simp only [ct, hlt2, if_true, en, hin, bind_some', hrep, set_mid, hck]
          unfold reach1
          cases hxa : ((pre.length : Int) == a) with
          | true => simp <;> omega
          | false =>
            simp only [Bool.false_eq_true, if_false, s78_eq L G a (pre.length : Int) a0 a1, bind_some']
            have hb := (best_in G a (pre.length : Int) a0 a1).1
            by_cases h : (bestV t a (pre.length : Int) at').til = 2880
            · have h1 : decide ((bestV t a (pre.length : Int) at').til < 2880) = false := decide_eq_false (by omega)
              have h2 : ((bestV t a (pre.length : Int) at').til == 2880) = true := by simpa using h
              rw [h1, h2]; simp <;> omega
            · have h1 : decide ((bestV t a (pre.length : Int) at').til < 2880) = true := decide_eq_true (by omega)
              have h2 : ((bestV t a (pre.length : Int) at').til == 2880) = false := by simpa using h
              rw [h1, h2]; simp <;> omega)
        N (by simp; omega) [] (by simp)
      have hmk : mkC 8 (t.offices.length : Int) = some () := if_pos ⟨by omega, by omega, by omega⟩
      have main' : iter (s33_l20 N a at' (calcOf t, 0)) N (0, calcOf t, List.replicate t.offices.length 0) = _ := main
      have hpos : posC t.offices.length = some () := if_pos (by omega)
      have hlc : lenC t.offices.length ((List.range t.offices.length).map (reach1 t a at')) = some () := if_pos (by simp)
      simp only [if_true, e, Bool.false_eq_true, if_false, ct, en, hmk, bind_some', main', hpos, hlc, Bool.and_self, List.nil_append]
end Go.Abs.Tr

namespace Go.Abs.Tr
open Go Go.Abs
set_option linter.unusedSimpArgs false
set_option linter.unusedVariables false

/-! ## Stops stand in the order of time -/
theorem stopsV_from {n : Int} : ∀ (l : List Stop) (f : Int), stopsV n f l = true → ∀ (j : Nat) y, l[j]? = some y → f ≤ y.arrive := by
  intro l
  induction l with
  | nil => intro f _ j y h; simp at h
  | cons x l ih =>
    intro f hv j y h
    simp only [stopsV, Bool.and_eq_true, amid_iff] at hv
    cases j with
    | zero => simp at h; subst h; omega
    | succ j =>
      have := ih _ hv.2 j y (by simpa using h)
      omega
theorem stopsV_ord {n : Int} : ∀ (l : List Stop) (f : Int), stopsV n f l = true → ∀ (i j : Nat) x y, i < j → l[i]? = some x → l[j]? = some y → x.leave < y.arrive := by
  intro l
  induction l with
  | nil => intro f _ i j x y _ h; simp at h
  | cons z l ih =>
    intro f hv i j x y hij hx hy
    simp only [stopsV, Bool.and_eq_true, amid_iff] at hv
    obtain ⟨j, rfl⟩ : ∃ k, j = k + 1 := ⟨j - 1, by omega⟩
    cases i with
    | zero =>
      simp at hx; subst hx
      have := stopsV_from _ _ hv.2 j y (by simpa using hy)
      omega
    | succ i => exact ih _ hv.2 i j x y (by omega) (by simpa using hx) (by simpa using hy)
theorem Good.ord {t : Table} (G : Good t) {x : Leg} (h : LegV t x) : (sf t x).leave < (sg t x).arrive := by
  have g := (G.ts _ h.mt).ord
  have h1 := (ix_some h.ixf).2
  have h2 := (ix_some h.ixg).2
  have := h.f0
  have := h.f1
  exact stopsV_ord _ _ g _ _ _ _ (by omega) h1 h2

/-! ## A box that surely goes -/
def tailOk (t : Table) : List Leg → Bool
  | [] => true
  | x :: l => (mis t ((sg t x).arrive + (tr t x).late.high) l).all fun b => !b
def lastM (t : Table) (l : List Leg) : Int := match l.head? with
  | none => 0
  | some x => (sf t x).leave + (tr t x).late.low - t.load
theorem goes2 {t : Table} (G : Good t) {l : List Leg} (hr : legsV t l = true) (u : Int) : (goesV t u l == 2) = ((isOp (ofc t (rF t l)) u && decide (u ≤ lastM t l)) && tailOk t l) := by
  obtain ⟨hl, hlegs⟩ := legsV_legs hr
  have hmis : ((mis t u l).all fun b => !b) = (decide (u ≤ lastM t l) && tailOk t l) := by
    cases l with
    | nil => simp at hl
    | cons x l =>
      have elm : lastM t (x :: l) = (sf t x).leave + (tr t x).late.low - t.load := rfl
      have e1 : (!(decide (u + t.load > (sf t x).leave + (tr t x).late.low))) = decide (u ≤ lastM t (x :: l)) := by
        by_cases h : u + t.load > (sf t x).leave + (tr t x).late.low
        · rw [decide_eq_true h, decide_eq_false (by rw [elm]; omega)]; rfl
        · rw [decide_eq_false h, decide_eq_true (by rw [elm]; omega)]; rfl
      simp only [mis, List.all_cons, tailOk, e1]
  unfold goesV
  cases ho : isOp (ofc t (rF t l)) u with
  | false => simp
  | true =>
    cases hm : (mis t u l).all fun b => !b with
    | true =>
      have := sure_arr l ⟨u, u⟩ (fun x hx => (G.leg (hlegs x hx)).1.2.1) (Int.le_refl _) hm
      rw [hm] at hmis
      simp [this, ← hmis]
    | false =>
      rw [hm] at hmis
      cases (arr t ⟨u, u⟩ l).isSome <;> simp [← hmis]
theorem arr_high {t : Table} : ∀ (l : List Leg) (s s' : Span), arr t s l = some s' → s'.high = (match l.getLast? with | none => s.high | some y => (sg t y).arrive + (tr t y).late.high) := by
  intro l
  induction l with
  | nil => intro s s' h; injection h with h; rw [← h]; rfl
  | cons x l ih =>
    intro s s' h
    unfold arr at h
    split at h
    · cases h
    · have := ih _ _ h
      rw [this, List.getLast?_cons]
      cases l.getLast? <;> rfl
theorem arr_grow {t : Table} (G : Good t) : ∀ (l : List Leg) (s s' : Span), (∀ x ∈ l, LegV t x) → ((mis t s.high l).all fun b => !b) = true → arr t s l = some s' → s.high ≤ s'.high := by
  intro l
  induction l with
  | nil => intro s s' _ _ h; injection h with h; rw [h]; exact Int.le_refl _
  | cons x l ih =>
    intro s s' hl hm h
    unfold mis at hm
    simp only [List.all_cons, Bool.and_eq_true, Bool.not_eq_true', decide_eq_false_iff_not] at hm
    have hx := hl x List.mem_cons_self
    have ho := G.ord hx
    have hg := (G.leg hx).1
    have ga := G.a0
    unfold arr at h
    split at h
    · cases h
    · have := ih _ _ (fun y hy => hl y (List.mem_cons_of_mem _ hy)) hm.2 h
      have this' : (sg t x).arrive + (tr t x).late.high ≤ s'.high := this
      omega
theorem high_same {t : Table} {l : List Leg} (hl : l ≠ []) {u v : Int} {p q : Span} (hp : arr t ⟨u, u⟩ l = some p) (hq : arr t ⟨v, v⟩ l = some q) : (whn t u l).high = (whn t v l).high := by
  have h1 := arr_high l _ _ hp
  have h2 := arr_high l _ _ hq
  obtain ⟨y, hy⟩ : ∃ y, l.getLast? = some y := by
    cases h : l.getLast? with
    | none => exact absurd (List.getLast?_eq_none_iff.1 h) hl
    | some y => exact ⟨y, rfl⟩
  rw [hy] at h1 h2
  unfold whn
  rw [hp, hq]
  show openR _ (p.high + t.load) = openR _ (q.high + t.load)
  rw [h1, h2]
theorem high_ge {t : Table} (G : Good t) {l : List Leg} (hr : legsV t l = true) {u : Int} (u0 : 0 ≤ u) (u1 : u ≤ 2879) (hg : (goesV t u l == 2) = true) : u ≤ (whn t u l).high := by
  obtain ⟨hl, hlegs⟩ := legsV_legs hr
  have hg0 : (goesV t u l == 0) = false := by
    have : goesV t u l = 2 := by simpa using hg
    rw [this]; rfl
  obtain ⟨_, s, hs⟩ := goesV_arr hg0
  have hm : ((mis t u l).all fun b => !b) = true := by
    have : goesV t u l = 2 := by simpa using hg
    unfold goesV at this
    split at this
    · split at this
      · next h => exact h
      · simp at this
    · simp at this
  have h1 := arr_grow G l ⟨u, u⟩ s hlegs hm hs
  have h1' : u ≤ s.high := h1
  obtain ⟨ht0, ht1⟩ := G.to' hr
  obtain ⟨_, _, o3⟩ := G.ofc ht0 ht1
  have ga0 := G.a0
  unfold whn
  rw [hs]
  show u ≤ openR (ofc t (rT t l)) (s.high + t.load)
  by_cases h : s.high + t.load ≤ 2880
  · have := open_ge _ 0 (s.high + t.load) o3 h
    omega
  · rw [open_late _ 0 _ o3 (by omega)]
    omega

/-! ## Looking back for a minute in which an office is open -/
def dn (p : Int → Bool) (f : Int) : Nat → Int → Int
  | 0, s => s
  | n + 1, s => if decide (s > f) && !p s then dn p f n (s - 1) else s
theorem dn_ok (p : Int → Bool) (f : Int) : ∀ (n : Nat) (s : Int), (s - f).toNat ≤ n → dn p f n s ≤ s ∧ (dn p f n s ≤ f ∨ p (dn p f n s) = true) ∧ (∀ m, dn p f n s < m → m ≤ s → p m = false) := by
  intro n
  induction n with
  | zero => intro s h; exact ⟨Int.le_refl _, .inl (by show s ≤ f; omega), fun m h1 h2 => by have : s < m := h1; omega⟩
  | succ n ih =>
    intro s h
    unfold dn
    by_cases hs : s > f
    · cases hp : p s with
      | true =>
        rw [decide_eq_true hs]
        exact ⟨Int.le_refl _, .inr hp, fun m h1 h2 => by have : s < m := h1; omega⟩
      | false =>
        rw [decide_eq_true hs]
        simp only [Bool.not_false, Bool.and_self, if_true]
        obtain ⟨a, b, c⟩ := ih (s - 1) (by omega)
        refine ⟨by omega, b, fun m h1 h2 => ?_⟩
        by_cases hm : m = s
        · rw [hm]; exact hp
        · exact c m h1 (by omega)
    · rw [decide_eq_false hs]
      exact ⟨Int.le_refl _, .inl (by show s ≤ f; omega), fun m h1 h2 => by have : s < m := h1; omega⟩
def back (t : Table) (a f s : Int) : Int := dn (isOp (ofc t a)) f (s - f).toNat s
theorem scanP {N : Nat} {t : Table} (L : Lens N t) (G : Good t) {a : Int} (b0 : 0 ≤ a) (b1 : a < t.offices.length) {f s : Int} (hf : -1 ≤ f) (h1 : s ≤ 2879) (h0 : -100000 ≤ s) (k : Int) : iter (s31_l20 N a (calcOf t, k) f) N s = some (back t a f s) := by
  obtain ⟨o1, o2, o3⟩ := G.ofc b0 b1
  have hN := L.n4
  have main : ∀ (n : Nat) (M : Nat) (s : Int), (s - f).toNat = n → n < M → s ≤ 2879 → -100000 ≤ s → iter (s31_l20 N a (calcOf t, k) f) M s = some (dn (isOp (ofc t a)) f n s) := by
    intro n
    induction n with
    | zero =>
      intro M s hn hM h1 h0
      obtain ⟨M, rfl⟩ : ∃ K, M = K + 1 := ⟨M - 1, by omega⟩
      have e : s31_l20 N a (calcOf t, k) f s = some (.inr s) := by
        unfold s31_l20
        rw [decide_eq_false (show ¬ s > f by omega)]
        rfl
      unfold iter
      rw [e]; rfl
    | succ n ih =>
      intro M s hn hM h1 h0
      obtain ⟨M, rfl⟩ : ∃ K, M = K + 1 := ⟨M - 1, by omega⟩
      have hs : s > f := by omega
      have e : s31_l20 N a (calcOf t, k) f s = some (if !isOp (ofc t a) s then .inl (s - 1) else .inr s) := by
        unfold s31_l20
        rw [decide_eq_true hs]
        simp only [if_true, s69_eq o1 o2 hN, bind_some']
        cases isOp (ofc t a) s with
        | true => rfl
        | false => simp only [Bool.not_false, if_true, ck_ok (n := s - 1) (by omega), bind_some']
      unfold iter dn
      rw [e, decide_eq_true hs]
      cases isOp (ofc t a) s with
      | true => rfl
      | false =>
        simp only [Bool.not_false, Bool.and_self, if_true, bind_some']
        exact ih M (s - 1) (by omega) (by omega) (by omega) (by omega)
  exact main _ N s rfl (by omega) h1 h0
end Go.Abs.Tr

namespace Go.Abs.Tr
open Go Go.Abs
set_option linter.unusedSimpArgs false
set_option linter.unusedVariables false

/-- One route, by the program and by the specification. -/
def yP (t : Table) (a by' s : Int) (r : List Leg) : Int :=
  if (decide (back t a s (mn by' (lastM t r)) > s) && (goesV t (back t a s (mn by' (lastM t r))) r == 2)) && decide ((whn t (back t a s (mn by' (lastM t r))) r).high ≤ by') then back t a s (mn by' (lastM t r)) else s
theorem mn_le (a b : Int) : mn a b ≤ a ∧ mn a b ≤ b := by simp only [mn]; split <;> omega
theorem mn_ge {a b c : Int} (h : c ≤ a) (k : c ≤ b) : c ≤ mn a b := by simp only [mn]; split <;> omega
end Go.Abs.Tr

namespace Go.Abs.Tr
open Go Go.Abs
set_option linter.unusedSimpArgs false
set_option linter.unusedVariables false

theorem yP_in {t : Table} {a by' s : Int} (b1 : by' ≤ 2879) (h : -1 ≤ s ∧ s ≤ 2879) (r : List Leg) : -1 ≤ yP t a by' s r ∧ yP t a by' s r ≤ 2879 := by
  have p := (dn_ok (isOp (ofc t a)) s (mn by' (lastM t r) - s).toNat (mn by' (lastM t r)) (Nat.le_refl _)).1
  have m := mn_le by' (lastM t r)
  have p' : back t a s (mn by' (lastM t r)) ≤ mn by' (lastM t r) := p
  unfold yP
  split
  · next h2 =>
    simp only [Bool.and_eq_true, decide_eq_true_eq] at h2
    omega
  · exact h
theorem lastM_in {t : Table} (G : Good t) {r : List Leg} (hr : legsV t r = true) : -60 ≤ lastM t r ∧ lastM t r ≤ 3000 := by
  obtain ⟨hl, hlegs⟩ := legsV_legs hr
  cases r with
  | nil => simp at hl
  | cons x l =>
    obtain ⟨⟨a1, a2, a3⟩, ⟨a4, a5⟩, _⟩ := G.leg (hlegs x List.mem_cons_self)
    have := G.a0
    have := G.a1
    show -60 ≤ (sf t x).leave + (tr t x).late.low - t.load ∧ (sf t x).leave + (tr t x).late.low - t.load ≤ 3000
    omega
theorem y31_eq {N : Nat} {t : Table} (L : Lens N t) (G : Good t) {a by' s : Int} (c0 : 0 ≤ a) (c1 : a < t.offices.length) (b0 : 0 ≤ by') (b1 : by' ≤ 2879) (hs : -1 ≤ s ∧ s ≤ 2879) {r : List Leg} (hr : legsV t r = true) (k : Int) :
    y31_0 N a by' (calcOf t, k) s r = some (yP t a by' s r) := by
  obtain ⟨hl, hlegs⟩ := legsV_legs hr
  have hm := lastM_in G hr
  have m1 := mn_le by' (lastM t r)
  have m2 := mn_ge (a := by') (b := lastM t r) (c := -100) (by omega) (by omega)
  have p1 := (dn_ok (isOp (ofc t a)) s (mn by' (lastM t r) - s).toNat (mn by' (lastM t r)) (Nat.le_refl _)).1
  have p' : back t a s (mn by' (lastM t r)) ≤ mn by' (lastM t r) := p1
  have sc := scanP L G c0 c1 (f := s) (s := mn by' (lastM t r)) hs.1 (by omega) (by omega) k
  cases hrr : r with
  | nil => rw [hrr] at hl; simp at hl
  | cons x l =>
    rw [← hrr]
    have hx := hlegs x (by rw [hrr]; exact List.mem_cons_self)
    obtain ⟨⟨a1, a2, a3⟩, ⟨a4, a5⟩, _⟩ := G.leg hx
    have ga0 := G.a0
    have ga1 := G.a1
    have i0 : ix r 0 = some x := by rw [hrr]; rfl
    have elm : lastM t r = (sf t x).leave + (tr t x).late.low - t.load := by rw [hrr]; rfl
    have ct : (calcOf t).t = t := rfl
    unfold y31_0
    simp only [i0, bind_some', hx.s83, hx.s127, ct, ck_ok (n := (sf t x).leave + (tr t x).late.low) (by omega), ck_ok (n := lastM t r) (by omega), ← elm, sc]
    unfold yP
    generalize back t a s (mn by' (lastM t r)) = u at p' ⊢
    by_cases hu : u > s
    · rw [decide_eq_true hu]
      simp only [if_true, s65_eq L G hr (at' := u) (by omega) (by omega), bind_some', Bool.true_and]
      cases hg : goesV t u r == 2 with
      | false => simp
      | true =>
        have hg0 : (goesV t u r == 0) = false := by
          have : goesV t u r = 2 := by simpa using hg
          rw [this]; rfl
        obtain ⟨_, q, hq⟩ := goesV_arr hg0
        simp only [if_true, s75_eq L G hr (at' := u) (by omega) (by omega) hq, bind_some', Bool.true_and, whn, hq, spn]
        cases decide ((whenV t r q).high ≤ by') <;> rfl
    · rw [decide_eq_false hu]
      simp
def lateV (t : Table) (a b by' : Int) : Int := (rts t a b).foldl (yP t a by') (-1)
def lateR (t : Table) (a b by' : Int) : Int × Int :=
  if V t && betw t a b by' then (if decide (lateV t a b by' < 0) then (0, 4) else (lateV t a b by', 0)) else (0, askV t (betw t a b by'))
theorem betw_from {t : Table} {a b at' : Int} (h : betw t a b at' = true) : 0 ≤ a ∧ a < t.offices.length := by
  have := (betw_iff h).2.2.1
  simp only [pairV, Bool.and_eq_true, amid_iff] at this
  omega
theorem s31_eq {N : Nat} {t : Table} (L : Lens N t) (a b by' : Int) : s31 N t a b by' = some (lateR t a b by') := by
  unfold s31 lateR askV
  rw [s77_eq L, bind_some']
  cases hv : V t with
  | false => rfl
  | true =>
    cases ha : betw t a b by' with
    | false => rfl
    | true =>
      have G := good_of hv
      obtain ⟨_, ⟨b0, b1⟩, _⟩ := betw_iff ha
      obtain ⟨c0, c1⟩ := betw_from ha
      have e : (!((0 : Int) == 0)) = false := rfl
      have main := itS_eq (N := N) (t := t) (frm := a) (to := b) (Y := fun s x => (y31_0 N a by' (calcOf t, 0) s x).map (fun s => (s, true))) (y := yP t a by') (I := fun s => -1 ≤ s ∧ s ≤ 2879) L G
        (fun s r hs hr h1 h4 _ => ⟨by rw [y31_eq L G c0 c1 b0 b1 hs (hr.legsV h1 h4)]; rfl, yP_in b1 hs r⟩) (-1) ⟨by omega, by omega⟩
      simp only [if_true, e, Bool.false_eq_true, if_false, s81, bind_some', main, Bool.and_self]
      show (if decide (lateV t a b by' < 0) = true then _ else _) = _
      cases decide (lateV t a b by' < 0) <;> rfl
end Go.Abs.Tr
