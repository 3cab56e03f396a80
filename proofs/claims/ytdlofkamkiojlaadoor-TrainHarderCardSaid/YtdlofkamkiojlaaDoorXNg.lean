/- Plain law: what the outright statements use: sound. Plain law: what the outright statements use: opens, Turn, Pick, Choose. Plain law: what the outright statements use: Turn, Pick, Choose, lates. Plain law: every route is found; lates; what is carried. Plain law: how late trains truly are, and what is carried. Plain law: a route that numbers choose, and that a route leads from one station to another one. Plain law: the best route of all, the soonest and the last minute. Conditions: none. -/
import Derived.Test.YtdlofkamkiojlaaDoorXMk
import Derived.Test.YtdlofkamkiojlaaDoorXGl
namespace Go.Abs.Tr
open Go Go.Abs
set_option linter.unusedSimpArgs false
set_option linter.unusedVariables false

theorem iter_stop {S T : Type} {f : S → Option (S ⊕ T)} {N : Nat} (hN : 0 < N) {s : S} {r : T} (h : f s = some (.inr r)) : iter f N s = some r := by
  obtain ⟨M, rfl⟩ : ∃ K, N = K + 1 := ⟨N - 1, by omega⟩
  unfold iter
  rw [h]; rfl
/-- The statement's own test of a timetable: it is right. -/
theorem s35_false {N : Nat} {t : Table} (L : Lens N t) (hv : V t = false) : s35 N t = some false := by
  have hN := L.n4
  unfold s35
  have e1 : ((30 : Int) == 0) = false := rfl
  simp only [s14_eq L, hv, bind_some', Bool.false_eq_true, if_false, e1, Bool.false_and]
  rw [iter_stop (f := s35_l33 N t) (by omega) (r := false) rfl, bind_some', iter_stop (f := s35_l66 N t) (by omega) (r := false) rfl]
  rfl
theorem officeV_legal : ∀ (l : List Span) (f : Int), 0 ≤ f → officeV f l = true → ∀ s ∈ l, legal s 0 2879 = true := by
  intro l
  induction l with
  | nil => intro f _ _ s h; cases h
  | cons x l ih =>
    intro f hf hv s hs
    simp only [officeV, Bool.and_eq_true, legal_iff] at hv
    rcases List.mem_cons.1 hs with rfl | hs
    · exact legal_iff.2 (by omega)
    · exact ih _ (by omega) hv.2 s hs
theorem s35_true {N : Nat} {t : Table} (L : Lens N t) (hv : V t = true) : s35 N t = some true := by
  have hN := L.n4
  have G := good_of hv
  have hv' := hv
  simp only [V, Bool.and_eq_true] at hv'
  obtain ⟨⟨⟨⟨h1, h2⟩, h3⟩, _⟩, _⟩ := hv'
  have m1 := iter_list (f := s35_l33 N t) (S := Unit) (fun _ i => (true, i)) t.offices L.o (fun _ l => ∀ x ∈ l, x ∈ t.offices) (fun _ _ => true)
    (fun s _ => by
      unfold s35_l33
      have : decide (((t.offices.length : Nat) : Int) < (t.offices.length : Int)) = false := by simp
      simp only [this, Bool.and_false]
      rfl)
    (fun i x r s hd hi hlt hck hI => by
      left
      have hx := hI x List.mem_cons_self
      obtain ⟨h3, ho⟩ := G.os x hx
      have inner := iter_list (f := s35_l31 N t (true, (i : Int))) (S := Unit) (fun _ k => (true, k)) x (by unfold big; omega) (fun _ l => ∀ y ∈ l, y ∈ x) (fun _ _ => true)
        (fun s _ => by
          unfold s35_l31
          have : decide (((x.length : Nat) : Int) < (x.length : Int)) = false := by simp
          simp only [if_true, hi, bind_some', this]
          rfl)
        (fun k y r s hd2 hi2 hlt2 hck2 hJ => by
          left
          refine ⟨(), ?_, fun z hz => hJ z (List.mem_cons_of_mem _ hz), rfl⟩
          unfold s35_l31
          simp only [if_true, hi, bind_some', decide_eq_true hlt2, hi2, s62_eq, officeV_legal x 0 (Int.le_refl _) ho y (hJ y List.mem_cons_self), hck2])
        N (by omega) () (fun _ h => h)
      refine ⟨(), ?_, fun z hz => hI z (List.mem_cons_of_mem _ hz), rfl⟩
      unfold s35_l33
      have hd3 : decide ((x.length : Int) ≤ 3) = true := decide_eq_true (by omega)
      simp only [hlt, decide_true, Bool.and_self, if_true, hi, bind_some', hd3, inner, hck])
    N L.no () (fun _ h => h)
  have m2 := iter_list (f := s35_l66 N t) (S := Unit) (fun _ i => (true, i)) t.trains L.tr (fun _ l => ∀ x ∈ l, x ∈ t.trains) (fun _ _ => true)
    (fun s _ => by
      unfold s35_l66
      have : decide (((t.trains.length : Nat) : Int) < (t.trains.length : Int)) = false := by simp
      simp only [this, Bool.and_false]
      rfl)
    (fun i x r s hd hi hlt hck hI => by
      left
      have hx := hI x List.mem_cons_self
      have gt := G.ts x hx
      have inner := iter_list (f := s35_l64 N t) (S := Unit) (fun _ k => (true, k, x)) x.stops (L.ts x hx) (fun _ l => ∀ y ∈ l, y ∈ x.stops) (fun _ _ => true)
        (fun s _ => by
          unfold s35_l64
          have : decide (((x.stops.length : Nat) : Int) < (x.stops.length : Int)) = false := by simp
          simp only [this, Bool.and_false]
          rfl)
        (fun k y r s hd2 hi2 hlt2 hck2 hJ => by
          left
          obtain ⟨a1, a2, a3, a4, a5⟩ := gt.st y (hJ y List.mem_cons_self)
          have e1 : amid y.station 0 ((t.offices.length : Int) - 1) = true := amid_iff.2 (by omega)
          have e2 : amid y.arrive 0 2879 = true := amid_iff.2 (by omega)
          have e3 : amid y.leave y.arrive 2879 = true := amid_iff.2 (by omega)
          refine ⟨(), ?_, fun z hz => hJ z (List.mem_cons_of_mem _ hz), rfl⟩
          unfold s35_l64
          simp only [decide_eq_true hlt2, Bool.and_self, if_true, hi2, bind_some', ck_len L.o, s47_eq, e1, e2, e3, hck2])
        N (L.nts x hx) () (fun _ h => h)
      have e4 : amid x.stops.length 2 5 = true := amid_iff.2 (by have := gt.n2; have := gt.n5; omega)
      have e5 : legal x.late 0 90 = true := legal_iff.2 (by have := gt.l0; have := gt.l1; have := gt.l2; omega)
      refine ⟨(), ?_, fun z hz => hI z (List.mem_cons_of_mem _ hz), rfl⟩
      unfold s35_l66
      simp only [hlt, decide_true, Bool.and_self, if_true, hi, bind_some', s47_eq, s62_eq, e4, e5, inner, hck])
    N L.nt () (fun _ h => h)
  unfold s35
  have e1 : ((0 : Int) == 0) = true := rfl
  simp only [s14_eq L, hv, bind_some', if_true, e1, s47_eq, h1, h2, h3, Bool.and_self, m1, m2]
end Go.Abs.Tr

namespace Go.Abs.Tr
open Go Go.Abs
set_option linter.unusedSimpArgs false
set_option linter.unusedVariables false

theorem openR_cons (x : Span) (l : List Span) (m : Int) : openR (x :: l) m = if m ≤ x.high then mx m x.low else openR l m := by
  have e : openO m (x :: l) = if m ≤ x.high then .inr (mx m x.low) else openO m l := rfl
  unfold openR
  rw [e]
  by_cases h : m ≤ x.high
  · rw [if_pos h, if_pos h]
  · rw [if_neg h, if_neg h]
theorem open_low : ∀ (l : List Span) (f m : Int), officeV f l = true → openR l m = 2880 ∨ f ≤ openR l m := by
  intro l
  induction l with
  | nil => intro f m _; exact .inl rfl
  | cons x l ih =>
    intro f m hv
    simp only [officeV, Bool.and_eq_true, legal_iff] at hv
    rw [openR_cons]
    split
    · right
      have := mx_ge m x.low
      omega
    · rcases ih _ m hv.2 with h | h
      · exact .inl h
      · right; omega
theorem open_fold : ∀ (l : List Span) (f m out : Int), officeV f l = true → out ≤ 2880 →
    l.foldl (fun o s => if m ≤ s.high then mn o (mx m s.low) else o) out = mn out (openR l m) := by
  intro l
  induction l with
  | nil =>
    intro f m out _ h
    show out = mn out 2880
    simp only [mn]; split <;> omega
  | cons x l ih =>
    intro f m out hv h
    have hv' := hv
    simp only [officeV, Bool.and_eq_true, legal_iff] at hv
    rw [List.foldl_cons, openR_cons]
    by_cases hm : m ≤ x.high
    · rw [if_pos hm, if_pos hm, ih _ m _ hv.2 (by have := mn_le out (mx m x.low); omega)]
      have h1 : mx m x.low ≤ x.high := mx_le hm (by omega)
      rcases open_low l _ m hv.2 with h2 | h2
      · rw [h2]; simp only [mn]; split <;> split <;> omega
      · generalize openR l m = z at h2 ⊢
        simp only [mn]; split <;> split <;> (try split) <;> omega
    · rw [if_neg hm, if_neg hm]
      exact ih _ m out hv.2 h
theorem s38_eq {N : Nat} (hN : 5000 ≤ N) {l : List Span} (h3 : l.length ≤ 3) (hv : officeV 0 l = true) {m : Int} (h0 : m ≤ 2880) : s38 N l m = some (openR l m) := by
  have main := iter_list (f := s38_l11 N l m) (S := Int) (fun s i => (s, i)) l (by unfold big; omega) (fun _ _ => True) (fun s r => r.foldl (fun o s => if m ≤ s.high then mn o (mx m s.low) else o) s)
    (fun s _ => by
      unfold s38_l11
      have : decide (((l.length : Nat) : Int) < (l.length : Int)) = false := by simp
      simp only [this]
      rfl)
    (fun i y r s hd hi hlt hck _ => by
      left
      refine ⟨if m ≤ y.high then mn s (mx m y.low) else s, ?_, trivial, rfl⟩
      unfold s38_l11
      simp only [hlt, decide_true, if_true, hi, bind_some', hck]
      by_cases h : m ≤ y.high <;> simp [h])
    N (by omega) 2880 trivial
  unfold s38
  rw [main, bind_some', open_fold l 0 m 2880 hv (Int.le_refl _)]
  congr 1
  have := open_ge l 0 m hv h0
  simp only [mn]; split <;> omega
end Go.Abs.Tr

namespace Go.Abs.Tr
open Go Go.Abs
set_option linter.unusedSimpArgs false
set_option linter.unusedVariables false

def turnV (n m : Int) : Int := if m < 1 then 0 else if n.tmod m < 0 then n.tmod m + m else n.tmod m
theorem tmod_in (n : Int) {m : Int} (h : 1 ≤ m) : -m < n.tmod m ∧ n.tmod m < m := by
  constructor
  · rcases Int.le_total 0 n with h0 | h0
    · have := Int.tmod_nonneg m h0
      omega
    · have h1 := Int.tmod_lt_of_pos (-n) (show 0 < m by omega)
      rw [Int.neg_tmod] at h1
      omega
  · exact Int.tmod_lt_of_pos n (by omega)
theorem turn_in (n : Int) {m : Int} (h : 1 ≤ m) : 0 ≤ turnV n m ∧ turnV n m < m := by
  have := tmod_in n h
  unfold turnV
  rw [if_neg (by omega)]
  split <;> omega
theorem s36_eq (N : Nat) (n : Int) {m : Int} (hm : m ≤ 9223372036854775807) : s36 N n m = some (turnV n m) := by
  unfold s36 turnV
  by_cases h : m < 1
  · rw [decide_eq_true h, if_pos h]; rfl
  · rw [decide_eq_false h, if_neg h]
    have := tmod_in n (show 1 ≤ m by omega)
    have e : remC n m = some (n.tmod m) := if_neg (by omega)
    simp only [Bool.false_eq_true, if_false, e, bind_some']
    by_cases h2 : n.tmod m < 0
    · simp only [decide_eq_true h2, if_true, if_pos h2, ck_ok (n := n.tmod m + m) (by omega), bind_some']
    · simp only [decide_eq_false h2, Bool.false_eq_true, if_false, if_neg h2, bind_some']
def pickV (l : List Int) (n : Int) : Int := if l.length = 0 then 0 else (l[(turnV n l.length).toNat]?).getD default
theorem s88_eq (N : Nat) {l : List Int} (hl : l.length ≤ big) (n : Int) : s88 N l n = some (pickV l n) := by
  unfold s88 pickV
  by_cases h : l.length = 0
  · have e : ((l.length : Int) == 0) = true := by simp [h]
    rw [e, if_pos h]; rfl
  · have e : ((l.length : Int) == 0) = false := by simp; intro h2; exact h (by simp [h2])
    have t := turn_in n (show 1 ≤ (l.length : Int) by omega)
    rw [e, if_neg h]
    simp only [Bool.false_eq_true, if_false, s36_eq N n (m := (l.length : Int)) (by unfold big at hl; omega), bind_some', (ix_in t.1 t.2).1]
/-- A number of a span. -/
theorem s45_in (N : Nat) {s : Span} (h0 : 0 ≤ s.low) (h1 : s.high ≤ 3000) (n : Int) : ∃ v, s45 N s n = some v ∧ (s.low ≤ s.high → s.low ≤ v ∧ v ≤ s.high) ∧ (s.high < s.low → v = s.low) := by
  unfold s45 s89
  by_cases h : s.low > s.high
  · exact ⟨s.low, by simp [bind_some', h], fun h2 => by omega, fun _ => rfl⟩
  · have t := turn_in n (show 1 ≤ s.high - s.low + 1 by omega)
    refine ⟨s.low + turnV n (s.high - s.low + 1), ?_, fun _ => by omega, fun h2 => by omega⟩
    simp only [bind_some', decide_eq_false h, Bool.false_eq_true, if_false, ck_ok (n := s.high - s.low) (by omega), ck_ok (n := s.high - s.low + 1) (by omega), s36_eq N n (m := s.high - s.low + 1) (by omega), ck_ok (n := s.low + turnV n (s.high - s.low + 1)) (by omega)]
end Go.Abs.Tr

namespace Go.Abs.Tr
open Go Go.Abs
set_option linter.unusedSimpArgs false
set_option linter.unusedVariables false

/-- A loop with a state that keeps a property, and a measure that falls. -/
theorem iter_inv {S T : Type} {f : S → Option (S ⊕ T)} (I : S → Prop) (R : T → Prop) (μ : S → Nat)
    (h : ∀ s, I s → (∃ s', f s = some (.inl s') ∧ I s' ∧ μ s' < μ s) ∨ ∃ r, f s = some (.inr r) ∧ R r) : ∀ (N : Nat) (s : S), I s → μ s < N → ∃ r, iter f N s = some r ∧ R r := by
  intro N
  induction N with
  | zero => intro s _ h2; omega
  | succ N ih =>
    intro s hs hN
    unfold iter
    rcases h s hs with ⟨s', e, hI, hm⟩ | ⟨r, e, hr⟩
    · obtain ⟨r, e2, hr⟩ := ih s' hI (by omega)
      exact ⟨r, by rw [e]; exact e2, hr⟩
    · exact ⟨r, by rw [e]; rfl, hr⟩

/-! ## Every route is found -/
theorem mem_allLegs {t : Table} {x : Leg} (h : LegV t x) : ((sf t x).station, x) ∈ allLegs t := by
  have h1 := (ix_some h.ixt).2
  have h2 := (ix_some h.ixf).2
  have t0 := h.t0
  have f0 := h.f0
  have f1 := h.f1
  have f2 := h.f2
  simp only [allLegs, List.mem_flatten, List.mem_map]
  refine ⟨trainLegs x.train.toNat (tr t x), ⟨(tr t x, x.train.toNat), List.mem_zipIdx_iff_getElem?.2 h1, rfl⟩, ?_⟩
  simp only [trainLegs, List.mem_flatten, List.mem_map]
  refine ⟨(stopLegs x.train.toNat x.frm.toNat (tr t x).stops.length).map fun l => ((sf t x).station, l), ⟨(sf t x, x.frm.toNat), List.mem_zipIdx_iff_getElem?.2 h2, rfl⟩, ?_⟩
  refine List.mem_map.2 ⟨x, ?_, rfl⟩
  simp only [stopLegs, List.mem_map, List.mem_range'_1]
  refine ⟨x.to.toNat, ⟨by omega, by omega⟩, ?_⟩
  obtain ⟨a, b, c⟩ := x
  simp only at t0 f0 f1 ⊢
  congr 1 <;> omega
theorem mem_lk_of {t : Table} {x : Leg} (h : LegV t x) {q : Int} (hq : (sf t x).station = q) : x ∈ lk (calcOf t).m q := by
  rw [lk_calc]
  exact List.mem_map.2 ⟨((sf t x).station, x), List.mem_filter.2 ⟨mem_allLegs h, by simp [hq]⟩, rfl⟩
theorem mem_lev {t : Table} {frm : Int} : ∀ (l pre : List Leg), chainV t pre l = true → (∀ x, (pre ++ l).head? = some x → (sf t x).station = frm) → pre ++ l ∈ lev t frm l.length pre := by
  intro l
  induction l with
  | nil => intro pre _ _; simp [lev]
  | cons x l ih =>
    intro pre h hf
    simp only [chainV, Bool.and_eq_true, decide_eq_true_eq] at h
    obtain ⟨⟨⟨h1, h2⟩, h3⟩, h4⟩ := h
    have hat : (sf t x).station = atE t frm pre := by
      unfold atE
      unfold linkV at h3
      cases hg : pre.getLast? with
      | none =>
        have : pre = [] := List.getLast?_eq_none_iff.1 hg
        subst this
        exact hf x rfl
      | some y => rw [hg] at h3; exact (by simpa using h3 : (sg t y).station = (sf t x).station).symm
    simp only [lev, List.length_cons, List.mem_flatMap]
    refine ⟨pre ++ [x], ?_, ?_⟩
    · exact List.mem_map.2 ⟨x, List.mem_filter.2 ⟨mem_lk_of h1 hat, h2⟩, rfl⟩
    · have := ih (pre ++ [x]) h4 (by rw [List.append_assoc]; exact hf)
      rwa [List.append_assoc] at this
theorem mem_rts {t : Table} {r : List Leg} (hr : legsV t r = true) : r ∈ rts t (rF t r) (rT t r) := by
  have hr' := hr
  simp only [legsV, Bool.and_eq_true, amid_iff] at hr'
  obtain ⟨⟨h1, h4⟩, hc⟩ := hr'
  have hne : r ≠ [] := fun e => by rw [e] at h1; simp at h1
  have hm := mem_lev (frm := rF t r) r [] hc (fun x hx => by
    have : r.head? = some x := hx
    simp [rF, this])
  rw [List.nil_append] at hm
  unfold rts
  refine List.mem_flatMap.2 ⟨r.length - 1, List.mem_range.2 (by omega), List.mem_filter.2 ⟨?_, ?_⟩⟩
  · rw [show r.length - 1 + 1 = r.length by omega]; exact hm
  · unfold ends'
    rw [← Hang.to (frm := rF t r) hne]
    simp
theorem soon_le {t : Table} {a b at' : Int} {r : List Leg} (hr : r ∈ rts t a b) (hg : (goesV t at' r == 0) = false) : soonV t a b at' ≤ (whn t at' r).low := by
  have step : ∀ (s : Int) (q : List Leg), yS t at' s q ≤ s := fun s q => by
    unfold yS
    split
    · exact Int.le_refl _
    · exact (mn_le _ _).1
  have mono : ∀ (l : List (List Leg)) (s : Int), l.foldl (yS t at') s ≤ s := by
    intro l
    induction l with
    | nil => intro s; exact Int.le_refl _
    | cons q l ih => intro s; exact Int.le_trans (ih _) (step s q)
  have main : ∀ (l : List (List Leg)) (s : Int), r ∈ l → l.foldl (yS t at') s ≤ (whn t at' r).low := by
    intro l
    induction l with
    | nil => intro s h; cases h
    | cons q l ih =>
      intro s h
      rcases List.mem_cons.1 h with rfl | h
      · have h1 : yS t at' s r ≤ (whn t at' r).low := by
          unfold yS
          rw [hg]
          exact (mn_le _ _).2
        exact Int.le_trans (mono l (yS t at' s r)) h1
      · exact ih _ h
  exact main _ _ hr
end Go.Abs.Tr

namespace Go.Abs.Tr
open Go Go.Abs
set_option linter.unusedSimpArgs false
set_option linter.unusedVariables false

/-- How late trains truly are. -/
structure LateOk (t : Table) (lt : List Int) : Prop where
  len : lt.length = t.trains.length
  ok : ∀ (k : Nat) x, t.trains[k]? = some x → ∃ v, lt[k]? = some v ∧ x.late.low ≤ v ∧ v ≤ x.late.high

theorem s40_eq {N : Nat} {t : Table} (L : Lens N t) (G : Good t) {bits : List Int} (hb : bits.length ≤ big) : ∃ lt, s40 N t bits = some lt ∧ LateOk t lt := by
  have hN := L.n4
  have t6 := G.t6
  obtain ⟨r, e, hr⟩ := iter_inv (f := s40_l10 N t bits)
    (fun s => ∃ i : Nat, s.2 = i ∧ i ≤ t.trains.length ∧ s.1.length = i ∧ ∀ (k : Nat) x, k < i → t.trains[k]? = some x → ∃ v, s.1[k]? = some v ∧ x.late.low ≤ v ∧ v ≤ x.late.high)
    (LateOk t) (fun s => t.trains.length - s.2.toNat)
    (fun s hs => by
      obtain ⟨l, j⟩ := s
      obtain ⟨i, e, hi, hl, hk⟩ := hs
      simp only at e hl hk
      subst e
      by_cases h : i < t.trains.length
      · left
        have gx := G.ts _ (List.getElem_mem h)
        have l0 := gx.l0
        have l1 := gx.l1
        have l2 := gx.l2
        obtain ⟨v, ev, hv, _⟩ := s45_in N (s := t.trains[i].late) (by omega) (by omega) (pickV bits i)
        refine ⟨(l ++ [v], (i : Int) + 1), ?_, ⟨i + 1, by push_cast; rfl, by omega, by simp [hl], ?_⟩, ?_⟩
        · unfold s40_l10
          simp only [decide_eq_true (show (i : Int) < t.trains.length by omega), if_true, ix_ok h, bind_some', s88_eq N hb, ev, ap8 (xs := l) (by omega), ck_ok (n := (i : Int) + 1) (by omega)]
        · intro k x hk2 hx
          by_cases hki : k = i
          · subst hki
            rw [List.getElem?_eq_getElem h] at hx
            injection hx with hx
            subst hx
            exact ⟨v, by simp [← hl], hv l1⟩
          · obtain ⟨w, hw, h2⟩ := hk k x (by omega) hx
            exact ⟨w, by show (l ++ [v])[k]? = _; rw [List.getElem?_append_left (by omega)]; exact hw, h2⟩
        · show t.trains.length - ((i : Int) + 1).toNat < t.trains.length - (i : Int).toNat
          omega
      · right
        refine ⟨l, ?_, ⟨by omega, fun k x hx => ?_⟩⟩
        · unfold s40_l10
          simp only [decide_eq_false (show ¬((i : Int) < t.trains.length) by omega)]
          rfl
        · have := (List.getElem?_eq_some_iff.1 hx).1
          exact hk k x (by omega) hx)
    N ([], 0) ⟨0, rfl, by omega, rfl, fun k x h => absurd h (by omega)⟩ (by show t.trains.length - _ < N; omega)
  exact ⟨r, by unfold s40; rw [e]; rfl, hr⟩

def lv (lt : List Int) (x : Leg) : Int := (lt[x.train.toNat]?).getD 0
theorem late_in {t : Table} {lt : List Int} (h : LateOk t lt) {x : Leg} (hx : LegV t x) : ix lt x.train = some (lv lt x) ∧ (tr t x).late.low ≤ lv lt x ∧ lv lt x ≤ (tr t x).late.high := by
  have t0 := hx.t0
  obtain ⟨v, h1, h2⟩ := h.ok _ _ (ix_some hx.ixt).2
  have e : lv lt x = v := by unfold lv; rw [h1]; rfl
  refine ⟨?_, by rw [e]; exact h2⟩
  unfold ix
  rw [if_pos t0, h1, e]
/-- What is carried: the first leg whose train is missed, or the minute in which the box can be loaded. -/
def car (t : Table) (lt : List Int) : Nat → Int → List Leg → Int ⊕ Nat
  | _, r, [] => .inl r
  | i, r, x :: l => if (sf t x).leave + lv lt x < r then .inr i else car t lt (i + 1) ((sg t x).arrive + lv lt x + t.load) l

theorem s38_eq' {N : Nat} (hN : 5000 ≤ N) {l : List Span} (h3 : l.length ≤ 3) (hv : officeV 0 l = true) {m : Int} (h0 : 0 ≤ m) : s38 N l m = some (openR l m) := by
  by_cases h : m ≤ 2880
  · exact s38_eq hN h3 hv h
  · have main := iter_list (f := s38_l11 N l m) (S := Unit) (fun _ i => (2880, i)) l (by unfold big; omega) (fun _ r => ∀ y ∈ r, y ∈ l) (fun _ _ => (2880 : Int))
      (fun s _ => by
        unfold s38_l11
        have : decide (((l.length : Nat) : Int) < (l.length : Int)) = false := by simp
        simp only [this]
        rfl)
      (fun i y r s hd hi hlt hck hI => by
        left
        have := legal_iff.1 (officeV_legal l 0 (by omega) hv y (hI y List.mem_cons_self))
        refine ⟨(), ?_, fun z hz => hI z (List.mem_cons_of_mem _ hz), rfl⟩
        unfold s38_l11
        simp only [hlt, decide_true, if_true, hi, bind_some', hck, decide_eq_false (show ¬(m ≤ y.high) by omega)]
        rfl)
      N (by omega) () (fun _ h => h)
    unfold s38
    rw [main, bind_some', open_late l 0 m hv (by omega)]

theorem s39_eq {N : Nat} {t : Table} (L : Lens N t) (G : Good t) {route : List Leg} (hr : legsV t route = true) {lt : List Int} (hl : LateOk t lt) {at' : Int} (a0 : 0 ≤ at') (a1 : at' ≤ 2879) :
    s39 N t route at' lt = some (match car t lt 0 (at' + t.load) route with | .inl r => ((route.length : Int), openR (ofc t (rT t route)) r) | .inr i => ((i : Int), 0)) := by
  obtain ⟨hn, hlegs⟩ := legsV_legs hr
  have hN := L.n4
  have g0 := G.a0
  have g1 := G.a1
  have main := iter_list (f := s39_l21 N t route lt) (S := Int) (fun s i => (s, i)) route (by unfold big; omega) (fun s l => (0 ≤ s ∧ s ≤ 3200) ∧ ∀ x ∈ l, LegV t x)
    (fun s l => match car t lt (route.length - l.length) s l with | .inl r => Sum.inl r | .inr i => Sum.inr ((i : Int), (0 : Int)))
    (fun s _ => by
      unfold s39_l21
      have : decide (((route.length : Nat) : Int) < (route.length : Int)) = false := by simp
      simp only [this]
      rfl)
    (fun i x l s hd hi hlt hck hI => by
      obtain ⟨hs, hx⟩ := hI
      have vx := hx x List.mem_cons_self
      obtain ⟨e1, e2, e3⟩ := late_in hl vx
      obtain ⟨⟨q1, q2, q3⟩, ⟨q4, q5⟩, q6, q7⟩ := G.leg vx
      have hlen : route.length - (x :: l).length = i := by
        have := congrArg List.length hd
        simp only [List.length_drop] at this
        omega
      have hlen2 : route.length - l.length = i + 1 := by
        have := congrArg List.length hd
        simp only [List.length_drop, List.length_cons] at this
        omega
      by_cases h : (sf t x).leave + lv lt x < s
      · right
        unfold s39_l21
        simp only [hlt, decide_true, if_true, hi, bind_some', vx.ixt, vx.ixf, e1, ck_ok (n := (sf t x).leave + lv lt x) (by omega), decide_eq_true h, car, if_pos h, hlen]
      · left
        refine ⟨(sg t x).arrive + lv lt x + t.load, ?_, ⟨by omega, fun y hy => hx y (List.mem_cons_of_mem _ hy)⟩, ?_⟩
        · unfold s39_l21
          simp only [hlt, decide_true, if_true, hi, bind_some', vx.ixt, vx.ixf, vx.ixg, e1, ck_ok (n := (sf t x).leave + lv lt x) (by omega), decide_eq_false h, Bool.false_eq_true, if_false,
            ck_ok (n := (sg t x).arrive + lv lt x) (by omega), ck_ok (n := (sg t x).arrive + lv lt x + t.load) (by omega), hck]
        · simp only [car, if_neg h, hlen, hlen2])
    N (by omega) (at' + t.load) ⟨by omega, hlegs⟩
  have hbound : ∀ (l : List Leg) (i : Nat) (s r : Int), 0 ≤ s → (∀ x ∈ l, LegV t x) → car t lt i s l = .inl r → 0 ≤ r := by
    intro l
    induction l with
    | nil => intro i s r h0 _ h; injection h with h; omega
    | cons x l ih =>
      intro i s r h0 hx h
      unfold car at h
      split at h
      · cases h
      · have vx := hx x List.mem_cons_self
        obtain ⟨_, e2, _⟩ := late_in hl vx
        obtain ⟨⟨q1, q2, q3⟩, ⟨q4, q5⟩, q6, q7⟩ := G.leg vx
        exact ih _ _ _ (by omega) (fun y hy => hx y (List.mem_cons_of_mem _ hy)) h
  unfold s39
  rw [ck_ok (n := at' + t.load) (by omega), bind_some', main, bind_some', Nat.sub_self]
  cases hc : car t lt 0 (at' + t.load) route with
  | inr i => rfl
  | inl r =>
    obtain ⟨y, hy⟩ : ∃ y, route.getLast? = some y := by
      cases h : route.getLast? with
      | none => rw [List.getLast?_eq_none_iff.1 h] at hn; simp at hn
      | some y => exact ⟨y, rfl⟩
    have hy2 := ix_last (l := []) hy
    rw [List.append_nil] at hy2
    have vy := hlegs y (List.mem_of_getLast? hy)
    have et : rT t route = (sg t y).station := by unfold rT; rw [hy]; rfl
    obtain ⟨ht0, ht1⟩ := G.to' hr
    obtain ⟨o1, o2, o3⟩ := G.ofc ht0 ht1
    rw [et] at o1 o2 o3
    have h0 := hbound route 0 _ r (by omega) hlegs hc
    simp only [ck_ok (n := (route.length : Int) - 1) (by omega), bind_some', hy2, vy.ixt, vy.ixg, o1, s38_eq' hN o2 o3 h0, et]

theorem car_ok {t : Table} {lt : List Int} (G : Good t) (hl : LateOk t lt) : ∀ (l : List Leg) (i : Nat) (a : Int) (s : Span) (r : Int), (∀ x ∈ l, LegV t x) → s.low ≤ a → a ≤ s.high →
    car t lt i (a + t.load) l = .inl r → ∃ s', arr t s l = some s' ∧ s'.low + t.load ≤ r ∧ r ≤ s'.high + t.load := by
  intro l
  induction l with
  | nil =>
    intro i a s r _ h1 h2 h
    injection h with h
    exact ⟨s, rfl, by omega, by omega⟩
  | cons x l ih =>
    intro i a s r hx h1 h2 h
    have vx := hx x List.mem_cons_self
    obtain ⟨_, e2, e3⟩ := late_in hl vx
    unfold car at h
    split at h
    · cases h
    · next hm =>
      have hmx : mx (tr t x).late.low (s.low + t.load - (sf t x).leave) ≤ lv lt x := mx_le e2 (by omega)
      obtain ⟨s', q1, q2⟩ := ih (i + 1) ((sg t x).arrive + lv lt x) ⟨(sg t x).arrive + mx (tr t x).late.low (s.low + t.load - (sf t x).leave), (sg t x).arrive + (tr t x).late.high⟩ r
        (fun y hy => hx y (List.mem_cons_of_mem _ hy)) (by show (sg t x).arrive + _ ≤ _; omega) (by show _ ≤ (sg t x).arrive + _; omega) h
      refine ⟨s', ?_, q2⟩
      unfold arr
      rw [if_neg (by omega)]
      exact q1
theorem car_miss {t : Table} {lt : List Int} (G : Good t) (hl : LateOk t lt) : ∀ (l : List Leg) (i : Nat) (a b : Int) (j : Nat), (∀ x ∈ l, LegV t x) → a ≤ b →
    car t lt i (a + t.load) l = .inr j → (j : Int) ∈ mi t i b l ∧ j < i + l.length := by
  intro l
  induction l with
  | nil => intro i a b j _ _ h; cases h
  | cons x l ih =>
    intro i a b j hx h1 h
    have vx := hx x List.mem_cons_self
    obtain ⟨_, e2, e3⟩ := late_in hl vx
    unfold car at h
    split at h
    · next hm =>
      injection h with h
      subst h
      have : miss1 t b x = true := decide_eq_true (by omega)
      refine ⟨?_, by simp⟩
      unfold mi
      rw [this]
      simp
    · obtain ⟨q1, q2⟩ := ih (i + 1) ((sg t x).arrive + lv lt x) ((sg t x).arrive + (tr t x).late.high) j (fun y hy => hx y (List.mem_cons_of_mem _ hy)) (by omega) h
      refine ⟨?_, by simp only [List.length_cons]; omega⟩
      unfold mi
      exact List.mem_append_right _ q1
theorem mi_nil {t : Table} : ∀ (l : List Leg) (k : Nat) (a : Int), (((mi t k a l).length : Int) == 0) = (mis t a l).all fun b => !b := by
  intro l
  induction l with
  | nil => intro k a; rfl
  | cons x l ih =>
    intro k a
    have := ih (k + 1) ((sg t x).arrive + (tr t x).late.high)
    unfold mi mis
    rw [List.all_cons, ← this]
    show _ = ((!miss1 t a x) && _)
    cases miss1 t a x with
    | false => simp
    | true =>
      simp only [if_true, List.length_append, List.length_cons, List.length_nil, Bool.not_true, Bool.false_and]
      rw [beq_eq_false_iff_ne]
      omega
/-- Numbers that rise. -/
def Rise (n : Int) : Int → List Int → Prop
  | _, [] => True
  | lo, y :: l => (lo ≤ y ∧ y < n) ∧ Rise n (y + 1) l
theorem Rise.low {n : Int} : ∀ {l : List Int} {a b : Int}, Rise n a l → b ≤ a → Rise n b l := by
  intro l
  cases l with
  | nil => intro a b _ _; trivial
  | cons y l => intro a b h hb; exact ⟨⟨by have := h.1.1; omega, h.1.2⟩, h.2⟩
theorem mi_rise {t : Table} : ∀ (l : List Leg) (k : Nat) (a : Int) (n : Int), (k : Int) + l.length ≤ n → Rise n k (mi t k a l) := by
  intro l
  induction l with
  | nil => intro k a n _; trivial
  | cons x l ih =>
    intro k a n h
    simp only [List.length_cons] at h
    have := ih (k + 1) ((sg t x).arrive + (tr t x).late.high) n (by push_cast at h ⊢; omega)
    unfold mi
    split
    · refine ⟨⟨by omega, by push_cast at h; omega⟩, ?_⟩
      exact this.low (by push_cast; omega)
    · exact this.low (by push_cast; omega)
theorem s43_rise {N : Nat} {l : List Int} {n : Int} (h1 : l.length ≤ 100) (hN : 5000 ≤ N) (hn : 0 ≤ n) (hn2 : n ≤ 100) (h : Rise n 0 l) : s43 N l n = some true := by
  have main := iter_list (f := s43_l12 N l n) (S := Int) (fun s i => (s, i)) l (by unfold big; omega) (fun s r => Rise n (s + 1) r ∧ -1 ≤ s ∧ s ≤ n) (fun _ _ => Sum.inl ())
    (fun s _ => by
      unfold s43_l12
      have : decide (((l.length : Nat) : Int) < (l.length : Int)) = false := by simp
      simp only [this]
      rfl)
    (fun i y r s hd hi hlt hck hI => by
      obtain ⟨⟨⟨r1, r2⟩, r3⟩, s1, s2⟩ := hI
      have e : amid y (s + 1) (n - 1) = true := amid_iff.2 (by omega)
      left
      refine ⟨y, ?_, ⟨r3, by omega, by omega⟩, rfl⟩
      unfold s43_l12
      simp only [hlt, decide_true, if_true, hi, bind_some', ck_ok (n := s + 1) (by omega), ck_ok (n := n - 1) (by omega), s47_eq, e, Bool.not_true, Bool.false_eq_true, if_false, hck])
    N (by omega) (-1) ⟨by rw [show (-1 : Int) + 1 = 0 from rfl]; exact h, by omega, by omega⟩
  unfold s43
  rw [main, bind_some']
theorem s44_mem {N : Nat} {l : List Int} {n : Int} (h1 : l.length ≤ 100) (hN : 5000 ≤ N) (h : n ∈ l) : ∃ v, s44 N l n = some v ∧ 0 ≤ v := by
  obtain ⟨r, e, v, rfl, hv⟩ := iter_inv (f := s44_l8 N l n) (fun s => ∃ i : Nat, s = i ∧ i ≤ l.length ∧ n ∈ l.drop i) (fun r => ∃ v : Int, r = .inr v ∧ 0 ≤ v) (fun s => l.length - s.toNat)
    (fun s hs => by
      obtain ⟨i, rfl, hi, hm⟩ := hs
      have hlt : i < l.length := by
        rcases Nat.lt_or_ge i l.length with h | h
        · exact h
        · rw [List.drop_eq_nil_of_le h] at hm; cases hm
      rw [List.drop_eq_getElem_cons hlt] at hm
      by_cases hq : l[i] = n
      · right
        refine ⟨.inr (i : Int), ?_, _, rfl, by omega⟩
        unfold s44_l8
        simp only [decide_eq_true (show (i : Int) < l.length by omega), if_true, ix_ok hlt, bind_some', hq, beq_self_eq_true]
      · left
        refine ⟨(i : Int) + 1, ?_, ⟨i + 1, by push_cast; rfl, by omega, ?_⟩, by omega⟩
        · unfold s44_l8
          have hq' : (l[i] == n) = false := by simpa using hq
          simp only [decide_eq_true (show (i : Int) < l.length by omega), if_true, ix_ok hlt, bind_some', hq', Bool.false_eq_true, if_false, ck_ok (n := (i : Int) + 1) (by omega)]
        · rcases List.mem_cons.1 hm with h2 | h2
          · exact absurd h2.symm hq
          · exact h2)
    N 0 ⟨0, rfl, by omega, h⟩ (by show l.length - _ < N; omega)
  exact ⟨v, by unfold s44; rw [e]; rfl, hv⟩
end Go.Abs.Tr

namespace Go.Abs.Tr
open Go Go.Abs
set_option linter.unusedSimpArgs false
set_option linter.unusedVariables false

theorem usedOf_snoc (pre : List Leg) (x : Leg) : usedOf (pre ++ [x]) = usedOf pre ||| 2 ^ x.train.toNat := by simp [usedOf, useFold]
theorem chain_mid {t : Table} : ∀ (pre l p : List Leg) (x : Leg), chainV t p (pre ++ x :: l) = true → (LegV t x ∧ ((p ++ pre).any fun y => y.train == x.train) = false) ∧ linkV t (p ++ pre) x = true := by
  intro pre
  induction pre with
  | nil =>
    intro l p x h
    simp only [List.nil_append, chainV, Bool.and_eq_true, decide_eq_true_eq, Bool.not_eq_true'] at h
    rw [List.append_nil]
    exact h.1
  | cons y pre ih =>
    intro l p x h
    simp only [List.cons_append, chainV, Bool.and_eq_true] at h
    have := ih l (p ++ [y]) x h.2
    rwa [List.append_assoc] at this
theorem s37_eq {N : Nat} {t : Table} (L : Lens N t) (G : Good t) {route : List Leg} (hr : legsV t route = true) (hne : rF t route ≠ rT t route) : s37 N t route (rF t route) (rT t route) = some true := by
  obtain ⟨hn, hlegs⟩ := legsV_legs hr
  have hN := L.n4
  have t6 := G.t6
  have hr' := hr
  simp only [legsV, Bool.and_eq_true] at hr'
  obtain ⟨ha, hc⟩ := hr'
  have tr6 : ∀ x ∈ route, 0 ≤ x.train ∧ x.train < 6 := fun x hx => ⟨(hlegs x hx).t0, by have := (hlegs x hx).t1; omega⟩
  have main := iter_list (f := s37_l37 N t route) (S := Int × Nat × List Leg) (fun s i => ((s.2.1 : Int), s.1, i)) route (by unfold big; omega)
    (fun s l => s.2.2 ++ l = route ∧ s.1 = atE t (rF t route) s.2.2 ∧ s.2.1 = usedOf s.2.2) (fun _ _ => Sum.inl (rT t route))
    (fun s hI => by
      obtain ⟨a, u, pre⟩ := s
      obtain ⟨h1, h2, h3⟩ := hI
      simp only [List.append_nil] at h1 h2 h3
      subst h1
      unfold s37_l37
      have : decide (((pre.length : Nat) : Int) < (pre.length : Int)) = false := by simp
      simp only [this, h2]
      rw [← Hang.to (frm := rF t pre) (fun e => by rw [e] at hn; simp at hn)]
      rfl)
    (fun i x r s hd hi hlt hck hI => by
      obtain ⟨a, u, pre⟩ := s
      obtain ⟨h1, h2, h3⟩ := hI
      have h1' : pre ++ x :: r = route := h1
      have h2' : a = atE t (rF t route) pre := h2
      have h3' : u = usedOf pre := h3
      obtain ⟨⟨vx, hfree⟩, hlink⟩ := chain_mid pre r [] x (by rw [h1']; exact hc)
      rw [List.nil_append] at hfree hlink
      have hx := tr6 x (by rw [← h1']; simp)
      obtain ⟨x0, x6⟩ := hx
      have hpre : ∀ y ∈ pre, 0 ≤ y.train ∧ y.train < 6 := fun y hy => tr6 y (by rw [← h1']; exact List.mem_append_left _ hy)
      have hu : u < 64 := by
        rw [h3']
        exact (use_ok pre 0 hpre (by omega)).1
      obtain ⟨v, hv1, hv2⟩ := shl_or hu x0 x6
      have gs := G.ts _ vx.mt
      have n5 := gs.n5
      have lt1 := vx.t1
      have f0 := vx.f0
      have f1 := vx.f1
      have f2 := vx.f2
      have c1 : amid x.train 0 ((t.trains.length : Int) - 1) = true := amid_iff.2 (by omega)
      have c2 : amid x.to 0 (((tr t x).stops.length : Int) - 1) = true := amid_iff.2 (by omega)
      have c3 : amid x.frm 0 (x.to - 1) = true := amid_iff.2 (by omega)
      have c4 : ((sf t x).station == a) = true := by
        rw [h2', beq_iff_eq]
        unfold atE
        unfold linkV at hlink
        cases hg : pre.getLast? with
        | none =>
          have : pre = [] := List.getLast?_eq_none_iff.1 hg
          subst this
          have e : route = x :: r := h1'.symm
          rw [e]; rfl
        | some y => rw [hg] at hlink; exact (by simpa using hlink : (sg t y).station = (sf t x).station).symm
      have cu : s87 N (u : Int) x.train = some false := by rw [h3', used_any hpre N x0 x6, hfree]
      left
      refine ⟨((sg t x).station, u ||| 2 ^ x.train.toNat, pre ++ [x]), ?_, ⟨by rw [List.append_assoc]; exact h1', (atE_snoc _ _ _ _).symm, by show u ||| _ = _; rw [h3', usedOf_snoc]⟩, rfl⟩
      unfold s37_l37
      simp only [hlt, decide_true, if_true, hi, bind_some', ck_len L.tr, s47_eq, c1, cu, Bool.not_true, Bool.false_eq_true, if_false, vx.ixt, vx.ixf, vx.ixg,
        ck_ok (n := ((tr t x).stops.length : Int) - 1) (by omega), c2, ck_ok (n := x.to - 1) (by omega), c3, c4, hv1, hv2, hck])
    N (by omega) (rF t route, 0, []) ⟨rfl, rfl, rfl⟩
  unfold s37
  have e1 : (rF t route == rT t route) = false := by simpa using hne
  rw [s47_eq, bind_some']
  have ha' : amid (route.length : Int) 1 4 = true := ha
  rw [ha', e1]
  have main' : iter (s37_l37 N t route) N (0, rF t route, 0) = _ := main
  simp only [Bool.not_true, Bool.or_self, Bool.false_eq_true, if_false, main', bind_some', beq_self_eq_true]

/-- What the choice of a route keeps. -/
structure SomeI (t : Table) (s : List Leg × Int × Int × Int) : Prop where
  hang : Hang t s.2.1 s.1
  n4 : s.1.length ≤ 4
  at0 : s.1 = [] → s.2.2.1 = -1
  at1 : s.1 ≠ [] → s.2.2.1 = atE t s.2.1 s.1 ∧ 0 ≤ s.2.2.1
  us : s.2.2.2 = (usedOf s.1 : Int)
theorem mx1 (n : Nat) : mx 1 (n : Int) = if n = 0 then 1 else (n : Int) := by
  simp only [mx]
  split <;> split <;> omega
/-- The search for a stop at the station where the box is. -/
theorem inner42 {N : Nat} (hN : 5000 ≤ N) {out : List Leg} {frm at' used i : Int} {x : Train} (n2 : 2 ≤ x.stops.length) (n5 : x.stops.length ≤ 5) {a : Int} (ha : 0 ≤ a ∧ a < (x.stops.length : Int) - 1) :
    ∃ a', iter (s42_l43 N (out, frm, at', used, i) x) N (a, 0) = some a' ∧ (0 ≤ a' ∧ a' < (x.stops.length : Int) - 1) := by
  refine iter_inv (fun s => (0 ≤ s.1 ∧ s.1 < (x.stops.length : Int) - 1) ∧ 0 ≤ s.2 ∧ s.2 ≤ 5) (fun r => 0 ≤ r ∧ r < (x.stops.length : Int) - 1) (fun s => 5 - s.2.toNat)
    (fun s hs => ?_) N (a, 0) ⟨ha, by show (0 : Int) ≤ 0 ∧ (0 : Int) ≤ 5; omega⟩ (by show 5 - (0 : Int).toNat < N; omega)
  obtain ⟨p, m⟩ := s
  obtain ⟨⟨p0, p1⟩, m0, m1⟩ := hs
  have p0' : 0 ≤ p := p0
  have p1' : p < (x.stops.length : Int) - 1 := p1
  have m0' : 0 ≤ m := m0
  have m1' : m ≤ 5 := m1
  unfold s42_l43
  simp only [ck_ok (n := (x.stops.length : Int) - 1) (by omega), bind_some']
  by_cases h1 : at' ≥ 0
  · simp only [decide_eq_true h1, if_true, bind_some']
    by_cases h2 : m < (x.stops.length : Int) - 1
    · left
      have hm := (ix_in (l := x.stops) m0' (by omega)).1
      simp only [decide_eq_true h2, if_true, hm, bind_some', ck_ok (n := m + 1) (by omega)]
      split
      · exact ⟨_, rfl, ⟨by show 0 ≤ m ∧ m < _; omega, by show 0 ≤ m + 1 ∧ m + 1 ≤ 5; omega⟩, by show 5 - (m + 1).toNat < 5 - m.toNat; omega⟩
      · exact ⟨_, rfl, ⟨by show 0 ≤ p ∧ p < _; omega, by show 0 ≤ m + 1 ∧ m + 1 ≤ 5; omega⟩, by show 5 - (m + 1).toNat < 5 - m.toNat; omega⟩
    · right
      simp only [decide_eq_false h2, Bool.false_eq_true, if_false]
      exact ⟨_, rfl, by omega⟩
  · right
    simp only [decide_eq_false h1, Bool.false_eq_true, if_false, bind_some']
    exact ⟨_, rfl, by omega⟩
/-- One round. -/
def Go42 (t : Table) (N : Nat) (bits : List Int) (out : List Leg) (frm at' used i : Int) : Prop :=
  (∃ o f a u, s42_l68 N t bits (out, frm, at', used, i) = some (.inl (o, f, a, u, i + 1)) ∧ SomeI t (o, f, a, u) ∧ i < 16) ∨ s42_l68 N t bits (out, frm, at', used, i) = some (.inr (out, frm, at'))
theorem body42 {N : Nat} {t : Table} (hN : 5000 ≤ N) (t6 : t.trains.length ≤ 6) {bits : List Int} (hb : bits.length ≤ big) {out : List Leg} {frm at' used i : Int} (i0 : 0 ≤ i) (hi : i < 16) (hlen : (out.length : Int) < 4)
    {v0 v1 v2 v3 k a a' c v w : Int} {x : Train} {sa sb : Stop}
    (q0 : pickV bits i = v0) (q1 : pickV bits (2 * i + 1) = v1) (q2 : pickV bits (2 * i + 2) = v2) (q3 : pickV bits (2 * i + 3) = v3)
    (e0 : (if (decide ((out.length : Int) > 0)) then ((s36 N v0 3).bind fun v12 => some (v12 == 0)) else some false) = some false)
    (hm : s36 N v1 (mx 1 (t.trains.length : Int)) = some k) (hkl : ¬ k ≥ (t.trains.length : Int)) (e87 : s87 N used k = some false) (hix : ix t.trains k = some x) (n5 : x.stops.length ≤ 5) (n2 : 2 ≤ x.stops.length)
    (ha : s36 N v2 ((x.stops.length : Int) - 1) = some a) (ein : iter (s42_l43 N (out, frm, at', used, i) x) N (a, 0) = some a') (ha' : 0 ≤ a' ∧ a' < (x.stops.length : Int) - 1) (hsa : ix x.stops a' = some sa)
    (hst : (decide (at' ≥ 0) && !(sa.station == at')) = false) (hc : s36 N v3 ((x.stops.length : Int) - 1 - a') = some c) (hc' : 0 ≤ c ∧ c < (x.stops.length : Int) - 1 - a') (hsb : ix x.stops (a' + 1 + c) = some sb) (hv : shlC 1 k = some v) (hw : orC used v = w) :
    s42_l68 N t bits (out, frm, at', used, i) = some (.inl (out ++ [⟨k, a', a' + 1 + c⟩], (if out = [] then sa.station else frm), sb.station, w, i + 1)) := by
  have e47 : (if (decide (at' ≥ 0)) then ((ix x.stops a').bind fun v46 => some (!(v46.station == at'))) else some false) = some false := by
    rw [hsa, bind_some']
    cases h1 : decide (at' ≥ 0) with
    | true => rw [h1, Bool.true_and] at hst; rw [hst]; rfl
    | false => rfl
  have e57 : (if ((out.length : Int) == 0) then ((ix x.stops a').bind fun v60 => some v60.station) else some frm) = some (if out = [] then sa.station else frm) := by
    rw [hsa, bind_some']
    cases out with
    | nil => rfl
    | cons y l =>
      have : (((y :: l).length : Int) == 0) = false := by simp only [List.length_cons]; rw [beq_eq_false_iff_ne]; omega
      rw [this]; rfl
  have e49 : s49 N k a' (a' + 1 + c) = some ⟨k, a', a' + 1 + c⟩ := rfl
  unfold s42_l68
  simp only
  rw [decide_eq_true hi, decide_eq_true hlen, Bool.and_self, if_pos rfl, s88_eq N hb, bind_some', q0, e0, bind_some', if_neg Bool.false_ne_true, ck_ok (n := 2 * i) (by omega), bind_some', ck_ok (n := 2 * i + 1) (by omega), bind_some', s88_eq N hb, bind_some', q1, hm, bind_some',
    decide_eq_false hkl, if_neg Bool.false_ne_true, e87, bind_some', bind_some', if_neg Bool.false_ne_true, hix, bind_some', bind_some', ck_ok (n := 2 * i + 2) (by omega), bind_some', s88_eq N hb, bind_some', q2, ck_ok (n := (x.stops.length : Int) - 1) (by omega), bind_some', ha, bind_some', ein, bind_some',
    e47, bind_some', if_neg Bool.false_ne_true, ck_ok (n := a' + 1) (by omega), bind_some', bind_some', ck_ok (n := 2 * i + 3) (by omega), bind_some', s88_eq N hb, bind_some', q3, bind_some', ck_ok (n := (x.stops.length : Int) - 1 - a') (by omega), bind_some', hc, bind_some', ck_ok (n := a' + 1 + c) (by omega), bind_some',
    e57, bind_some', e49, bind_some', ap24 (xs := out) (by omega), bind_some', hsb, bind_some', hv, bind_some', bind_some']
  show ((ck (i + 1)).bind fun v66 => _) = _
  rw [ck_ok (n := i + 1) (by omega), bind_some', hw]
theorem stop42a {N : Nat} {t : Table} {bits : List Int} {out : List Leg} {frm at' used i : Int} (hi : ¬ i < 16) : s42_l68 N t bits (out, frm, at', used, i) = some (.inr (out, frm, at')) := by
  unfold s42_l68
  simp only
  rw [decide_eq_false hi, Bool.false_and, if_neg Bool.false_ne_true]
theorem stop42b {N : Nat} {t : Table} {bits : List Int} {out : List Leg} {frm at' used i : Int} (hlen : ¬ (out.length : Int) < 4) : s42_l68 N t bits (out, frm, at', used, i) = some (.inr (out, frm, at')) := by
  unfold s42_l68
  simp only
  rw [decide_eq_false hlen, Bool.and_false, if_neg Bool.false_ne_true]
theorem stop42c {N : Nat} {t : Table} {bits : List Int} (hb : bits.length ≤ big) {out : List Leg} {frm at' used i : Int} (hi : i < 16) (hlen : (out.length : Int) < 4) {v0 : Int} (q0 : pickV bits i = v0)
    (e0 : (if (decide ((out.length : Int) > 0)) then ((s36 N v0 3).bind fun v12 => some (v12 == 0)) else some false) = some true) : s42_l68 N t bits (out, frm, at', used, i) = some (.inr (out, frm, at')) := by
  unfold s42_l68
  simp only
  rw [decide_eq_true hi, decide_eq_true hlen, Bool.and_self, if_pos rfl, s88_eq N hb, bind_some', q0, e0, bind_some', if_pos rfl, bind_some']
theorem on42a {N : Nat} {t : Table} {bits : List Int} (hb : bits.length ≤ big) {out : List Leg} {frm at' used i : Int} (i0 : 0 ≤ i) (hi : i < 16) (hlen : (out.length : Int) < 4) {v0 v1 k : Int} (q0 : pickV bits i = v0) (q1 : pickV bits (2 * i + 1) = v1)
    (e0 : (if (decide ((out.length : Int) > 0)) then ((s36 N v0 3).bind fun v12 => some (v12 == 0)) else some false) = some false) (hm : s36 N v1 (mx 1 (t.trains.length : Int)) = some k)
    (h : k ≥ (t.trains.length : Int) ∨ s87 N used k = some true) : s42_l68 N t bits (out, frm, at', used, i) = some (.inl (out, frm, at', used, i + 1)) := by
  unfold s42_l68
  simp only
  rw [decide_eq_true hi, decide_eq_true hlen, Bool.and_self, if_pos rfl, s88_eq N hb, bind_some', q0, e0, bind_some', if_neg Bool.false_ne_true, ck_ok (n := 2 * i) (by omega), bind_some', ck_ok (n := 2 * i + 1) (by omega), bind_some', s88_eq N hb, bind_some', q1, hm, bind_some']
  by_cases hk : k ≥ (t.trains.length : Int)
  · rw [decide_eq_true hk, if_pos rfl, bind_some', if_pos rfl, bind_some']
    show ((ck (i + 1)).bind fun v66 => _) = _
    rw [ck_ok (n := i + 1) (by omega), bind_some']
  · rcases h with h | h
    · exact absurd h hk
    rw [decide_eq_false hk, if_neg Bool.false_ne_true, h, bind_some', bind_some', if_pos rfl, bind_some']
    show ((ck (i + 1)).bind fun v66 => _) = _
    rw [ck_ok (n := i + 1) (by omega), bind_some']
theorem on42b {N : Nat} {t : Table} {bits : List Int} (hb : bits.length ≤ big) {out : List Leg} {frm at' used i : Int} (i0 : 0 ≤ i) (hi : i < 16) (hlen : (out.length : Int) < 4)
    {v0 v1 v2 k a a' : Int} {x : Train} {sa : Stop}
    (q0 : pickV bits i = v0) (q1 : pickV bits (2 * i + 1) = v1) (q2 : pickV bits (2 * i + 2) = v2)
    (e0 : (if (decide ((out.length : Int) > 0)) then ((s36 N v0 3).bind fun v12 => some (v12 == 0)) else some false) = some false)
    (hm : s36 N v1 (mx 1 (t.trains.length : Int)) = some k) (hkl : ¬ k ≥ (t.trains.length : Int)) (e87 : s87 N used k = some false) (hix : ix t.trains k = some x) (n5 : x.stops.length ≤ 5) (n2 : 2 ≤ x.stops.length)
    (ha : s36 N v2 ((x.stops.length : Int) - 1) = some a) (ein : iter (s42_l43 N (out, frm, at', used, i) x) N (a, 0) = some a') (ha' : 0 ≤ a' ∧ a' < (x.stops.length : Int) - 1) (hsa : ix x.stops a' = some sa)
    (hst : (decide (at' ≥ 0) && !(sa.station == at')) = true) :
    s42_l68 N t bits (out, frm, at', used, i) = some (.inl (out, frm, at', used, i + 1)) := by
  have e47 : (if (decide (at' ≥ 0)) then ((ix x.stops a').bind fun v46 => some (!(v46.station == at'))) else some false) = some true := by
    rw [hsa, bind_some']
    rw [Bool.and_eq_true] at hst
    rw [hst.1, hst.2]; rfl
  unfold s42_l68
  simp only
  rw [decide_eq_true hi, decide_eq_true hlen, Bool.and_self, if_pos rfl, s88_eq N hb, bind_some', q0, e0, bind_some', if_neg Bool.false_ne_true, ck_ok (n := 2 * i) (by omega), bind_some', ck_ok (n := 2 * i + 1) (by omega), bind_some', s88_eq N hb, bind_some', q1, hm, bind_some',
    decide_eq_false hkl, if_neg Bool.false_ne_true, e87, bind_some', bind_some', if_neg Bool.false_ne_true, hix, bind_some', bind_some', ck_ok (n := 2 * i + 2) (by omega), bind_some', s88_eq N hb, bind_some', q2, ck_ok (n := (x.stops.length : Int) - 1) (by omega), bind_some', ha, bind_some', ein, bind_some',
    e47, bind_some', if_pos rfl, bind_some']
  show ((ck (i + 1)).bind fun v66 => _) = _
  rw [ck_ok (n := i + 1) (by omega), bind_some']
theorem step42 {N : Nat} {t : Table} (L : Lens N t) (G : Good t) {bits : List Int} (hb : bits.length ≤ big) {out : List Leg} {frm at' used i : Int} (i0 : 0 ≤ i) (hI : SomeI t (out, frm, at', used)) :
    Go42 t N bits out frm at' used i := by
  have hN := L.n4
  have t6 := G.t6
  by_cases hi : i < 16
  case neg =>
    exact .inr (stop42a hi)
  by_cases hlen : (out.length : Int) < 4
  case neg =>
    exact .inr (stop42b hlen)
  have cki : ck (i + 1) = some (i + 1) := ck_ok (by omega)
  have hx1 : 1 ≤ mx 1 (t.trains.length : Int) ∧ mx 1 (t.trains.length : Int) ≤ 7 := by
    rw [mx1]
    split <;> omega
  generalize q0 : pickV bits i = v0
  generalize q1 : pickV bits (2 * i + 1) = v1
  generalize q2 : pickV bits (2 * i + 2) = v2
  generalize q3 : pickV bits (2 * i + 3) = v3
  have hk := turn_in v1 hx1.1
  have hkk := s36_eq N v1 (m := mx 1 (t.trains.length : Int)) (by omega)
  generalize turnV v1 (mx 1 (t.trains.length : Int)) = k at hk hkk
  -- does it stop here?
  have e0 : ∃ b : Bool, (if (decide ((out.length : Int) > 0)) then ((s36 N v0 3).bind fun v12 => some (v12 == 0)) else some false) = some b := by
    rw [s36_eq N v0 (m := 3) (by omega), bind_some']
    split <;> exact ⟨_, rfl⟩
  obtain ⟨b0, e0⟩ := e0
  cases b0 with
  | true =>
    exact .inr (stop42c hb hi hlen q0 e0)
  | false =>
    have pre6 : ∀ y ∈ out, 0 ≤ y.train ∧ y.train < 6 := fun y hy => ⟨(hI.hang.legs y hy).t0, by have := (hI.hang.legs y hy).t1; omega⟩
    by_cases hkl : k ≥ (t.trains.length : Int)
    case pos =>
      exact .inl ⟨out, frm, at', used, on42a hb i0 hi hlen q0 q1 e0 hkk (.inl hkl), hI, hi⟩
    have hus : used = (usedOf out : Int) := hI.us
    have k6 : k < 6 := by omega
    have e87 : s87 N used k = some (out.any fun y => y.train == k) := by rw [hus]; exact used_any pre6 N hk.1 k6
    cases hfree : out.any fun y => y.train == k with
    | true =>
      rw [hfree] at e87
      exact .inl ⟨out, frm, at', used, on42a hb i0 hi hlen q0 q1 e0 hkk (.inr e87), hI, hi⟩
    | false =>
      rw [hfree] at e87
      obtain ⟨hix, hmem⟩ := ix_in (l := t.trains) hk.1 (by omega)
      generalize hxx : (t.trains[k.toNat]?).getD default = x at hix hmem
      have gx := G.ts x hmem
      have n2 := gx.n2
      have n5 := gx.n5
      have ha := turn_in v2 (m := (x.stops.length : Int) - 1) (by omega)
      have haa := s36_eq N v2 (m := (x.stops.length : Int) - 1) (by omega)
      generalize turnV v2 ((x.stops.length : Int) - 1) = a at ha haa
      obtain ⟨a', einner, ha0, ha1⟩ := inner42 (out := out) (frm := frm) (at' := at') (used := used) (i := i) hN n2 n5 ha
      obtain ⟨hsa, hsm⟩ := ix_in (l := x.stops) (i := a') ha0 (by omega)
      generalize hss : (x.stops[a'.toNat]?).getD default = sa at hsa hsm
      -- does the train stop where the box is?
      cases hst : (decide (at' ≥ 0) && !(sa.station == at')) with
      | true =>
        exact .inl ⟨out, frm, at', used, on42b hb i0 hi hlen q0 q1 q2 e0 hkk hkl e87 hix n5 n2 haa einner ⟨ha0, ha1⟩ hsa hst, hI, hi⟩
      | false =>
        have hc := turn_in v3 (m := (x.stops.length : Int) - 1 - a') (by omega)
        have hcc := s36_eq N v3 (m := (x.stops.length : Int) - 1 - a') (by omega)
        generalize turnV v3 ((x.stops.length : Int) - 1 - a') = c at hc hcc
        obtain ⟨hsb, hsbm⟩ := ix_in (l := x.stops) (i := a' + 1 + c) (by omega) (by omega)
        generalize hsbb : (x.stops[(a' + 1 + c).toNat]?).getD default = sb at hsb hsbm
        have hu : usedOf out < 64 := (use_ok out 0 pre6 (by omega)).1
        obtain ⟨v, hv1, hv2⟩ := shl_or hu hk.1 k6
        rw [← hus] at hv2
        have etr : tr t ⟨k, a', a' + 1 + c⟩ = x := hxx
        have esf : sf t ⟨k, a', a' + 1 + c⟩ = sa := by unfold sf; rw [etr]; exact hss
        have esg : sg t ⟨k, a', a' + 1 + c⟩ = sb := by unfold sg; rw [etr]; exact hsbb
        have vl : LegV t ⟨k, a', a' + 1 + c⟩ := ⟨hk.1, by show k < _; omega, ha0, by show a' < a' + 1 + c; omega, by rw [etr]; show a' + 1 + c < _; omega⟩
        have hstat : out ≠ [] → sa.station = atE t frm out := fun hne => by
          obtain ⟨q1, q2⟩ := hI.at1 hne
          have q2' : 0 ≤ at' := q2
          rw [decide_eq_true q2', Bool.true_and] at hst
          have : sa.station = at' := by simpa using hst
          rw [this]; exact q1
        left
        refine ⟨out ++ [⟨k, a', a' + 1 + c⟩], (if out = [] then sa.station else frm), sb.station, _, body42 hN t6 hb i0 hi hlen q0 q1 q2 q3 e0 hkk hkl e87 hix n5 n2 haa einner ⟨ha0, ha1⟩ hsa hst hcc hc hsb hv1 hv2, ?_, hi⟩
        have hl4 : (out ++ [(⟨k, a', a' + 1 + c⟩ : Leg)]).length ≤ 4 := by simp only [List.length_append, List.length_cons, List.length_nil]; omega
        refine ⟨⟨?_, fun _ => ?_⟩, hl4, fun h => by simp at h, fun _ => ⟨?_, ?_⟩, ?_⟩
        · show chainV t [] (out ++ [_]) = true
          rw [chainV_snoc, hI.hang.chain, List.nil_append, decide_eq_true vl]
          have hf : (out.any fun y => y.train == (⟨k, a', a' + 1 + c⟩ : Leg).train) = false := hfree
          rw [hf]
          simp only [Bool.true_and, Bool.not_false, linkV, esf]
          cases hg : out.getLast? with
          | none => rfl
          | some y =>
            have hne : out ≠ [] := fun e => by rw [e] at hg; cases hg
            have := hstat hne
            unfold atE at this
            rw [hg] at this
            simp [this]
        · show rF t (out ++ [_]) = (if out = [] then sa.station else frm)
          cases hout : out with
          | nil => simp [rF, esf]
          | cons y l =>
            have := hI.hang.first (by rw [hout]; simp)
            rw [hout] at this
            simpa [rF] using this
        · show sb.station = atE t _ (out ++ [_])
          rw [atE_snoc, esg]
        · show 0 ≤ sb.station
          exact (gx.st sb hsbm).1
        · show ((usedOf out ||| 2 ^ k.toNat : Nat) : Int) = (usedOf (out ++ [_]) : Nat)
          rw [usedOf_snoc]
theorem s42_eq {N : Nat} {t : Table} (L : Lens N t) (G : Good t) {bits : List Int} (hb : bits.length ≤ big) :
    ∃ r a b, s42 N t bits = some (r, a, b) ∧ (r = [] ∨ legsV t r = true ∧ rF t r = a ∧ rT t r = b) := by
  have hN := L.n4
  obtain ⟨r, e, hr⟩ := iter_inv (f := s42_l68 N t bits)
    (fun s => (0 ≤ s.2.2.2.2 ∧ s.2.2.2.2 ≤ 16) ∧ SomeI t (s.1, s.2.1, s.2.2.1, s.2.2.2.1))
    (fun r : List Leg × Int × Int => r.1 = [] ∨ legsV t r.1 = true ∧ rF t r.1 = r.2.1 ∧ rT t r.1 = r.2.2) (fun s => 16 - s.2.2.2.2.toNat)
    (fun s hs => by
      obtain ⟨out, frm, at', used, i⟩ := s
      obtain ⟨⟨i0, i1⟩, hI⟩ := hs
      have i0' : 0 ≤ i := i0
      have hI' : SomeI t (out, frm, at', used) := hI
      rcases step42 L G hb i0' hI' with ⟨o, f, a, u, e, hs, hi⟩ | e
      · exact .inl ⟨_, e, ⟨by show 0 ≤ i + 1 ∧ i + 1 ≤ 16; omega, hs⟩, by show 16 - (i + 1).toNat < 16 - i.toNat; omega⟩
      · refine .inr ⟨_, e, ?_⟩
        by_cases h : out = []
        · exact .inl h
        · have hl : 1 ≤ out.length := by
            cases out with
            | nil => exact absurd rfl h
            | cons x l => simp
          exact .inr ⟨hI'.hang.legsV hl hI'.n4, hI'.hang.first h, by rw [Hang.to (frm := frm) h]; exact (hI'.at1 h).1.symm⟩)
    N ([], 0, (-1), 0, 0) ⟨by show (0 : Int) ≤ 0 ∧ (0 : Int) ≤ 16; omega, ⟨Hang.nil t 0, by simp, fun _ => rfl, fun h => absurd rfl h, rfl⟩⟩ (by show 16 - (0 : Int).toNat < N; omega)
  exact ⟨r.1, r.2.1, r.2.2, by unfold s42; rw [e]; rfl, hr⟩
end Go.Abs.Tr

namespace Go.Abs.Tr
open Go Go.Abs
set_option linter.unusedSimpArgs false
set_option linter.unusedVariables false

theorem open_mono : ∀ (l : List Span) (f m n : Int), officeV f l = true → m ≤ n → openR l m ≤ openR l n := by
  intro l
  induction l with
  | nil => intro f m n _ _; exact Int.le_refl _
  | cons x l ih =>
    intro f m n hv h
    simp only [officeV, Bool.and_eq_true, legal_iff] at hv
    rw [openR_cons, openR_cons]
    by_cases h1 : m ≤ x.high
    · rw [if_pos h1]
      by_cases h2 : n ≤ x.high
      · rw [if_pos h2]
        exact mx_le (by have := (mx_ge n x.low).1; omega) (mx_ge n x.low).2
      · rw [if_neg h2]
        have h3 : mx m x.low ≤ x.high := mx_le h1 (by omega)
        rcases open_low l _ n hv.2 with h4 | h4 <;> omega
    · rw [if_neg h1, if_neg (by omega)]
      exact ih _ m n hv.2 h
theorem arr_le {t : Table} : ∀ (l : List Leg) (s s' : Span), s.low ≤ s.high → arr t s l = some s' → s'.low ≤ s'.high := by
  intro l
  induction l with
  | nil => intro s s' h e; injection e with e; rw [← e]; exact h
  | cons x l ih =>
    intro s s' h e
    unfold arr at e
    split at e
    · cases e
    · exact ih _ _ (by show (sg t x).arrive + _ ≤ (sg t x).arrive + _; omega) e
theorem whn_le {t : Table} (G : Good t) {l : List Leg} (hr : legsV t l = true) {u : Int} (hg : (goesV t u l == 0) = false) : (whn t u l).low ≤ (whn t u l).high := by
  obtain ⟨_, s, hs⟩ := goesV_arr hg
  obtain ⟨ht0, ht1⟩ := G.to' hr
  obtain ⟨_, _, o3⟩ := G.ofc ht0 ht1
  have := arr_le l _ _ (Int.le_refl _) hs
  unfold whn
  rw [hs]
  exact open_mono _ 0 _ _ o3 (by show s.low + t.load ≤ s.high + t.load; omega)
theorem two_ne {t : Table} {u : Int} {l : List Leg} (h : goesV t u l = 2) : (goesV t u l == 0) = false := by rw [h]; rfl
theorem rts_legs {t : Table} {a b : Int} {r : List Leg} (h : r ∈ rts t a b) : legsV t r = true ∧ rF t r = a ∧ rT t r = b := by
  obtain ⟨h1, ⟨h2, h3⟩, h4⟩ := rts_ok h
  have hne : r ≠ [] := fun e => by rw [e] at h2; simp at h2
  exact ⟨h1.legsV h2 h3, h1.first hne, by rw [Hang.to (frm := a) hne]; exact h4⟩
theorem rts_sorted (t : Table) (a b : Int) : (rts t a b).Pairwise fun p q => p.length ≤ q.length := by
  unfold rts
  rw [List.pairwise_flatMap]
  have hlen : ∀ (i : Nat), ∀ p ∈ (lev t a (i + 1) []).filter (ends' t a b), p.length = i + 1 := fun i p hp => by
    have := (lev_hang (i + 1) [] (Hang.nil t a) p (List.mem_filter.1 hp).1).2
    simpa using this
  refine ⟨fun i _ => List.pairwise_of_forall_mem_list fun p hp q hq => by rw [hlen i p hp, hlen i q hq]; exact Nat.le_refl _, ?_⟩
  refine List.Pairwise.imp (R := fun (i j : Nat) => i < j) (fun {i j} h p hp q hq => by rw [hlen i p hp, hlen j q hq]; omega) ?_
  exact List.pairwise_lt_range

/-! ## The best route -/
theorem yB_le (t : Table) (u : Int) (s : Found) (r : List Leg) : (yB t u s r).til ≤ s.til := by
  unfold yB
  split
  · split
    · next h => exact Int.le_of_lt h
    · exact Int.le_refl _
  · exact Int.le_refl _
theorem foldB_le (t : Table) (u : Int) : ∀ (l : List (List Leg)) (s : Found), (l.foldl (yB t u) s).til ≤ s.til ∧ ((l.foldl (yB t u) s).til = s.til → (l.foldl (yB t u) s).route = s.route) := by
  intro l
  induction l with
  | nil => intro s; exact ⟨Int.le_refl _, fun _ => rfl⟩
  | cons q l ih =>
    intro s
    obtain ⟨h1, h2⟩ := ih (yB t u s q)
    have h3 := yB_le t u s q
    refine ⟨Int.le_trans h1 h3, fun h => ?_⟩
    rw [List.foldl_cons] at h ⊢
    have h4 : (yB t u s q).til = s.til := by omega
    rw [h2 (by omega)]
    unfold yB at h4 ⊢
    split
    · split
      · next h5 h6 => rw [if_pos h5, if_pos h6] at h4; exact absurd h4 (Int.ne_of_lt h6)
      · rfl
    · rfl
theorem best_min {t : Table} {a b u : Int} {r : List Leg} (hr : r ∈ rts t a b) (hg : goesV t u r = 2) :
    (bestV t a b u).til ≤ (whn t u r).high ∧ ((bestV t a b u).til = (whn t u r).high → (bestV t a b u).route.length ≤ r.length) := by
  have main : ∀ (l : List (List Leg)) (s : Found), l.Pairwise (fun p q => p.length ≤ q.length) → (∀ q ∈ l, s.route.length ≤ q.length) → r ∈ l →
      (l.foldl (yB t u) s).til ≤ (whn t u r).high ∧ ((l.foldl (yB t u) s).til = (whn t u r).high → (l.foldl (yB t u) s).route.length ≤ r.length) := by
    intro l
    induction l with
    | nil => intro s _ _ h; cases h
    | cons q l ih =>
      intro s hp hs hm
      rw [List.pairwise_cons] at hp
      have hy : (yB t u s q).route = q ∨ (yB t u s q).route = s.route := by
        unfold yB
        split
        · split
          · exact .inl rfl
          · exact .inr rfl
        · exact .inr rfl
      rcases List.mem_cons.1 hm with rfl | hm
      · have h1 : (yB t u s r).til ≤ (whn t u r).high := by
          unfold yB
          rw [hg]
          rw [if_pos (show (((2 : Int) == 2) = true) from rfl)]
          split
          · exact Int.le_refl _
          · next h => omega
        obtain ⟨h2, h3⟩ := foldB_le t u l (yB t u s r)
        rw [List.foldl_cons]
        refine ⟨by omega, fun h => ?_⟩
        rw [h3 (by omega)]
        rcases hy with e | e
        · rw [e]; exact Nat.le_refl _
        · rw [e]; exact hs r List.mem_cons_self
      · rw [List.foldl_cons]
        refine ih _ hp.2 (fun z hz => ?_) hm
        rcases hy with e | e
        · rw [e]; exact hp.1 z hz
        · rw [e]; exact hs z (List.mem_cons_of_mem _ hz)
  exact main _ _ (rts_sorted t a b) (fun _ _ => Nat.zero_le _) hr
theorem best_is {t : Table} {a b u : Int} (h : (bestV t a b u).til < 2880) : (bestV t a b u).route ∈ rts t a b ∧ goesV t u (bestV t a b u).route = 2 ∧ (whn t u (bestV t a b u).route).high = (bestV t a b u).til := by
  have main : ∀ (l : List (List Leg)) (s : Found), (l.foldl (yB t u) s = s) ∨ ((l.foldl (yB t u) s).route ∈ l ∧ goesV t u (l.foldl (yB t u) s).route = 2 ∧ (whn t u (l.foldl (yB t u) s).route).high = (l.foldl (yB t u) s).til) := by
    intro l
    induction l with
    | nil => intro s; exact .inl rfl
    | cons q l ih =>
      intro s
      rw [List.foldl_cons]
      rcases ih (yB t u s q) with e | ⟨e1, e2⟩
      · rw [e]
        unfold yB
        split
        · next h1 =>
          split
          · exact .inr ⟨List.mem_cons_self, by simpa using h1, rfl⟩
          · exact .inl rfl
        · exact .inl rfl
      · exact .inr ⟨List.mem_cons_of_mem _ e1, e2⟩
  rcases main (rts t a b) ⟨[], 2880⟩ with e | e
  · have : bestV t a b u = ⟨[], 2880⟩ := e
    rw [this] at h
    exact absurd h (by decide)
  · exact e

/-! ## The last minute -/
theorem late_in' {t : Table} {a b by' : Int} (b1 : by' ≤ 2879) : -1 ≤ lateV t a b by' ∧ lateV t a b by' ≤ 2879 := by
  have : ∀ (l : List (List Leg)) (s : Int), (-1 ≤ s ∧ s ≤ 2879) → -1 ≤ l.foldl (yP t a by') s ∧ l.foldl (yP t a by') s ≤ 2879 := by
    intro l
    induction l with
    | nil => intro s h; exact h
    | cons r l ih => intro s h; exact ih _ (yP_in b1 h r)
  exact this _ _ (by omega)
theorem late_is {t : Table} {a b by' : Int} (h : 0 ≤ lateV t a b by') : ∃ r ∈ rts t a b, goesV t (lateV t a b by') r = 2 ∧ (whn t (lateV t a b by') r).high ≤ by' := by
  have main : ∀ (l : List (List Leg)) (s : Int), l.foldl (yP t a by') s = s ∨ ∃ r ∈ l, goesV t (l.foldl (yP t a by') s) r = 2 ∧ (whn t (l.foldl (yP t a by') s) r).high ≤ by' := by
    intro l
    induction l with
    | nil => intro s; exact .inl rfl
    | cons r l ih =>
      intro s
      rw [List.foldl_cons]
      rcases ih (yP t a by' s r) with e | ⟨q, hq, e⟩
      · rw [e]
        unfold yP
        split
        · next h1 =>
          simp only [Bool.and_eq_true, decide_eq_true_eq] at h1
          exact .inr ⟨r, List.mem_cons_self, by simpa using h1.1.2, h1.2⟩
        · exact .inl rfl
      · exact .inr ⟨q, List.mem_cons_of_mem _ hq, e⟩
  rcases main (rts t a b) (-1) with e | e
  · have : lateV t a b by' = -1 := e
    omega
  · exact e
theorem yP_ge (t : Table) (a by' s : Int) (r : List Leg) : s ≤ yP t a by' s r := by
  unfold yP
  split
  · next h =>
    simp only [Bool.and_eq_true, decide_eq_true_eq] at h
    omega
  · exact Int.le_refl _
theorem goes2' {t : Table} (G : Good t) {l : List Leg} (hr : legsV t l = true) {u : Int} : goesV t u l = 2 ↔ (isOp (ofc t (rF t l)) u = true ∧ u ≤ lastM t l) ∧ tailOk t l = true := by
  have := goes2 G hr u
  constructor
  · intro h
    rw [h] at this
    have e : ((2 : Int) == 2) = true := rfl
    rw [e] at this
    have := this.symm
    simpa using this
  · intro h
    rw [h.1.1, h.2, decide_eq_true h.1.2] at this
    simpa using this
theorem late_max {t : Table} (G : Good t) {a b by' u : Int} (b1 : by' ≤ 2879) {r : List Leg} (hr : r ∈ rts t a b) (hu : lateV t a b by' < u) (u1 : u ≤ 2879) (hg : goesV t u r = 2) : by' < (whn t u r).high := by
  have mono : ∀ (l : List (List Leg)) (s : Int), s ≤ l.foldl (yP t a by') s := by
    intro l
    induction l with
    | nil => intro s; exact Int.le_refl _
    | cons q l ih => intro s; exact Int.le_trans (yP_ge t a by' s q) (ih _)
  obtain ⟨hl, hf, _⟩ := rts_legs hr
  have step : ∀ s : Int, -1 ≤ s → yP t a by' s r < u → by' < (whn t u r).high := by
    intro s s0 h
    rcases Int.lt_or_le by' (whn t u r).high with h0 | h0
    · exact h0
    exfalso
    have su : s < u := Int.lt_of_le_of_lt (yP_ge t a by' s r) h
    obtain ⟨⟨g1, g2⟩, g3⟩ := (goes2' G hl).1 hg
    have g4 := high_ge G hl (u := u) (by omega) u1 (by simpa using hg)
    obtain ⟨p1, p2, p3⟩ := dn_ok (isOp (ofc t a)) s (mn by' (lastM t r) - s).toNat (mn by' (lastM t r)) (Nat.le_refl _)
    have hmn := mn_ge (a := by') (b := lastM t r) (c := u) (by omega) g2
    have hml := mn_le by' (lastM t r)
    have eb : back t a s (mn by' (lastM t r)) = dn (isOp (ofc t a)) s (mn by' (lastM t r) - s).toNat (mn by' (lastM t r)) := rfl
    rw [← eb] at p1 p2 p3
    rw [hf] at g1
    have hw : u ≤ back t a s (mn by' (lastM t r)) := by
      rcases Int.lt_or_le (back t a s (mn by' (lastM t r))) u with h1 | h1
      · rw [p3 u h1 hmn] at g1; cases g1
      · exact h1
    have hop : isOp (ofc t a) (back t a s (mn by' (lastM t r))) = true := by
      rcases p2 with p2 | p2
      · omega
      · exact p2
    have gw : goesV t (back t a s (mn by' (lastM t r))) r = 2 := (goes2' G hl).2 ⟨⟨by rw [hf]; exact hop, by omega⟩, g3⟩
    obtain ⟨_, q1, hq1⟩ := goesV_arr (two_ne hg)
    obtain ⟨_, q2, hq2⟩ := goesV_arr (two_ne gw)
    have hne : r ≠ [] := fun e => by have := (legsV_legs hl).1.1; rw [e] at this; simp at this
    have hh := high_same hne hq1 hq2
    unfold yP at h
    rw [if_pos (by
      simp only [Bool.and_eq_true, decide_eq_true_eq]
      exact ⟨⟨by omega, by simpa using gw⟩, by omega⟩)] at h
    omega
  have main : ∀ (l : List (List Leg)) (s : Int), -1 ≤ s → r ∈ l → l.foldl (yP t a by') s < u → by' < (whn t u r).high := by
    intro l
    induction l with
    | nil => intro s _ h; cases h
    | cons q l ih =>
      intro s s0 hm h
      rw [List.foldl_cons] at h
      rcases List.mem_cons.1 hm with rfl | hm
      · exact step s s0 (Int.lt_of_le_of_lt (mono l _) h)
      · exact ih _ (Int.le_trans s0 (yP_ge t a by' s q)) hm h
  exact main _ (-1) (by omega) hr hu

/-! ## Two stations that numbers choose -/
theorem turn_other {n a j : Int} (n1 : 2 ≤ n) (n6 : n ≤ 6) (a0 : 0 ≤ a) (a1 : a < n) (j0 : 0 ≤ j) (j1 : j < n - 1) : turnV (a + 1 + j) n ≠ a := by
  have e : (a + 1 + j).tmod n = (a + 1 + j) % n := Int.tmod_eq_emod_of_nonneg (by omega)
  have h0 : 0 ≤ (a + 1 + j) % n := Int.emod_nonneg _ (by omega)
  unfold turnV
  rw [if_neg (by omega), e, if_neg (by omega)]
  have hn : n = 2 ∨ n = 3 ∨ n = 4 ∨ n = 5 ∨ n = 6 := by omega
  rcases hn with rfl | rfl | rfl | rfl | rfl <;> omega
/-- The stations that a statement chooses. -/
def frmV (t : Table) (n0 : Int) : Int := turnV n0 t.offices.length
def toV (t : Table) (n0 n1 : Int) : Int := turnV (frmV t n0 + 1 + turnV n1 ((t.offices.length : Int) - 1)) t.offices.length
theorem pair_ok {t : Table} (G : Good t) (h2 : 2 ≤ t.offices.length) (n0 n1 : Int) : pairV t (frmV t n0) (toV t n0 n1) = true := by
  have o6 := G.o6
  have h1 := turn_in n0 (m := (t.offices.length : Int)) (by omega)
  have h3 := turn_in n1 (m := (t.offices.length : Int) - 1) (by omega)
  have h4 := turn_in (frmV t n0 + 1 + turnV n1 ((t.offices.length : Int) - 1)) (m := (t.offices.length : Int)) (by omega)
  have h5 := turn_other (n := (t.offices.length : Int)) (by omega) (by omega) h1.1 h1.2 h3.1 h3.2
  unfold pairV
  rw [amid_iff.2 (show 0 ≤ frmV t n0 ∧ frmV t n0 ≤ (t.offices.length : Int) - 1 by unfold frmV; omega), amid_iff.2 (show 0 ≤ toV t n0 n1 ∧ toV t n0 n1 ≤ (t.offices.length : Int) - 1 by unfold toV; omega)]
  have h6 : (frmV t n0 == toV t n0 n1) = false := by
    rw [beq_eq_false_iff_ne]
    exact fun h => h5 h.symm
  rw [h6]; rfl
theorem choose_two {N : Nat} {t : Table} (G : Good t) (h2 : 2 ≤ t.offices.length) (n0 n1 : Int) {β : Type} (f : Int → Int → Option β) :
    ((s36 N n0 (t.offices.length : Int)).bind fun v6 => (ck (v6 + 1)).bind fun v7 => (ck ((t.offices.length : Int) - 1)).bind fun v8 => (s36 N n1 v8).bind fun v9 => (ck (v7 + v9)).bind fun v10 =>
      (s36 N v10 (t.offices.length : Int)).bind fun v11 => f v6 v11) = f (frmV t n0) (toV t n0 n1) := by
  have o6 := G.o6
  have h1 := turn_in n0 (m := (t.offices.length : Int)) (by omega)
  have h3 := turn_in n1 (m := (t.offices.length : Int) - 1) (by omega)
  rw [s36_eq N n0 (by omega), bind_some', ck_ok (n := turnV n0 (t.offices.length : Int) + 1) (by omega), bind_some', ck_ok (n := (t.offices.length : Int) - 1) (by omega), bind_some',
    s36_eq N n1 (by omega), bind_some', ck_ok (n := turnV n0 (t.offices.length : Int) + 1 + turnV n1 ((t.offices.length : Int) - 1)) (by omega), bind_some', s36_eq N _ (by omega), bind_some']
  rfl
theorem betw_ok {t : Table} {a b u : Int} (hp : pairV t a b = true) (h0 : 0 ≤ u) (h1 : u ≤ 2879) : betw t a b u = true := by
  unfold betw
  rw [hp, amid_iff.2 ⟨h0, h1⟩]; rfl
theorem sure_ok {t : Table} {a b u : Int} (hv : V t = true) (hb : betw t a b u = true) : sureR t a b u = if (bestV t a b u).til == 2880 then (0, 4) else ((bestV t a b u).til, 0) := by
  unfold sureR
  rw [hv, hb]; rfl
theorem best_ok {t : Table} {a b u : Int} (hv : V t = true) (hb : betw t a b u = true) : bestR t a b u = if (bestV t a b u).til == 2880 then ([], 4) else ((bestV t a b u).route, 0) := by
  unfold bestR
  rw [hv, hb]; rfl
theorem soon_ok {t : Table} {a b u : Int} (hv : V t = true) (hb : betw t a b u = true) : soonR t a b u = if soonV t a b u == 2880 then (0, 4) else (soonV t a b u, 0) := by
  unfold soonR
  rw [hv, hb]; rfl
/-! ## Small things -/
theorem e40 : ((4 : Int) == 0) = false := rfl
theorem e44 : ((4 : Int) == 4) = true := rfl
theorem e00 : ((0 : Int) == 0) = true := rfl
theorem e04 : ((0 : Int) == 4) = false := rfl
theorem s46_eq (N : Nat) (x y : Int) : s46 N x y = some ⟨x, y⟩ := rfl

theorem ix_map {n : Nat} (f : Nat → Int) {a : Int} (h0 : 0 ≤ a) (h1 : a < n) : ix ((List.range n).map f) a = some (f a.toNat) := by
  unfold ix
  rw [if_pos h0, List.getElem?_map, List.getElem?_range (by omega)]
  rfl
/-- What a box that misses no train does. -/
theorem goes_car {t : Table} (G : Good t) {r : List Leg} (hr : legsV t r = true) {lt : List Int} (hl : LateOk t lt) {u : Int} (u0 : 0 ≤ u) (u1 : u ≤ 2879) (ho : isOp (ofc t (rF t r)) u = true) :
    (∀ m, car t lt 0 (u + t.load) r = .inl m → (goesV t u r == 0) = false ∧ ((whn t u r).low ≤ openR (ofc t (rT t r)) m ∧ openR (ofc t (rT t r)) m ≤ (whn t u r).high)) ∧
    (∀ i, car t lt 0 (u + t.load) r = .inr i → (goesV t u r == 2) = false ∧ (i : Int) ∈ mi t 0 u r ∧ (i : Int) < r.length) := by
  obtain ⟨hn, hlegs⟩ := legsV_legs hr
  obtain ⟨ht0, ht1⟩ := G.to' hr
  obtain ⟨_, _, o3⟩ := G.ofc ht0 ht1
  constructor
  · intro m hm
    obtain ⟨s', e, h1, h2⟩ := car_ok G hl r 0 u ⟨u, u⟩ m hlegs (Int.le_refl _) (Int.le_refl _) hm
    have hg : (goesV t u r == 0) = false := by
      unfold goesV
      rw [ho, e]
      cases (mis t u r).all fun b => !b <;> rfl
    refine ⟨hg, ?_⟩
    unfold whn
    rw [e]
    exact ⟨open_mono _ 0 _ _ o3 h1, open_mono _ 0 _ _ o3 h2⟩
  · intro i hi
    obtain ⟨h1, h2⟩ := car_miss G hl r 0 u u i hlegs (Int.le_refl _) hi
    refine ⟨?_, h1, by omega⟩
    have h3 := mi_nil (t := t) r 0 u
    have h4 : (((mi t 0 u r).length : Int) == 0) = false := by
      rw [beq_eq_false_iff_ne]
      have := List.length_pos_of_mem h1
      omega
    rw [h4] at h3
    unfold goesV
    rw [ho, ← h3]
    cases (arr t ⟨u, u⟩ r).isSome <;> rfl
theorem goes_mi {t : Table} {r : List Leg} {u : Int} (G : Good t) (hr : legsV t r = true) (ho : isOp (ofc t (rF t r)) u = true) : (goesV t u r == 2) = (((mi t 0 u r).length : Int) == 0) := by
  obtain ⟨_, hlegs⟩ := legsV_legs hr
  rw [mi_nil]
  unfold goesV
  rw [ho]
  cases hm : (mis t u r).all fun b => !b with
  | true =>
    have := sure_arr r ⟨u, u⟩ (fun x hx => (G.leg (hlegs x hx)).1.2.1) (Int.le_refl _) hm
    simp [this]
  | false => cases (arr t ⟨u, u⟩ r).isSome <;> rfl
theorem legs_mem {t : Table} {r : List Leg} (hr : legsV t r = true) : (1 ≤ r.length ∧ r.length ≤ 4) := (legsV_legs hr).1
theorem e20 : ((2 : Int) == 0) = false := rfl
end Go.Abs.Tr
