/- Plain law: when a box goes by a route, and when it is there. Conditions: none. -/
import Derived.Test.YtdlofkamkiojlaaDoorLd
namespace Go.Abs.Tr
open Go Go.Abs
set_option linter.unusedSimpArgs false

def ofc (t : Table) (st : Int) : List Span := (t.offices[st.toNat]?).getD default
/-- Which legs' trains can be missed: from the minute on in which the box comes. -/
def mis (t : Table) : Int → List Leg → List Bool
  | _, [] => []
  | at', x :: l => decide (at' + t.load > (sf t x).leave + (tr t x).late.low) :: mis t ((sg t x).arrive + (tr t x).late.high) l
/-- In which minutes the last train can arrive. -/
def arr (t : Table) : Span → List Leg → Option Span
  | s, [] => some s
  | s, x :: l => if mx (tr t x).late.low (s.low + t.load - (sf t x).leave) > (tr t x).late.high then none
    else arr t ⟨(sg t x).arrive + mx (tr t x).late.low (s.low + t.load - (sf t x).leave), (sg t x).arrive + (tr t x).late.high⟩ l
def ready (t : Table) (s : Span) : Span := ⟨s.low + t.load, s.high + t.load⟩
def tim (t : Table) : Bool → Bool → Span → Span → List Leg → Bool × Bool × Span
  | su, pe, _, th, [] => (su, pe, th)
  | su, pe, re, _, x :: l =>
    tim t (su && decide (re.high ≤ (sf t x).leave + (tr t x).late.low)) (pe && decide (mx (tr t x).late.low (re.low - (sf t x).leave) ≤ (tr t x).late.high))
      (ready t ⟨(sg t x).arrive + mx (tr t x).late.low (re.low - (sf t x).leave), (sg t x).arrive + (tr t x).late.high⟩)
      ⟨(sg t x).arrive + mx (tr t x).late.low (re.low - (sf t x).leave), (sg t x).arrive + (tr t x).late.high⟩ l

section facts
variable {t : Table} (G : Good t)
include G
theorem Good.leg {x : Leg} (h : LegV t x) : (0 ≤ (tr t x).late.low ∧ (tr t x).late.low ≤ (tr t x).late.high ∧ (tr t x).late.high ≤ 90) ∧
    (0 ≤ (sf t x).leave ∧ (sf t x).leave ≤ 2879) ∧ (0 ≤ (sg t x).arrive ∧ (sg t x).arrive ≤ 2879) := by
  have g := G.ts _ h.mt
  have a := g.st _ h.mf
  have b := g.st _ h.mg
  have := g.l0; have := g.l1; have := g.l2
  omega
theorem Good.ofc {st : Int} (h0 : 0 ≤ st) (h1 : st < t.offices.length) : ix t.offices st = some (ofc t st) ∧ (Go.Abs.Tr.ofc t st).length ≤ 3 ∧ officeV 0 (Go.Abs.Tr.ofc t st) = true := by
  obtain ⟨a, b⟩ := ix_in h0 h1
  exact ⟨a, G.os _ b⟩
theorem Good.from' {l : List Leg} (h : legsV t l = true) : 0 ≤ rF t l ∧ rF t l < t.offices.length := by
  obtain ⟨h1, h2⟩ := legsV_legs h
  cases l with
  | nil => simp at h1
  | cons x l =>
    have hx := h2 x List.mem_cons_self
    have := (G.ts _ hx.mt).st _ hx.mf
    simp only [rF, List.head?_cons, Option.getD_some]
    omega
theorem Good.to' {l : List Leg} (h : legsV t l = true) : 0 ≤ rT t l ∧ rT t l < t.offices.length := by
  obtain ⟨h1, h2⟩ := legsV_legs h
  obtain ⟨y, hy⟩ : ∃ y, l.getLast? = some y := by
    cases l with
    | nil => simp at h1
    | cons x l => exact ⟨_, List.getLast?_eq_some_getLast (by simp)⟩
  have hx := h2 y (List.mem_of_getLast? hy)
  have := (G.ts _ hx.mt).st _ hx.mg
  simp only [rT, hy, Option.getD_some]
  omega
end facts
theorem mx_ge (a b : Int) : a ≤ mx a b ∧ b ≤ mx a b := by simp only [mx]; split <;> omega
theorem mx_le {a b c : Int} (h : a ≤ c) (k : b ≤ c) : mx a b ≤ c := by simp only [mx]; split <;> omega

/-- The specification's calculation. -/
theorem s68_eq {N : Nat} {t : Table} (L : Lens N t) (G : Good t) {route : List Leg} (hr : legsV t route = true) {at' : Int} (h0 : 0 ≤ at') (h1 : at' ≤ 2879) :
    s68 N t route at' = some (let o := isOp (ofc t (rF t route)) at'; let r := tim t o o (ready t ⟨at', at'⟩) ⟨0, 0⟩ route; (r.2.2, r.1, r.2.1)) := by
  obtain ⟨hl, hlegs⟩ := legsV_legs hr
  have hN := L.n4
  have ga0 := G.a0
  have ga1 := G.a1
  obtain ⟨hf0, hf1⟩ := G.from' hr
  obtain ⟨o1, o2, o3⟩ := G.ofc hf0 hf1
  have main := iter_list (f := s68_l35 N t route) (S := Bool × Bool × Span × Span) (fun s i => (s.1, s.2.1, i, ⟨0, 0⟩, s.2.2.1, s.2.2.2)) route (by unfold big; omega)
    (fun s l => (∀ x ∈ l, LegV t x) ∧ (0 ≤ s.2.2.1.low ∧ s.2.2.1.low + 5000 * l.length ≤ 100000 ∧ 0 ≤ s.2.2.1.high ∧ s.2.2.1.high ≤ 100000))
    (fun s l => let r := tim t s.1 s.2.1 s.2.2.1 s.2.2.2 l; (r.1, r.2.1, ⟨0, 0⟩, r.2.2))
    (fun s _ => by
      unfold s68_l35
      have : decide (((route.length : Nat) : Int) < (route.length : Int)) = false := by simp
      simp only [this, tim]
      rfl)
    (fun i x l s hd hi hlt hck hI => by
      obtain ⟨su, pe, re, th⟩ := s
      obtain ⟨hI, i1, i2, i3, i4⟩ := hI
      have i1' : 0 ≤ re.low := i1
      have i2' : re.low + 5000 * ((l.length : Int) + 1) ≤ 100000 := by simpa using i2
      have i3' : 0 ≤ re.high := i3
      have i4' : re.high ≤ 100000 := i4
      have hx := hI x List.mem_cons_self
      obtain ⟨⟨a1, a2, a3⟩, ⟨a4, a5⟩, a6, a7⟩ := G.leg hx
      have g1 := mx_ge (tr t x).late.low (re.low - (sf t x).leave)
      have g2 := mx_le (a := (tr t x).late.low) (b := re.low - (sf t x).leave) (c := re.low + 90) (by omega) (by omega)
      left
      refine ⟨(su && decide (re.high ≤ (sf t x).leave + (tr t x).late.low), pe && decide (mx (tr t x).late.low (re.low - (sf t x).leave) ≤ (tr t x).late.high),
        ready t ⟨(sg t x).arrive + mx (tr t x).late.low (re.low - (sf t x).leave), (sg t x).arrive + (tr t x).late.high⟩, ⟨(sg t x).arrive + mx (tr t x).late.low (re.low - (sf t x).leave), (sg t x).arrive + (tr t x).late.high⟩), ?_, ⟨fun y hy => hI y (List.mem_cons_of_mem _ hy), ?_⟩, rfl⟩
      · unfold s68_l35
        generalize hM : mx (tr t x).late.low (re.low - (sf t x).leave) = m at g1 g2 ⊢
        simp only [hlt, decide_true, if_true, hi, bind_some', hck, hx.s72, hx.s73, hx.s74, ck_ok (n := (sf t x).leave + (tr t x).late.low) (by omega), ck_ok (n := re.low - (sf t x).leave) (by omega), hM,
          ck_ok (n := (sg t x).arrive + m) (by omega), ck_ok (n := (sg t x).arrive + (tr t x).late.high) (by omega), s46, ck_ok (n := (sg t x).arrive + m + t.load) (by omega), ck_ok (n := (sg t x).arrive + (tr t x).late.high + t.load) (by omega), ready]
        cases su <;> cases pe <;> rfl
      · show 0 ≤ (sg t x).arrive + mx (tr t x).late.low (re.low - (sf t x).leave) + t.load ∧ (sg t x).arrive + mx (tr t x).late.low (re.low - (sf t x).leave) + t.load + 5000 * (l.length : Int) ≤ 100000 ∧
          0 ≤ (sg t x).arrive + (tr t x).late.high + t.load ∧ (sg t x).arrive + (tr t x).late.high + t.load ≤ 100000
        omega)
    N (by omega) (isOp (ofc t (rF t route)) at', isOp (ofc t (rF t route)) at', ready t ⟨at', at'⟩, ⟨0, 0⟩) ⟨hlegs, by
      show 0 ≤ at' + t.load ∧ at' + t.load + 5000 * (route.length : Int) ≤ 100000 ∧ 0 ≤ at' + t.load ∧ at' + t.load ≤ 100000
      omega⟩
  have main' : iter (s68_l35 N t route) N (isOp (ofc t (rF t route)) at', isOp (ofc t (rF t route)) at', 0, ⟨0, 0⟩, ⟨at' + t.load, at' + t.load⟩, ⟨0, 0⟩) = _ := main
  unfold s68
  simp only [s59_eq L G, hr, if_true, bind_some', ck_ok (n := at' + t.load) (by omega), s46, s71_eq o1 o2 hN, open_at o3 h1]
  rw [main', bind_some']
theorem tim_su {t : Table} : ∀ (l : List Leg) (su pe : Bool) (re th : Span), (tim t su pe re th l).1 = (su && (mis t (re.high - t.load) l).all fun b => !b) := by
  intro l
  induction l with
  | nil => intro su pe re th; simp [tim, mis]
  | cons x l ih =>
    intro su pe re th
    unfold tim mis
    rw [ih, List.all_cons, Bool.and_assoc]
    congr 1
    have e : ∀ b : Int, b + t.load - t.load = b := fun b => by omega
    simp only [ready, e]
    congr 1
    by_cases h : re.high ≤ (sf t x).leave + (tr t x).late.low
    · rw [decide_eq_true h, decide_eq_false (by omega)]; rfl
    · rw [decide_eq_false h, decide_eq_true (by omega)]; rfl
theorem tim_no {t : Table} : ∀ (l : List Leg) (su : Bool) (re th : Span), (tim t su false re th l).2.1 = false := by
  intro l
  induction l with
  | nil => intro su re th; rfl
  | cons x l ih => intro su re th; unfold tim; exact ih _ _ _
theorem tim_pe {t : Table} : ∀ (l : List Leg) (su : Bool) (s th : Span), (tim t su true (ready t s) th l).2.1 = (arr t s l).isSome := by
  intro l
  induction l with
  | nil => intro su s th; rfl
  | cons x l ih =>
    intro su s th
    unfold tim arr
    have e : (ready t s).low - (sf t x).leave = s.low + t.load - (sf t x).leave := rfl
    rw [e]
    by_cases h : mx (tr t x).late.low (s.low + t.load - (sf t x).leave) > (tr t x).late.high
    · have h2 : decide (mx (tr t x).late.low (s.low + t.load - (sf t x).leave) ≤ (tr t x).late.high) = false := decide_eq_false (by omega)
      rw [if_pos h, h2]
      exact tim_no _ _ _ _
    · have h2 : decide (mx (tr t x).late.low (s.low + t.load - (sf t x).leave) ≤ (tr t x).late.high) = true := decide_eq_true (by omega)
      rw [if_neg h, h2]
      exact ih _ _ _
theorem tim_th {t : Table} : ∀ (l : List Leg) (su pe : Bool) (s s' th : Span), arr t s l = some s' → (l = [] → th = s) → (tim t su pe (ready t s) th l).2.2 = s' := by
  intro l
  induction l with
  | nil => intro su pe s s' th h k; injection h with h; rw [← h]; exact k rfl
  | cons x l ih =>
    intro su pe s s' th h _
    unfold arr at h
    unfold tim
    split at h
    · cases h
    · exact ih _ _ _ _ _ h (fun _ => rfl)
/-- What surely goes can go. -/
theorem sure_arr {t : Table} : ∀ (l : List Leg) (s : Span), (∀ x ∈ l, (tr t x).late.low ≤ (tr t x).late.high) → s.low ≤ s.high → ((mis t s.high l).all fun b => !b) = true → (arr t s l).isSome = true := by
  intro l
  induction l with
  | nil => intro s _ _ _; rfl
  | cons x l ih =>
    intro s hl hs h
    unfold mis at h
    simp only [List.all_cons, Bool.and_eq_true, Bool.not_eq_true', decide_eq_false_iff_not] at h
    have h1 := hl x List.mem_cons_self
    have e : mx (tr t x).late.low (s.low + t.load - (sf t x).leave) = (tr t x).late.low := by simp only [mx]; split <;> omega
    unfold arr
    rw [e, if_neg (by omega)]
    exact ih _ (fun y hy => hl y (List.mem_cons_of_mem _ hy)) (by show (sg t x).arrive + _ ≤ (sg t x).arrive + _; omega) h.2
theorem arr_in {t : Table} (G : Good t) : ∀ (l : List Leg) (s s' : Span), (∀ x ∈ l, LegV t x) → arr t s l = some s' → (0 ≤ s.low ∧ s.low ≤ 3000 ∧ 0 ≤ s.high ∧ s.high ≤ 3000) → (0 ≤ s'.low ∧ s'.low ≤ 3000 ∧ 0 ≤ s'.high ∧ s'.high ≤ 3000) := by
  intro l
  induction l with
  | nil => intro s s' _ h k; injection h with h; rw [← h]; exact k
  | cons x l ih =>
    intro s s' hl h k
    obtain ⟨⟨a1, a2, a3⟩, ⟨a4, a5⟩, a6, a7⟩ := G.leg (hl x List.mem_cons_self)
    have g1 := mx_ge (tr t x).late.low (s.low + t.load - (sf t x).leave)
    unfold arr at h
    split at h
    · cases h
    · exact ih _ _ (fun y hy => hl y (List.mem_cons_of_mem _ hy)) h (by
        show 0 ≤ (sg t x).arrive + mx _ _ ∧ (sg t x).arrive + mx _ _ ≤ 3000 ∧ 0 ≤ (sg t x).arrive + (tr t x).late.high ∧ (sg t x).arrive + (tr t x).late.high ≤ 3000
        omega)

/-- The program's calculation. -/
theorem s82_eq {N : Nat} (hN : 5000 ≤ N) (a b : Int) : s82 N a [b] = some (mx a b) := by
  have main := iter_list (f := s82_l7 N [b]) (S := Int) (fun s i => (s, i)) [b] (by simp [big]) (fun _ _ => True) (fun s l => l.foldl mx s)
    (fun s _ => by
      unfold s82_l7
      have : decide ((([b].length : Nat) : Int) < ([b].length : Int)) = false := by simp
      simp only [this]
      rfl)
    (fun i y r s hd hi hlt hck _ => by
      left
      refine ⟨mx s y, ?_, trivial, rfl⟩
      unfold s82_l7
      simp only [hlt, decide_true, if_true, hi, bind_some', hck])
    N (by simp; omega) a trivial
  unfold s82
  have main' : iter (s82_l7 N [b]) N (a, 0) = _ := main
  rw [main']
  rfl
def z0 : Spn := Spn.mk (Span.mk 0 0) false
def spn : Option Span → Spn
  | some s => ⟨s, true⟩
  | none => z0
theorem s95_eq {N : Nat} {t : Table} (L : Lens N t) (G : Good t) {route : List Leg} (hr : legsV t route = true) {at' : Int} (h0 : 0 ≤ at') (h1 : at' ≤ 2879) :
    s95 N (calcOf t) route at' = some (spn (arr t ⟨at', at'⟩ route)) := by
  obtain ⟨hl, hlegs⟩ := legsV_legs hr
  have hN := L.n4
  have ga0 := G.a0
  have ga1 := G.a1
  have main := iter_list (f := s95_l17 N (calcOf t) route) (S := Span) (fun s i => (i, z0, ⟨s, true⟩)) route (by unfold big; omega)
    (fun s l => (∀ x ∈ l, LegV t x) ∧ (0 ≤ s.low ∧ s.low ≤ 3000 ∧ 0 ≤ s.high ∧ s.high ≤ 3000))
    (fun s l => match arr t s l with | some s' => Sum.inl (z0, ⟨s', true⟩) | none => Sum.inr z0)
    (fun s _ => by
      unfold s95_l17
      have : decide (((route.length : Nat) : Int) < (route.length : Int)) = false := by simp
      simp only [this, arr]
      rfl)
    (fun i x l s hd hi hlt hck hI => by
      obtain ⟨hI, i1, i2, i3, i4⟩ := hI
      have hx := hI x List.mem_cons_self
      obtain ⟨⟨a1, a2, a3⟩, ⟨a4, a5⟩, a6, a7⟩ := G.leg hx
      have g1 := mx_ge (tr t x).late.low (s.low + t.load - (sf t x).leave)
      have ct : (calcOf t).t = t := rfl
      unfold s95_l17
      simp only [hlt, decide_true, if_true, hi, bind_some', hck, hx.s127, hx.s125, hx.s83, hx.s92, ct, ck_ok (n := s.low + t.load) (by omega), ck_ok (n := s.low + t.load - (sf t x).leave) (by omega), s82_eq hN, arr]
      generalize hM : mx (tr t x).late.low (s.low + t.load - (sf t x).leave) = m at g1 ⊢
      by_cases h : m > (tr t x).late.high
      · right
        simp only [h, decide_true, if_true]
        rfl
      · left
        refine ⟨⟨(sg t x).arrive + m, (sg t x).arrive + (tr t x).late.high⟩, ?_, ⟨fun y hy => hI y (List.mem_cons_of_mem _ hy), ?_⟩, ?_⟩
        · simp only [h, decide_false, Bool.false_eq_true, if_false, ck_ok (n := (sg t x).arrive + m) (by omega), ck_ok (n := (sg t x).arrive + (tr t x).late.high) (by omega), bind_some']
        · show 0 ≤ (sg t x).arrive + m ∧ (sg t x).arrive + m ≤ 3000 ∧ 0 ≤ (sg t x).arrive + (tr t x).late.high ∧ (sg t x).arrive + (tr t x).late.high ≤ 3000
          omega
        · simp only [h, if_false])
    N (by omega) ⟨at', at'⟩ ⟨hlegs, by show 0 ≤ at' ∧ at' ≤ 3000 ∧ 0 ≤ at' ∧ at' ≤ 3000; omega⟩
  have main' : iter (s95_l17 N (calcOf t) route) N (0, Spn.mk (Span.mk 0 0) false, Spn.mk (Span.mk at' at') true) = _ := main
  unfold s95
  rw [main', bind_some']
  cases arr t ⟨at', at'⟩ route <;> rfl
end Go.Abs.Tr
