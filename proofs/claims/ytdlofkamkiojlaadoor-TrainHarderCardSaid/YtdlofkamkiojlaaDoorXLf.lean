/- Plain law: the look at a timetable. Plain law: routes. Plain law: routes, by the program. Plain law: when an office is open. Plain law: when a box goes by a route, and when it is there. Plain law: Goes, Missed, There: the program and the specification. Conditions: none. -/
import Derived.Test.YtdlofkamkiojlaaDoorXGb
import Derived.Test.YtdlofkamkiojlaaDoorXGc
import Derived.Test.YtdlofkamkiojlaaDoorXOq
import Derived.Test.YtdlofkamkiojlaaDoorXGe
namespace Go.Abs.Tr
open Go Go.Abs

def big : Nat := 9223372036854775807

theorem ix_drop {α : Type} {xs : List α} {i : Nat} {a : α} {l : List α} (h : xs.drop i = a :: l) : ix xs (i : Int) = some a ∧ i < xs.length ∧ xs.drop (i + 1) = l := by
  have hi : i < xs.length := by
    rcases Nat.lt_or_ge i xs.length with h1 | h1
    · exact h1
    · rw [List.drop_eq_nil_of_le h1] at h; cases h
  rw [List.drop_eq_getElem_cons hi] at h
  injection h with h1 h2
  exact ⟨by rw [ix_ok hi, h1], hi, h2⟩

/-- A loop over the places of a list, from some place on. -/
theorem iter_from {α S St T : Type} {f : St → Option (St ⊕ T)} (mk : S → Int → St) (xs : List α) (hx : xs.length ≤ big) (I : S → List α → Prop) (g : S → List α → T)
    (hnil : ∀ s, I s [] → f (mk s xs.length) = some (.inr (g s [])))
    (hcons : ∀ (i : Nat) (a : α) (l : List α) (s : S), xs.drop i = a :: l → ix xs (i : Int) = some a → (i : Int) < xs.length → ck ((i : Int) + 1) = some ((i : Int) + 1) → I s (a :: l) →
      (∃ s', f (mk s i) = some (.inl (mk s' ((i : Int) + 1))) ∧ I s' l ∧ g s (a :: l) = g s' l) ∨ f (mk s i) = some (.inr (g s (a :: l)))) :
    ∀ (l : List α) (i : Nat) (s : S) (N : Nat), xs.drop i = l → i ≤ xs.length → l.length < N → I s l → iter f N (mk s (i : Int)) = some (g s l) := by
  intro l
  induction l with
  | nil =>
    intro i s N hd hi hN hI
    obtain ⟨M, rfl⟩ : ∃ M, N = M + 1 := ⟨N - 1, by omega⟩
    have e : i = xs.length := by have := congrArg List.length hd; simp at this; omega
    subst e
    unfold iter
    rw [hnil s hI]; rfl
  | cons a l ih =>
    intro i s N hd hi hN hI
    obtain ⟨M, rfl⟩ : ∃ M, N = M + 1 := ⟨N - 1, by omega⟩
    obtain ⟨h1, h2, h3⟩ := ix_drop hd
    unfold iter
    rcases hcons i a l s hd h1 (by omega) (ck_ok (by unfold big at hx; omega)) hI with ⟨s', e1, e2, e3⟩ | e1
    · rw [e1, e3]
      show iter f M (mk s' ((i : Int) + 1)) = _
      have := ih (i + 1) s' M h3 (by omega) (by simp at hN; omega) e2
      simpa using this
    · rw [e1]; rfl
/-- A loop over the places of a list. -/
theorem iter_list {α S St T : Type} {f : St → Option (St ⊕ T)} (mk : S → Int → St) (xs : List α) (hx : xs.length ≤ big) (I : S → List α → Prop) (g : S → List α → T)
    (hnil : ∀ s, I s [] → f (mk s xs.length) = some (.inr (g s [])))
    (hcons : ∀ (i : Nat) (a : α) (l : List α) (s : S), xs.drop i = a :: l → ix xs (i : Int) = some a → (i : Int) < xs.length → ck ((i : Int) + 1) = some ((i : Int) + 1) → I s (a :: l) →
      (∃ s', f (mk s i) = some (.inl (mk s' ((i : Int) + 1))) ∧ I s' l ∧ g s (a :: l) = g s' l) ∨ f (mk s i) = some (.inr (g s (a :: l)))) :
    ∀ N, xs.length < N → ∀ s, I s xs → iter f N (mk s 0) = some (g s xs) := by
  intro N hN s hI
  have := iter_from mk xs hx I g hnil hcons xs 0 s N rfl (by omega) hN hI
  simpa using this

/-! ## What is right -/
def amid (n low high : Int) : Bool := decide (low ≤ n) && decide (n ≤ high)
def legal (s : Span) (low high : Int) : Bool := (decide (low ≤ s.low) && decide (s.low ≤ s.high)) && decide (s.high ≤ high)
def officeV : Int → List Span → Bool
  | _, [] => true
  | from', s :: l => legal s from' 2879 && officeV (s.high + 1) l
def stopsV (n : Int) : Int → List Stop → Bool
  | _, [] => true
  | from', y :: l => ((amid y.station 0 (n - 1) && amid y.arrive from' 2879) && amid y.leave y.arrive 2879) && stopsV n (y.leave + 1) l
def trainV (n : Int) (x : Train) : Bool := (amid x.stops.length 2 5 && legal x.late 0 90) && stopsV n 0 x.stops
def V (t : Table) : Bool :=
  ((((amid t.offices.length 1 6 && decide ((t.trains.length : Int) ≤ 6)) && amid t.load 0 60) && t.offices.all fun l => decide ((l.length : Int) ≤ 3) && officeV 0 l)) && t.trains.all (trainV t.offices.length)

theorem s47_eq (N : Nat) (a b c : Int) : s47 N a b c = some (amid a b c) := rfl
theorem s60_eq (N : Nat) (a b c : Int) : s60 N a b c = some (amid a b c) := rfl
theorem s62_eq (N : Nat) (a : Span) (b c : Int) : s62 N a b c = some (legal a b c) := rfl
theorem s61_eq (N : Nat) (a : Span) (b c : Int) : s61 N a b c = some (legal a b c) := rfl
theorem ck_len {n : Nat} (h : n ≤ big) : ck ((n : Int) - 1) = some ((n : Int) - 1) := ck_ok (by unfold big at h; omega)
theorem bind_some' {α β : Type} (a : α) (f : α → Option β) : (some a).bind f = f a := rfl

/-- What the call may be told. -/
structure Lens (N : Nat) (t : Table) : Prop where
  o : t.offices.length ≤ big
  tr : t.trains.length ≤ big
  os : ∀ l ∈ t.offices, l.length ≤ big
  ts : ∀ x ∈ t.trains, x.stops.length ≤ big
  no : t.offices.length < N
  nt : t.trains.length < N
  nos : ∀ l ∈ t.offices, l.length < N
  nts : ∀ x ∈ t.trains, x.stops.length < N
  n4 : 5000 ≤ N
  n10 : 10000000000 ≤ N

theorem mem_drop {α : Type} {xs : List α} {i : Nat} {a : α} {l : List α} (h : xs.drop i = a :: l) : a ∈ xs := List.mem_of_mem_drop (i := i) (by rw [h]; exact List.mem_cons_self)

/-! ## The program's look -/
theorem office14 {N : Nat} {l : List Span} (h1 : l.length ≤ big) (h2 : l.length < N) (ok : Bool) :
    iter (s14_l26 N l) N (ok, -1, 0) = some (ok && officeV 0 l) := by
  have main := iter_list (f := s14_l26 N l) (S := Bool × Int) (fun s i => (s.1, s.2, i)) l h1 (fun s _ => s.1 = true → -1 ≤ s.2 ∧ s.2 ≤ 2879) (fun s r => s.1 && officeV (s.2 + 1) r)
    (fun s _ => by
      unfold s14_l26
      have : decide (((l.length : Nat) : Int) < (l.length : Int)) = false := by simp
      simp only [this, officeV, Bool.and_true]
      rfl)
    (fun i y r s hd hi hlt hck hI => by
      obtain ⟨ok, fr⟩ := s
      left
      refine ⟨((ok && legal y (fr + 1) 2879), y.high), ?_, ?_, ?_⟩
      · unfold s14_l26
        cases ok with
        | false => simp only [hlt, decide_true, if_true, hi, bind_some', hck]; rfl
        | true =>
          obtain ⟨a, b⟩ := hI rfl
          have a' : -1 ≤ fr := a
          have b' : fr ≤ 2879 := b
          simp only [hlt, decide_true, if_true, hi, bind_some', hck, ck_ok (n := fr + 1) (by omega), s61_eq, Bool.true_and]
      · intro hv
        simp only [legal, Bool.and_eq_true, decide_eq_true_eq] at hv
        obtain ⟨rfl, hv⟩ := hv
        have a' : -1 ≤ fr := (hI rfl).1
        show -1 ≤ y.high ∧ y.high ≤ 2879
        omega
      · simp only [officeV, Bool.and_assoc])
    N h2 (ok, -1) (fun _ => by show -1 ≤ (-1 : Int) ∧ (-1 : Int) ≤ 2879; omega)
  exact main
theorem stops14 {N : Nat} {t : Table} (L : Lens N t) {x : Train} (hx : x ∈ t.trains) (ok : Bool) :
    iter (s14_l62 N t x) N (ok, -1, 0) = some (ok && stopsV t.offices.length 0 x.stops) := by
  have main := iter_list (f := s14_l62 N t x) (S := Bool × Int) (fun s i => (s.1, s.2, i)) x.stops (L.ts x hx) (fun s _ => s.1 = true → -1 ≤ s.2 ∧ s.2 ≤ 2879) (fun s r => s.1 && stopsV t.offices.length (s.2 + 1) r)
    (fun s _ => by
      unfold s14_l62
      have : decide (((x.stops.length : Nat) : Int) < (x.stops.length : Int)) = false := by simp
      simp only [this, stopsV, Bool.and_true]
      rfl)
    (fun i y r s hd hi hlt hck hI => by
      obtain ⟨ok, fr⟩ := s
      left
      refine ⟨((ok && ((amid y.station 0 ((t.offices.length : Int) - 1) && amid y.arrive (fr + 1) 2879) && amid y.leave y.arrive 2879)), y.leave), ?_, ?_, ?_⟩
      · unfold s14_l62
        cases ok with
        | false => simp only [hlt, decide_true, if_true, hi, bind_some', hck]; rfl
        | true =>
          obtain ⟨a, b⟩ := hI rfl
          have a' : -1 ≤ fr := a
          have b' : fr ≤ 2879 := b
          simp only [hlt, decide_true, if_true, hi, bind_some', hck, ck_ok (n := fr + 1) (by omega), ck_len L.o, s60_eq, Bool.true_and]
          cases amid y.station 0 ((t.offices.length : Int) - 1) <;> cases amid y.arrive (fr + 1) 2879 <;> rfl
      · intro hv
        simp only [amid, Bool.and_eq_true, decide_eq_true_eq] at hv
        obtain ⟨rfl, hv⟩ := hv
        have a' : -1 ≤ fr := (hI rfl).1
        show -1 ≤ y.leave ∧ y.leave ≤ 2879
        omega
      · simp only [stopsV, Bool.and_assoc])
    N (L.nts x hx) (ok, -1) (fun _ => by show -1 ≤ (-1 : Int) ∧ (-1 : Int) ≤ 2879; omega)
  exact main
theorem s14_eq {N : Nat} {t : Table} (L : Lens N t) : s14 N t = some (if V t then 0 else 30) := by
  have m1 := iter_list (f := s14_l28 N t) (S := Bool) (fun s i => (s, i)) t.offices L.o (fun _ _ => True) (fun s r => s && r.all fun l => decide ((l.length : Int) ≤ 3) && officeV 0 l)
    (fun s _ => by
      unfold s14_l28
      have : decide (((t.offices.length : Nat) : Int) < (t.offices.length : Int)) = false := by simp
      simp only [this, List.all_nil, Bool.and_true]
      rfl)
    (fun i y r s hd hi hlt hck _ => by
      left
      refine ⟨(s && decide ((y.length : Int) ≤ 3)) && officeV 0 y, ?_, trivial, ?_⟩
      · unfold s14_l28
        simp only [hlt, decide_true, if_true, hi, bind_some', hck]
        rw [office14 (L.os y (mem_drop hd)) (L.nos y (mem_drop hd))]
        rfl
      · rw [List.all_cons, Bool.and_assoc, Bool.and_assoc, Bool.and_assoc])
    N L.no
  have m2 := iter_list (f := s14_l64 N t) (S := Bool) (fun s i => (s, i)) t.trains L.tr (fun _ _ => True) (fun s r => s && r.all (trainV t.offices.length))
    (fun s _ => by
      unfold s14_l64
      have : decide (((t.trains.length : Nat) : Int) < (t.trains.length : Int)) = false := by simp
      simp only [this, List.all_nil, Bool.and_true]
      rfl)
    (fun i y r s hd hi hlt hck _ => by
      left
      refine ⟨((s && amid y.stops.length 2 5) && legal y.late 0 90) && stopsV t.offices.length 0 y.stops, ?_, trivial, ?_⟩
      · unfold s14_l64
        have e1 : ((if s = true then (s60 N y.stops.length 2 5).bind fun v36 => some v36 else some false)) = some (s && amid y.stops.length 2 5) := by cases s <;> rfl
        have e2 : ((if (s && amid y.stops.length 2 5) = true then (s61 N y.late 0 90).bind fun v40 => some v40 else some false)) = some ((s && amid y.stops.length 2 5) && legal y.late 0 90) := by
          cases (s && amid y.stops.length 2 5) <;> rfl
        simp only [hlt, decide_true, if_true, hi, bind_some', hck]
        rw [e1, bind_some', e2, bind_some', stops14 L (mem_drop hd)]
        rfl
      · rw [List.all_cons, trainV]
        simp only [Bool.and_assoc])
    N L.nt
  unfold s14
  rw [s60_eq, bind_some']
  have e1 : (if (amid t.offices.length 1 6 && decide ((t.trains.length : Int) ≤ 6)) = true then (s60 N t.load 0 60).bind fun v6 => some v6 else some false) =
      some ((amid t.offices.length 1 6 && decide ((t.trains.length : Int) ≤ 6)) && amid t.load 0 60) := by
    cases (amid t.offices.length 1 6 && decide ((t.trains.length : Int) ≤ 6)) <;> rfl
  rw [e1, bind_some', m1 _ trivial, bind_some', m2 _ trivial, bind_some']
  show (if !V t then some 30 else some 0) = _
  cases V t <;> rfl
end Go.Abs.Tr

namespace Go.Abs.Tr
open Go Go.Abs
set_option linter.unusedSimpArgs false

/-- What a right timetable is. -/
structure GoodTrain (n : Nat) (x : Train) : Prop where
  n2 : 2 ≤ x.stops.length
  n5 : x.stops.length ≤ 5
  l0 : 0 ≤ x.late.low
  l1 : x.late.low ≤ x.late.high
  l2 : x.late.high ≤ 90
  ord : stopsV n 0 x.stops = true
  st : ∀ y ∈ x.stops, 0 ≤ y.station ∧ y.station < n ∧ 0 ≤ y.arrive ∧ y.arrive ≤ y.leave ∧ y.leave ≤ 2879
structure Good (t : Table) : Prop where
  o1 : 1 ≤ t.offices.length
  o6 : t.offices.length ≤ 6
  t6 : t.trains.length ≤ 6
  a0 : 0 ≤ t.load
  a1 : t.load ≤ 60
  os : ∀ l ∈ t.offices, l.length ≤ 3 ∧ officeV 0 l = true
  ts : ∀ x ∈ t.trains, GoodTrain t.offices.length x
theorem amid_iff {n a b : Int} : amid n a b = true ↔ a ≤ n ∧ n ≤ b := by simp [amid]
theorem legal_iff {s : Span} {a b : Int} : legal s a b = true ↔ (a ≤ s.low ∧ s.low ≤ s.high) ∧ s.high ≤ b := by simp [legal]
theorem stopsV_good {n : Nat} : ∀ (l : List Stop) (f : Int), 0 ≤ f → stopsV n f l = true → ∀ y ∈ l, 0 ≤ y.station ∧ y.station < n ∧ 0 ≤ y.arrive ∧ y.arrive ≤ y.leave ∧ y.leave ≤ 2879 := by
  intro l
  induction l with
  | nil => intro f _ _ y hy; cases hy
  | cons x l ih =>
    intro f hf h y hy
    simp only [stopsV, Bool.and_eq_true, amid_iff] at h
    rcases List.mem_cons.1 hy with rfl | hy
    · omega
    · exact ih _ (by omega) h.2 y hy
theorem good_of {t : Table} (h : V t = true) : Good t := by
  simp only [V, Bool.and_eq_true, List.all_eq_true, amid_iff, decide_eq_true_eq] at h
  obtain ⟨⟨⟨⟨⟨h1, h2⟩, h3⟩, h4⟩, h5⟩, h6⟩ := h
  refine ⟨by omega, by omega, by omega, by omega, by omega, fun l hl => ⟨by have := (h5 l hl).1; omega, (h5 l hl).2⟩, fun x hx => ?_⟩
  have := h6 x hx
  simp only [trainV, Bool.and_eq_true, amid_iff, legal_iff] at this
  obtain ⟨⟨k1, k2⟩, k3⟩ := this
  exact ⟨by omega, by omega, by omega, by omega, by omega, k3, stopsV_good _ _ (Int.le_refl _) k3⟩

/-! ## Legs -/
def tr (t : Table) (x : Leg) : Train := (t.trains[x.train.toNat]?).getD default
def sf (t : Table) (x : Leg) : Stop := ((tr t x).stops[x.frm.toNat]?).getD default
def sg (t : Table) (x : Leg) : Stop := ((tr t x).stops[x.to.toNat]?).getD default
structure LegV (t : Table) (x : Leg) : Prop where
  t0 : 0 ≤ x.train
  t1 : x.train < t.trains.length
  f0 : 0 ≤ x.frm
  f1 : x.frm < x.to
  f2 : x.to < (tr t x).stops.length
instance (t : Table) (x : Leg) : Decidable (LegV t x) :=
  decidable_of_iff (0 ≤ x.train ∧ x.train < t.trains.length ∧ 0 ≤ x.frm ∧ x.frm < x.to ∧ x.to < (tr t x).stops.length) ⟨fun ⟨a, b, c, d, e⟩ => ⟨a, b, c, d, e⟩, fun ⟨a, b, c, d, e⟩ => ⟨a, b, c, d, e⟩⟩
theorem ix_in {α : Type} [Inhabited α] {l : List α} {i : Int} (h0 : 0 ≤ i) (h1 : i < l.length) : ix l i = some ((l[i.toNat]?).getD default) ∧ (l[i.toNat]?).getD default ∈ l := by
  obtain ⟨n, rfl⟩ : ∃ n : Nat, i = n := ⟨i.toNat, by omega⟩
  have hn : n < l.length := by omega
  rw [ix_ok hn]
  simp [hn]
section leg
variable {t : Table} {x : Leg} (h : LegV t x)
include h
theorem LegV.ixt : ix t.trains x.train = some (tr t x) := (ix_in h.t0 h.t1).1
theorem LegV.mt : tr t x ∈ t.trains := (ix_in h.t0 h.t1).2
theorem LegV.ixf : ix (tr t x).stops x.frm = some (sf t x) := (ix_in h.f0 (by have := h.f1; have := h.f2; omega)).1
theorem LegV.mf : sf t x ∈ (tr t x).stops := (ix_in h.f0 (by have := h.f1; have := h.f2; omega)).2
theorem LegV.ixg : ix (tr t x).stops x.to = some (sg t x) := (ix_in (by have := h.f0; have := h.f1; omega) h.f2).1
theorem LegV.mg : sg t x ∈ (tr t x).stops := (ix_in (by have := h.f0; have := h.f1; omega) h.f2).2
variable (N : Nat)
theorem LegV.s72 : s72 N t x = some (sf t x) := by unfold Go.Abs.Tr.s72; rw [h.ixt, bind_some', h.ixf]; rfl
theorem LegV.s74 : s74 N t x = some (sg t x) := by unfold Go.Abs.Tr.s74; rw [h.ixt, bind_some', h.ixg]; rfl
theorem LegV.s73 : s73 N t x = some (tr t x).late := by unfold Go.Abs.Tr.s73; rw [h.ixt]; rfl
theorem LegV.s83 : s83 N (calcOf t) x = some (sf t x) := by unfold Go.Abs.Tr.s83; show (ix t.trains x.train).bind _ = _; rw [h.ixt, bind_some', h.ixf]; rfl
theorem LegV.s92 : s92 N (calcOf t) x = some (sg t x) := by unfold Go.Abs.Tr.s92; show (ix t.trains x.train).bind _ = _; rw [h.ixt, bind_some', h.ixg]; rfl
theorem LegV.s127 : s127 N (calcOf t) x.train = some (tr t x).late.low := by unfold Go.Abs.Tr.s127; show (ix t.trains x.train).bind _ = _; rw [h.ixt]; rfl
theorem LegV.s125 : s125 N (calcOf t) x.train = some (tr t x).late.high := by unfold Go.Abs.Tr.s125; show (ix t.trains x.train).bind _ = _; rw [h.ixt]; rfl
end leg

/-! ## Routes -/
def linkV (t : Table) (pre : List Leg) (x : Leg) : Bool := match pre.getLast? with
  | none => true
  | some y => (sg t y).station == (sf t x).station
def chainV (t : Table) : List Leg → List Leg → Bool
  | _, [] => true
  | pre, x :: l => ((decide (LegV t x) && !(pre.any fun y => y.train == x.train)) && linkV t pre x) && chainV t (pre ++ [x]) l
def rF (t : Table) (l : List Leg) : Int := (sf t (l.head?.getD default)).station
def rT (t : Table) (l : List Leg) : Int := (sg t (l.getLast?.getD default)).station
/-- Legs that hang together. -/
def legsV (t : Table) (l : List Leg) : Bool := amid l.length 1 4 && chainV t [] l
def isR (t : Table) (l : List Leg) : Bool := legsV t l && !(rF t l == rT t l)
theorem chainV_legs {t : Table} : ∀ (l pre : List Leg), chainV t pre l = true → ∀ x ∈ l, LegV t x := by
  intro l
  induction l with
  | nil => intro pre _ x hx; cases hx
  | cons y l ih =>
    intro pre h x hx
    simp only [chainV, Bool.and_eq_true, decide_eq_true_eq] at h
    rcases List.mem_cons.1 hx with rfl | hx
    · exact h.1.1.1
    · exact ih _ h.2 x hx
theorem legsV_legs {t : Table} {l : List Leg} (h : legsV t l = true) : (1 ≤ l.length ∧ l.length ≤ 4) ∧ ∀ x ∈ l, LegV t x := by
  simp only [legsV, Bool.and_eq_true, amid_iff] at h
  exact ⟨⟨by omega, by omega⟩, chainV_legs _ _ h.2⟩

theorem ix_left {α : Type} {pre l : List α} {i : Nat} {a : α} (h : ix pre (i : Int) = some a) : ix (pre ++ l) (i : Int) = some a := by
  obtain ⟨h0, h1⟩ := ix_some h
  unfold ix
  rw [if_pos h0, List.getElem?_append_left (by
    rcases Nat.lt_or_ge (i : Int).toNat pre.length with h | h
    · exact h
    · rw [List.getElem?_eq_none h] at h1; cases h1)]
  exact h1
theorem ix_last {α : Type} {pre l : List α} {y : α} (h : pre.getLast? = some y) : ix (pre ++ l) ((pre.length : Int) - 1) = some y := by
  have hp : 0 < pre.length := by
    cases pre with
    | nil => cases h
    | cons a l => simp
  have e : ((pre.length : Int) - 1) = ((pre.length - 1 : Nat) : Int) := by omega
  rw [e]
  apply ix_left
  rw [List.getLast?_eq_getElem?] at h
  unfold ix
  rw [if_pos (by omega)]
  simpa using h

end Go.Abs.Tr

namespace Go.Abs.Tr
open Go Go.Abs
set_option linter.unusedSimpArgs false

/-- Which trains were met. -/
def metOf (pre : List Leg) : List Bool := pre.foldl (fun m x => m.set x.train.toNat true) (List.replicate 6 false)
theorem metOf_snoc (pre : List Leg) (x : Leg) : metOf (pre ++ [x]) = (metOf pre).set x.train.toNat true := by simp [metOf]
theorem metOf_len (pre : List Leg) : (metOf pre).length = 6 := by
  have : ∀ (l : List Leg) (m : List Bool), m.length = 6 → (l.foldl (fun m x => m.set x.train.toNat true) m).length = 6 := by
    intro l
    induction l with
    | nil => intro m h; exact h
    | cons x l ih => intro m h; exact ih _ (by simp [h])
  exact this pre _ rfl
theorem metOf_get (pre : List Leg) (hp : ∀ y ∈ pre, 0 ≤ y.train) (k : Nat) (hk : k < 6) : (metOf pre)[k]? = some (pre.any fun y => y.train == (k : Int)) := by
  have : ∀ (l : List Leg) (m : List Bool) (b : Bool), m.length = 6 → (∀ y ∈ l, 0 ≤ y.train) → m[k]? = some b → (l.foldl (fun m x => m.set x.train.toNat true) m)[k]? = some (b || l.any fun y => y.train == (k : Int)) := by
    intro l
    induction l with
    | nil => intro m b _ _ h; simpa using h
    | cons x l ih =>
      intro m b hm hl h
      have h0 := hl x List.mem_cons_self
      rw [List.foldl_cons, ih _ (b || x.train == (k : Int)) (by simp [hm]) (fun y hy => hl y (List.mem_cons_of_mem _ hy)), List.any_cons, Bool.or_assoc]
      rw [List.getElem?_set]
      by_cases e : x.train.toNat = k
      · have : x.train = (k : Int) := by omega
        simp [e, this, hm, hk]
      · have : (x.train == (k : Int)) = false := by simp; omega
        simp [e, h, this]
  have h := this pre (List.replicate 6 false) false rfl hp (List.getElem?_replicate_of_lt hk)
  simpa [metOf] using h
theorem metOf_ne {x : Leg} {l : List Leg} (hp : ∀ y ∈ x :: l, 0 ≤ y.train) (hx : x.train < 6) : metOf (x :: l) ≠ List.replicate 6 false := by
  intro h
  have h0 := hp x List.mem_cons_self
  have h1 := metOf_get (x :: l) hp x.train.toNat (by omega)
  rw [h, List.getElem?_replicate_of_lt (by omega)] at h1
  have e : ((x.train.toNat : Nat) : Int) = x.train := by omega
  rw [e] at h1
  simp at h1
theorem ix_met {pre : List Leg} (hp : ∀ y ∈ pre, 0 ≤ y.train) {k : Int} (h0 : 0 ≤ k) (h6 : k < 6) : ix (metOf pre) k = some (pre.any fun y => y.train == k) := by
  unfold ix
  rw [if_pos h0, metOf_get pre hp k.toNat (by omega)]
  have e : ((k.toNat : Nat) : Int) = k := by omega
  rw [e]
theorem inA6 {k : Int} (h0 : 0 ≤ k) (h6 : k < 6) : inA 6 k = some () := if_pos ⟨h0, by omega⟩
theorem set_met {pre : List Leg} {x : Leg} (h0 : 0 ≤ x.train) (h6 : x.train < 6) : setA (metOf pre) x.train true = some (metOf (pre ++ [x])) := by
  rw [metOf_snoc]
  exact if_pos ⟨h0, by rw [metOf_len]; omega⟩
theorem lenC6 {l : List Bool} (h : l.length = 6) : lenC 6 l = some () := if_pos h
theorem s93_eq (N : Nat) : s93 N = some (List.replicate 6 false) := rfl

theorem s55_eq (N : Nat) {t : Table} {l : List Leg} (h : legsV t l = true) : s55 N (calcOf t) l = some (rF t l) := by
  obtain ⟨h1, h2⟩ := legsV_legs h
  cases l with
  | nil => simp at h1
  | cons x l =>
    have i0 : ix (x :: l) 0 = some x := rfl
    unfold s55
    simp only [i0, bind_some', (h2 x List.mem_cons_self).s83, rF, List.head?_cons, Option.getD_some]
theorem s56_eq (N : Nat) {t : Table} {l : List Leg} (h : legsV t l = true) : s56 N (calcOf t) l = some (rT t l) := by
  obtain ⟨h1, h2⟩ := legsV_legs h
  obtain ⟨y, hy⟩ : ∃ y, l.getLast? = some y := by
    cases l with
    | nil => simp at h1
    | cons x l => exact ⟨_, List.getLast?_eq_some_getLast (by simp)⟩
  have i1 : ix l ((l.length : Int) - 1) = some y := by
    have := ix_last (l := []) hy
    rwa [List.append_nil] at this
  unfold s56
  simp only [ck_ok (n := (l.length : Int) - 1) (by omega), i1, bind_some', (h2 y (List.mem_of_getLast? hy)).s92, rT, hy, Option.getD_some]

/-- The program's test of a list of legs. -/
theorem s54_eq {N : Nat} {t : Table} (L : Lens N t) (G : Good t) (route : List Leg) : s54 N (calcOf t) route = some (isR t route) := by
  unfold s54
  rw [s60_eq, bind_some']
  cases ha : amid route.length 1 4 with
  | false => simp [isR, legsV, ha]
  | true =>
    have hl := amid_iff.1 ha
    simp only [Bool.not_true, Bool.false_eq_true, if_false]
    have hN := L.n4
    have main := iter_list (f := s54_l40 N (calcOf t) route) (S := List Leg) (fun pre i => (i, metOf pre)) route (by unfold big; omega) (fun pre l => pre ++ l = route ∧ ∀ x ∈ pre, LegV t x)
      (fun pre l => cond (chainV t pre l) (Sum.inl (metOf (pre ++ l))) (Sum.inr false))
      (fun s _ => by
        unfold s54_l40
        have : decide (((route.length : Nat) : Int) < (route.length : Int)) = false := by simp
        simp only [this, chainV, cond_true, List.append_nil]
        rfl)
      (fun i x l pre hd hi hlt hck hI => by
        obtain ⟨hI, hp⟩ := hI
        have hpi : pre.length = i := by
          have h1 := congrArg List.length hd
          have h2 := congrArg List.length hI
          simp at h1 h2; omega
        have hp0 : ∀ y ∈ pre, 0 ≤ y.train := fun y hy => (hp y hy).t0
        unfold s54_l40
        have ct : (calcOf t).t = t := rfl
        simp only [hlt, decide_true, if_true, hi, bind_some', hck, ct, ck_len L.tr, s60_eq]
        by_cases hv : LegV t x
        · have a1 : amid x.train 0 ((t.trains.length : Int) - 1) = true := amid_iff.2 ⟨hv.t0, by have := hv.t1; omega⟩
          have h6 : x.train < 6 := by have := hv.t1; have := G.t6; omega
          have a2 : amid x.frm 0 (((tr t x).stops.length : Int) - 1) = true := amid_iff.2 ⟨hv.f0, by have := hv.f1; have := hv.f2; omega⟩
          have a3 : amid x.to (x.frm + 1) (((tr t x).stops.length : Int) - 1) = true := amid_iff.2 ⟨by have := hv.f1; omega, by have := hv.f2; omega⟩
          have gt := G.ts _ hv.mt
          have b2 : x.to < 5 := by have := hv.f2; have := gt.n5; omega
          have b3 := hv.f0
          have b4 := hv.f1
          simp only [a1, Bool.not_true, Bool.false_eq_true, if_false, inA6 hv.t0 h6, bind_some', ix_met hp0 hv.t0 h6]
          cases hany : pre.any (fun y => y.train == x.train) with
          | true =>
            right
            simp [chainV, hv, hany]
          | false =>
            have link : (if decide ((i : Int) > 0) = true then (ck ((i : Int) - 1)).bind fun v31 => (ix route v31).bind fun v32 => (Go.Abs.Tr.s92 N (calcOf t) v32).bind fun v33 => (Go.Abs.Tr.s83 N (calcOf t) x).bind fun v34 => some (!(v33.station == v34.station)) else some false) = some (!linkV t pre x) := by
              unfold linkV
              cases hg : pre.getLast? with
              | none =>
                have : pre = [] := List.getLast?_eq_none_iff.1 hg
                subst this
                have : i = 0 := by simpa using hpi.symm
                subst this
                rfl
              | some y =>
                have hpos : 0 < pre.length := by
                  cases pre with
                  | nil => cases hg
                  | cons a l => simp
                have hy := hp y (List.mem_of_getLast? hg)
                have hix : ix route ((i : Int) - 1) = some y := by rw [← hI, ← hpi]; exact ix_last hg
                have hgt : decide ((i : Int) > 0) = true := decide_eq_true (by omega)
                rw [hgt, if_pos rfl, ck_ok (by omega), bind_some', hix, bind_some', hy.s92, bind_some', hv.s83, bind_some']
            simp only [Bool.false_eq_true, if_false, hv.ixt, ck_len (L.ts _ hv.mt), bind_some', a2, a3, Bool.not_true, ck_ok (n := x.frm + 1) (by omega)]
            rw [link, bind_some']
            cases hlk : linkV t pre x with
            | false =>
              right
              simp [chainV, hv, hany, hlk]
            | true =>
              left
              refine ⟨pre ++ [x], by simp [set_met hv.t0 h6], ⟨by rw [List.append_assoc]; exact hI, fun z hz => ?_⟩, ?_⟩
              · rcases List.mem_append.1 hz with hz | hz
                · exact hp z hz
                · simp at hz; subst hz; exact hv
              · simp [chainV, hv, hany, hlk]
        · right
          have e0 : chainV t pre (x :: l) = false := by simp [chainV, hv]
          rw [e0]
          by_cases c1 : amid x.train 0 ((t.trains.length : Int) - 1) = true
          · have c1' := amid_iff.1 c1
            have h6 : x.train < 6 := by have := G.t6; omega
            have hixt : ix t.trains x.train = some (tr t x) := (ix_in c1'.1 (by omega)).1
            have hmt : tr t x ∈ t.trains := (ix_in c1'.1 (by omega)).2
            have gt := G.ts _ hmt
            simp only [c1, Bool.not_true, Bool.false_eq_true, if_false, inA6 c1'.1 h6, bind_some', ix_met hp0 c1'.1 h6]
            cases hany : pre.any (fun y => y.train == x.train) with
            | true => simp
            | false =>
              simp only [Bool.false_eq_true, if_false, hixt, bind_some', ck_len (L.ts _ hmt)]
              by_cases c2 : amid x.frm 0 (((tr t x).stops.length : Int) - 1) = true
              · have c2' := amid_iff.1 c2
                have c3 : amid x.to (x.frm + 1) (((tr t x).stops.length : Int) - 1) = false := by
                  rw [Bool.eq_false_iff]
                  intro c3
                  have c3' := amid_iff.1 c3
                  exact hv ⟨c1'.1, by omega, c2'.1, by omega, by omega⟩
                have b2 := gt.n5
                simp only [c2, Bool.not_true, Bool.false_eq_true, if_false, ck_ok (n := x.frm + 1) (by omega), bind_some', c3, Bool.not_false, if_true, cond_false]
              · simp [Bool.eq_false_iff.2 c2]
          · simp [Bool.eq_false_iff.2 c1])
      N (by omega) [] ⟨rfl, fun _ h => by cases h⟩
    have main' : iter (s54_l40 N (calcOf t) route) N (0, List.replicate 6 false) = _ := main
    rw [main', bind_some']
    cases hc : chainV t [] route with
    | false => simp [isR, legsV, ha, hc]
    | true =>
      have hlv : legsV t route = true := by simp [legsV, ha, hc]
      have hlegs := chainV_legs _ _ hc
      have hne : metOf ([] ++ route) ≠ List.replicate 6 false := by
        cases hr : route with
        | nil => rw [hr] at hl; simp at hl
        | cons x l =>
          rw [hr] at hlegs
          have hx := hlegs x List.mem_cons_self
          exact metOf_ne (fun y hy => (hlegs y hy).t0) (by have := hx.t1; have := G.t6; omega)
      simp only [cond_true, lenC6 (metOf_len _), lenC6 (l := List.replicate 6 false) rfl, s93_eq, bind_some', decide_eq_false hne, Bool.not_false, if_true, s55_eq N hlv, s56_eq N hlv, isR, hlv, Bool.true_and]

/-! ## What is asked -/
theorem okT_good {t : Table} (G : Good t) : okT t = true := by
  simp only [okT, Bool.and_eq_true, decide_eq_true_eq, List.all_eq_true]
  exact ⟨by have := G.t6; omega, fun x hx => by have := (G.ts x hx).n5; omega⟩
theorem s91_eq (N : Nat) {t : Table} (G : Good t) : s91 N t = some (calcOf t) := if_pos (okT_good G)
def noCalc : Calc := Calc.mk (Table.mk [] [] 0) []
theorem s51_eq {N : Nat} {t : Table} (L : Lens N t) {p : Calc → Option Bool} {b : Bool} (h : Good t → p (calcOf t) = some b) :
    s51 N t p = some (if V t then (if b then (calcOf t, 0) else (noCalc, 31)) else (noCalc, 30)) := by
  unfold s51
  rw [s14_eq L, bind_some']
  cases hv : V t with
  | false => rfl
  | true =>
    have G := good_of hv
    simp only [if_true]
    have e : (!((0 : Int) == 0)) = false := rfl
    simp only [e, Bool.false_eq_true, if_false, s91_eq N G, bind_some', h G]
    cases b <;> rfl
def pairV (t : Table) (a b : Int) : Bool := (amid a 0 ((t.offices.length : Int) - 1) && amid b 0 ((t.offices.length : Int) - 1)) && !(a == b)
theorem s53_eq {N : Nat} {t : Table} (L : Lens N t) (a b : Int) : s53 N (calcOf t) a b = some (pairV t a b) := by
  unfold s53
  have ct : (calcOf t).t = t := rfl
  simp only [ct, ck_len L.o, bind_some', s60_eq]
  cases h : amid a 0 ((t.offices.length : Int) - 1) <;> simp [pairV, h]
/-- IsRoute, by both. -/
def askV (t : Table) (b : Bool) : Int := if V t then (if b then 0 else 31) else 30
def isRouteV (t : Table) (l : List Leg) (a b : Int) : Bool × Int :=
  if V t && pairV t a b then ((isR t l && rF t l == a) && rT t l == b, 0) else (false, askV t (pairV t a b))
theorem s12_eq {N : Nat} {t : Table} (L : Lens N t) (l : List Leg) (a b : Int) : s12 N t l a b = some (isRouteV t l a b) := by
  unfold s12
  rw [s51_eq L (b := pairV t a b) (fun G => by unfold s52; rw [s53_eq L]; rfl), bind_some']
  unfold isRouteV askV
  cases hv : V t with
  | false => rfl
  | true =>
    cases hp : pairV t a b with
    | false => rfl
    | true =>
      have G := good_of hv
      have e : (!((0 : Int) == 0)) = false := rfl
      simp only [if_true, Bool.and_self, e, Bool.false_eq_true, if_false, s54_eq L G, bind_some']
      cases hr : isR t l with
      | false => simp
      | true =>
        have hl : legsV t l = true := by simp only [isR, Bool.and_eq_true] at hr; exact hr.1
        simp only [if_true, s55_eq N hl, s56_eq N hl, bind_some', Bool.true_and]
        cases rF t l == a <;> simp
end Go.Abs.Tr

namespace Go.Abs.Tr
open Go Go.Abs
set_option linter.unusedSimpArgs false

def openO (m : Int) : List Span → Unit ⊕ Int
  | [] => .inl ()
  | s :: l => if m ≤ s.high then .inr (mx m s.low) else openO m l
/-- The first minute from one on in which an office is open. -/
def openR (l : List Span) (m : Int) : Int := match openO m l with
  | .inl _ => 2880
  | .inr v => v
def isOp (l : List Span) (m : Int) : Bool := l.any fun s => amid m s.low s.high

def idxO (q : Span → Bool) : Nat → List Span → Unit ⊕ Int
  | _, [] => .inl ()
  | n, s :: l => if q s then .inr (n : Int) else idxO q (n + 1) l
theorem idxO_any (q : Span → Bool) : ∀ (l : List Span) (n : Nat), (match idxO q n l with | .inl _ => false | .inr v => decide (v ≥ 0)) = l.any q := by
  intro l
  induction l with
  | nil => intro n; rfl
  | cons s l ih =>
    intro n
    unfold idxO
    rw [List.any_cons]
    cases h : q s with
    | true => simp
    | false => simp only [Bool.false_eq_true, if_false, Bool.false_or]; exact ih (n + 1)
theorem s96_eq {N : Nat} {l : List Span} (h3 : l.length ≤ 3) (hN : 5000 ≤ N) {p : Span → Option Bool} {q : Span → Bool} (hp : ∀ s, p s = some (q s)) : s96 N l p = some (l.any q) := by
  have main := iter_list (f := s105_l9 N l p) (S := Nat) (fun _ i => i) l (by unfold big; omega) (fun n r => n + r.length = l.length) (fun n r => idxO q n r)
    (fun s _ => by
      unfold s105_l9
      have : decide (((l.length : Nat) : Int) < (l.length : Int)) = false := by simp
      simp only [this, idxO]
      rfl)
    (fun i y r n hd hi hlt hck hI => by
      have hn : n = i := by
        have h1 := congrArg List.length hd
        simp at h1 hI; omega
      subst hn
      unfold s105_l9
      simp only [hlt, decide_true, if_true, hi, bind_some', hck, idxO, hp]
      cases h : q y with
      | true => right; simp
      | false => left; exact ⟨n + 1, by simp, by simp at hI; omega, by simp⟩)
    N (by omega) 0 (by omega)
  have main' : iter (s105_l9 N l p) N 0 = _ := main
  unfold s96 s105
  rw [main', bind_some', ← idxO_any q l 0]
  cases idxO q 0 l <;> rfl
theorem s69_eq {N : Nat} {t : Table} {st : Int} {l : List Span} (hl : ix t.offices st = some l) (h3 : l.length ≤ 3) (hN : 5000 ≤ N) (m : Int) : s69 N (calcOf t) st m = some (isOp l m) := by
  unfold s69
  have ct : (calcOf t).t = t := rfl
  have e := s96_eq h3 hN (p := fun x0 => s97 N x0 m) (q := fun s => amid m s.low s.high) (fun s => rfl)
  rw [ct, hl, bind_some', e]
  rfl

theorem isOp_low : ∀ (l : List Span) (f m : Int), officeV f l = true → isOp l m = true → f ≤ m ∧ m ≤ 2879 := by
  intro l
  induction l with
  | nil => intro f m _ h; cases h
  | cons s l ih =>
    intro f m hv h
    simp only [officeV, Bool.and_eq_true, legal_iff] at hv
    simp only [isOp, List.any_cons, Bool.or_eq_true, amid_iff] at h
    rcases h with h | h
    · omega
    · have := ih _ m hv.2 h
      omega
theorem open_is : ∀ (l : List Span) (f m : Int), officeV f l = true → isOp l m = true → openR l m = m := by
  intro l
  induction l with
  | nil => intro f m _ h; cases h
  | cons s l ih =>
    intro f m hv h
    simp only [officeV, Bool.and_eq_true, legal_iff] at hv
    simp only [isOp, List.any_cons, Bool.or_eq_true, amid_iff] at h
    unfold openR openO
    by_cases hm : m ≤ s.high
    · rw [if_pos hm]
      rcases h with h | h
      · show mx m s.low = m
        simp only [mx]
        split <;> omega
      · have := isOp_low l _ m hv.2 h
        omega
    · rw [if_neg hm]
      rcases h with h | h
      · omega
      · exact ih _ m hv.2 h
theorem open_not : ∀ (l : List Span) (f m : Int), officeV f l = true → isOp l m = false → openR l m = openR l (m + 1) := by
  intro l
  induction l with
  | nil => intro f m _ h; rfl
  | cons s l ih =>
    intro f m hv h
    simp only [officeV, Bool.and_eq_true, legal_iff] at hv
    simp only [isOp, List.any_cons, Bool.or_eq_false_iff] at h
    have h1 : ¬ (s.low ≤ m ∧ m ≤ s.high) := fun k => by rw [amid_iff.2 k] at h; cases h.1
    unfold openR openO
    by_cases hm : m ≤ s.high
    · rw [if_pos hm, if_pos (by omega)]
      show mx m s.low = mx (m + 1) s.low
      simp only [mx]
      split <;> split <;> omega
    · rw [if_neg hm, if_neg (by omega)]
      exact ih _ m hv.2 h.2
theorem open_late : ∀ (l : List Span) (f m : Int), officeV f l = true → 2879 < m → openR l m = 2880 := by
  intro l
  induction l with
  | nil => intro f m _ _; rfl
  | cons s l ih =>
    intro f m hv h
    simp only [officeV, Bool.and_eq_true, legal_iff] at hv
    unfold openR openO
    rw [if_neg (by omega)]
    exact ih _ m hv.2 h
theorem open_ge : ∀ (l : List Span) (f m : Int), officeV f l = true → m ≤ 2880 → m ≤ openR l m ∧ openR l m ≤ 2880 := by
  intro l
  induction l with
  | nil => intro f m _ h; exact ⟨h, Int.le_refl _⟩
  | cons s l ih =>
    intro f m hv h
    simp only [officeV, Bool.and_eq_true, legal_iff] at hv
    unfold openR openO
    by_cases hm : m ≤ s.high
    · rw [if_pos hm]
      show m ≤ mx m s.low ∧ mx m s.low ≤ 2880
      simp only [mx]
      split <;> omega
    · rw [if_neg hm]
      exact ih _ m hv.2 h
/-- Is it open just in that minute? -/
theorem open_at {l : List Span} {f m : Int} (hv : officeV f l = true) (hm : m ≤ 2879) : (openR l m == m) = isOp l m := by
  cases h : isOp l m with
  | true => rw [open_is l f m hv h]; simp
  | false =>
    have h1 := open_not l f m hv h
    have h2 := open_ge l f (m + 1) hv (by omega)
    rw [h1]
    simp; omega
/-- The program's. -/
theorem s98_eq {N : Nat} {t : Table} {st : Int} {l : List Span} (hl : ix t.offices st = some l) (h3 : l.length ≤ 3) (hv : officeV 0 l = true) (hN : 5000 ≤ N) {m : Int} (h0 : 0 ≤ m) (h1 : m ≤ 100000) :
    s98 N (calcOf t) st m = some (openR l m) := by
  have main : ∀ (k : Nat) (M : Nat) (m : Int), (2880 - m).toNat ≤ k → k < M → 0 ≤ m → m ≤ 100000 → ∃ o, iter (s98_l8 N (calcOf t) st) M m = some o ∧ (match o with | .inl _ => (2880 : Int) | .inr v => v) = openR l m := by
    intro k
    induction k with
    | zero =>
      intro M m hk hM h0 h1
      obtain ⟨M, rfl⟩ : ∃ K, M = K + 1 := ⟨M - 1, by omega⟩
      refine ⟨.inl (), ?_, by rw [open_late l 0 m hv (by omega)]⟩
      unfold iter s98_l8
      have : decide (m ≤ 2879) = false := decide_eq_false (by omega)
      simp only [this]
      rfl
    | succ k ih =>
      intro M m hk hM h0 h1
      obtain ⟨M, rfl⟩ : ∃ K, M = K + 1 := ⟨M - 1, by omega⟩
      by_cases hm : m ≤ 2879
      · cases ho : isOp l m with
        | true =>
          refine ⟨.inr m, ?_, by rw [open_is l 0 m hv ho]⟩
          unfold iter s98_l8
          simp only [decide_eq_true hm, if_true, s69_eq hl h3 hN, bind_some', ho]
        | false =>
          obtain ⟨o, e1, e2⟩ := ih M (m + 1) (by omega) (by omega) (by omega) (by omega)
          refine ⟨o, ?_, by rw [open_not l 0 m hv ho]; exact e2⟩
          have e3 : s98_l8 N (calcOf t) st m = some (.inl (m + 1)) := by
            unfold s98_l8
            simp only [decide_eq_true hm, if_true, s69_eq hl h3 hN, bind_some', ho, Bool.false_eq_true, if_false, ck_ok (n := m + 1) (by omega)]
          unfold iter
          rw [e3]
          exact e1
      · refine ⟨.inl (), ?_, by rw [open_late l 0 m hv (by omega)]⟩
        unfold iter s98_l8
        have : decide (m ≤ 2879) = false := decide_eq_false hm
        simp only [this]
        rfl
  obtain ⟨o, e1, e2⟩ := main 2880 N m (by omega) (by omega) h0 h1
  unfold s98
  rw [e1, bind_some', ← e2]
  cases o <;> rfl
end Go.Abs.Tr

namespace Go.Abs.Tr
open Go Go.Abs
set_option linter.unusedSimpArgs false

def ofc (t : Table) (st : Int) : List Span := (t.offices[st.toNat]?).getD default
/-- Which legs' trains can be missed: from the minute on in which the box comes. -/
def mis (t : Table) : Int → List Leg → List Bool
  | _, [] => []
  | at', x :: l => decide (at' + t.load > (sf t x).leave + (tr t x).late.low) :: mis t ((sg t x).arrive + (tr t x).late.high) l
/-- In which minutes the last train can arrive. -/
def arr (t : Table) : Span → List Leg → Option Span
  | s, [] => some s
  | s, x :: l => if mx (tr t x).late.low (s.low + t.load - (sf t x).leave) > (tr t x).late.high then none
    else arr t ⟨(sg t x).arrive + mx (tr t x).late.low (s.low + t.load - (sf t x).leave), (sg t x).arrive + (tr t x).late.high⟩ l
def ready (t : Table) (s : Span) : Span := ⟨s.low + t.load, s.high + t.load⟩
section facts
variable {t : Table} (G : Good t)
include G
theorem Good.leg {x : Leg} (h : LegV t x) : (0 ≤ (tr t x).late.low ∧ (tr t x).late.low ≤ (tr t x).late.high ∧ (tr t x).late.high ≤ 90) ∧
    (0 ≤ (sf t x).leave ∧ (sf t x).leave ≤ 2879) ∧ (0 ≤ (sg t x).arrive ∧ (sg t x).arrive ≤ 2879) := by
  have g := G.ts _ h.mt
  have a := g.st _ h.mf
  have b := g.st _ h.mg
  have := g.l0; have := g.l1; have := g.l2
  omega
theorem Good.ofc {st : Int} (h0 : 0 ≤ st) (h1 : st < t.offices.length) : ix t.offices st = some (ofc t st) ∧ (Go.Abs.Tr.ofc t st).length ≤ 3 ∧ officeV 0 (Go.Abs.Tr.ofc t st) = true := by
  obtain ⟨a, b⟩ := ix_in h0 h1
  exact ⟨a, G.os _ b⟩
theorem Good.from' {l : List Leg} (h : legsV t l = true) : 0 ≤ rF t l ∧ rF t l < t.offices.length := by
  obtain ⟨h1, h2⟩ := legsV_legs h
  cases l with
  | nil => simp at h1
  | cons x l =>
    have hx := h2 x List.mem_cons_self
    have := (G.ts _ hx.mt).st _ hx.mf
    simp only [rF, List.head?_cons, Option.getD_some]
    omega
theorem Good.to' {l : List Leg} (h : legsV t l = true) : 0 ≤ rT t l ∧ rT t l < t.offices.length := by
  obtain ⟨h1, h2⟩ := legsV_legs h
  obtain ⟨y, hy⟩ : ∃ y, l.getLast? = some y := by
    cases l with
    | nil => simp at h1
    | cons x l => exact ⟨_, List.getLast?_eq_some_getLast (by simp)⟩
  have hx := h2 y (List.mem_of_getLast? hy)
  have := (G.ts _ hx.mt).st _ hx.mg
  simp only [rT, hy, Option.getD_some]
  omega
end facts
theorem mx_ge (a b : Int) : a ≤ mx a b ∧ b ≤ mx a b := by simp only [mx]; split <;> omega
theorem mx_le {a b c : Int} (h : a ≤ c) (k : b ≤ c) : mx a b ≤ c := by simp only [mx]; split <;> omega

/-- What surely goes can go. -/
theorem sure_arr {t : Table} : ∀ (l : List Leg) (s : Span), (∀ x ∈ l, (tr t x).late.low ≤ (tr t x).late.high) → s.low ≤ s.high → ((mis t s.high l).all fun b => !b) = true → (arr t s l).isSome = true := by
  intro l
  induction l with
  | nil => intro s _ _ _; rfl
  | cons x l ih =>
    intro s hl hs h
    unfold mis at h
    simp only [List.all_cons, Bool.and_eq_true, Bool.not_eq_true', decide_eq_false_iff_not] at h
    have h1 := hl x List.mem_cons_self
    have e : mx (tr t x).late.low (s.low + t.load - (sf t x).leave) = (tr t x).late.low := by simp only [mx]; split <;> omega
    unfold arr
    rw [e, if_neg (by omega)]
    exact ih _ (fun y hy => hl y (List.mem_cons_of_mem _ hy)) (by show (sg t x).arrive + _ ≤ (sg t x).arrive + _; omega) h.2
theorem arr_in {t : Table} (G : Good t) : ∀ (l : List Leg) (s s' : Span), (∀ x ∈ l, LegV t x) → arr t s l = some s' → (0 ≤ s.low ∧ s.low ≤ 3000 ∧ 0 ≤ s.high ∧ s.high ≤ 3000) → (0 ≤ s'.low ∧ s'.low ≤ 3000 ∧ 0 ≤ s'.high ∧ s'.high ≤ 3000) := by
  intro l
  induction l with
  | nil => intro s s' _ h k; injection h with h; rw [← h]; exact k
  | cons x l ih =>
    intro s s' hl h k
    obtain ⟨⟨a1, a2, a3⟩, ⟨a4, a5⟩, a6, a7⟩ := G.leg (hl x List.mem_cons_self)
    have g1 := mx_ge (tr t x).late.low (s.low + t.load - (sf t x).leave)
    unfold arr at h
    split at h
    · cases h
    · exact ih _ _ (fun y hy => hl y (List.mem_cons_of_mem _ hy)) h (by
        show 0 ≤ (sg t x).arrive + mx _ _ ∧ (sg t x).arrive + mx _ _ ≤ 3000 ∧ 0 ≤ (sg t x).arrive + (tr t x).late.high ∧ (sg t x).arrive + (tr t x).late.high ≤ 3000
        omega)

/-- The program's calculation. -/
theorem s82_eq {N : Nat} (hN : 5000 ≤ N) (a b : Int) : s82 N a [b] = some (mx a b) := by
  have main := iter_list (f := s82_l7 N [b]) (S := Int) (fun s i => (s, i)) [b] (by simp [big]) (fun _ _ => True) (fun s l => l.foldl mx s)
    (fun s _ => by
      unfold s82_l7
      have : decide ((([b].length : Nat) : Int) < ([b].length : Int)) = false := by simp
      simp only [this]
      rfl)
    (fun i y r s hd hi hlt hck _ => by
      left
      refine ⟨mx s y, ?_, trivial, rfl⟩
      unfold s82_l7
      simp only [hlt, decide_true, if_true, hi, bind_some', hck])
    N (by simp; omega) a trivial
  unfold s82
  have main' : iter (s82_l7 N [b]) N (a, 0) = _ := main
  rw [main']
  rfl
def z0 : Spn := Spn.mk (Span.mk 0 0) false
def spn : Option Span → Spn
  | some s => ⟨s, true⟩
  | none => z0
theorem s95_eq {N : Nat} {t : Table} (L : Lens N t) (G : Good t) {route : List Leg} (hr : legsV t route = true) {at' : Int} (h0 : 0 ≤ at') (h1 : at' ≤ 2879) :
    s95 N (calcOf t) route at' = some (spn (arr t ⟨at', at'⟩ route)) := by
  obtain ⟨hl, hlegs⟩ := legsV_legs hr
  have hN := L.n4
  have ga0 := G.a0
  have ga1 := G.a1
  have main := iter_list (f := s95_l17 N (calcOf t) route) (S := Span) (fun s i => (i, z0, ⟨s, true⟩)) route (by unfold big; omega)
    (fun s l => (∀ x ∈ l, LegV t x) ∧ (0 ≤ s.low ∧ s.low ≤ 3000 ∧ 0 ≤ s.high ∧ s.high ≤ 3000))
    (fun s l => match arr t s l with | some s' => Sum.inl (z0, ⟨s', true⟩) | none => Sum.inr z0)
    (fun s _ => by
      unfold s95_l17
      have : decide (((route.length : Nat) : Int) < (route.length : Int)) = false := by simp
      simp only [this, arr]
      rfl)
    (fun i x l s hd hi hlt hck hI => by
      obtain ⟨hI, i1, i2, i3, i4⟩ := hI
      have hx := hI x List.mem_cons_self
      obtain ⟨⟨a1, a2, a3⟩, ⟨a4, a5⟩, a6, a7⟩ := G.leg hx
      have g1 := mx_ge (tr t x).late.low (s.low + t.load - (sf t x).leave)
      have ct : (calcOf t).t = t := rfl
      unfold s95_l17
      simp only [hlt, decide_true, if_true, hi, bind_some', hck, hx.s127, hx.s125, hx.s83, hx.s92, ct, ck_ok (n := s.low + t.load) (by omega), ck_ok (n := s.low + t.load - (sf t x).leave) (by omega), s82_eq hN, arr]
      generalize hM : mx (tr t x).late.low (s.low + t.load - (sf t x).leave) = m at g1 ⊢
      by_cases h : m > (tr t x).late.high
      · right
        simp only [h, decide_true, if_true]
        rfl
      · left
        refine ⟨⟨(sg t x).arrive + m, (sg t x).arrive + (tr t x).late.high⟩, ?_, ⟨fun y hy => hI y (List.mem_cons_of_mem _ hy), ?_⟩, ?_⟩
        · simp only [h, decide_false, Bool.false_eq_true, if_false, ck_ok (n := (sg t x).arrive + m) (by omega), ck_ok (n := (sg t x).arrive + (tr t x).late.high) (by omega), bind_some']
        · show 0 ≤ (sg t x).arrive + m ∧ (sg t x).arrive + m ≤ 3000 ∧ 0 ≤ (sg t x).arrive + (tr t x).late.high ∧ (sg t x).arrive + (tr t x).late.high ≤ 3000
          omega
        · simp only [h, if_false])
    N (by omega) ⟨at', at'⟩ ⟨hlegs, by show 0 ≤ at' ∧ at' ≤ 3000 ∧ 0 ≤ at' ∧ at' ≤ 3000; omega⟩
  have main' : iter (s95_l17 N (calcOf t) route) N (0, Spn.mk (Span.mk 0 0) false, Spn.mk (Span.mk at' at') true) = _ := main
  unfold s95
  rw [main', bind_some']
  cases arr t ⟨at', at'⟩ route <;> rfl
end Go.Abs.Tr

namespace Go.Abs.Tr
open Go Go.Abs
set_option linter.unusedSimpArgs false

/-- The last minute in which a box comes to a leg. -/
def ld (t : Table) (at' : Int) (pre : List Leg) : Int := match pre.getLast? with
  | none => at'
  | some y => (sg t y).arrive + (tr t y).late.high
theorem ld_snoc (t : Table) (at' : Int) (pre : List Leg) (x : Leg) : ld t at' (pre ++ [x]) = (sg t x).arrive + (tr t x).late.high := by simp [ld]
theorem ld_in {t : Table} (G : Good t) {at' : Int} (h0 : 0 ≤ at') (h1 : at' ≤ 2879) {pre : List Leg} (hp : ∀ x ∈ pre, LegV t x) : 0 ≤ ld t at' pre ∧ ld t at' pre ≤ 3000 := by
  unfold ld
  cases h : pre.getLast? with
  | none => show 0 ≤ at' ∧ at' ≤ 3000; omega
  | some y =>
    obtain ⟨⟨a1, a2, a3⟩, _, a6, a7⟩ := G.leg (hp y (List.mem_of_getLast? h))
    show 0 ≤ (sg t y).arrive + (tr t y).late.high ∧ (sg t y).arrive + (tr t y).late.high ≤ 3000
    omega
def miss1 (t : Table) (a : Int) (x : Leg) : Bool := decide (a + t.load > (sf t x).leave + (tr t x).late.low)
theorem s70_eq {N : Nat} {t : Table} (G : Good t) {at' : Int} (h0 : 0 ≤ at') (h1 : at' ≤ 2879) {route pre l : List Leg} {x : Leg} (hI : pre ++ x :: l = route) (hn : route.length ≤ 4) (hlegs : ∀ x ∈ route, LegV t x) :
    s70 N (calcOf t) route at' (pre.length : Int) = some (miss1 t (ld t at' pre) x) := by
  have hp : ∀ x ∈ pre, LegV t x := fun y hy => hlegs y (by rw [← hI]; exact List.mem_append_left _ hy)
  have hx : LegV t x := hlegs x (by rw [← hI]; simp)
  obtain ⟨b0, b1⟩ := ld_in G h0 h1 hp
  obtain ⟨⟨a1, a2, a3⟩, ⟨a4, a5⟩, _⟩ := G.leg hx
  have ga0 := G.a0
  have ga1 := G.a1
  have hix : ix route (pre.length : Int) = some x := by
    rw [← hI]
    unfold ix
    rw [if_pos (by omega)]
    simp
  have e1 : (if decide ((pre.length : Int) > 0) = true then (ck ((pre.length : Int) - 1)).bind fun v4 => (ix route v4).bind fun v5 => (s92 N (calcOf t) v5).bind fun v6 => (s125 N (calcOf t) v5.train).bind fun v7 => (ck (v6.arrive + v7)).bind fun v8 => some v8 else some at') = some (ld t at' pre) := by
    unfold ld at b0 b1 ⊢
    cases hg : pre.getLast? with
    | none =>
      have : pre = [] := List.getLast?_eq_none_iff.1 hg
      subst this
      rfl
    | some y =>
      have hpos : 0 < pre.length := by
        cases pre with
        | nil => cases hg
        | cons a l => simp
      have hy := hp y (List.mem_of_getLast? hg)
      have hiy : ix route ((pre.length : Int) - 1) = some y := by rw [← hI]; exact ix_last hg
      rw [hg] at b0 b1
      have b0' : 0 ≤ (sg t y).arrive + (tr t y).late.high := b0
      have b1' : (sg t y).arrive + (tr t y).late.high ≤ 3000 := b1
      have hle : pre.length ≤ 4 := by rw [← hI] at hn; simp at hn; omega
      simp only [decide_eq_true (show (pre.length : Int) > 0 by omega), if_true, ck_ok (n := (pre.length : Int) - 1) (by omega), bind_some', hiy, hy.s92, hy.s125, ck_ok (n := (sg t y).arrive + (tr t y).late.high) (by omega)]
  unfold s70
  have ct : (calcOf t).t = t := rfl
  rw [e1]
  simp only [bind_some', ct, ck_ok (n := ld t at' pre + t.load) (by omega), hix, hx.s83, hx.s127, ck_ok (n := (sf t x).leave + (tr t x).late.low) (by omega)]
  rfl

def goesV (t : Table) (at' : Int) (l : List Leg) : Int :=
  if isOp (ofc t (rF t l)) at' && (arr t ⟨at', at'⟩ l).isSome then (if (mis t at' l).all (fun b => !b) then 2 else 1) else 0
theorem s65_eq {N : Nat} {t : Table} (L : Lens N t) (G : Good t) {route : List Leg} (hr : legsV t route = true) {at' : Int} (h0 : 0 ≤ at') (h1 : at' ≤ 2879) :
    s65 N (calcOf t) route at' = some (goesV t at' route) := by
  obtain ⟨hl, hlegs⟩ := legsV_legs hr
  have hN := L.n4
  obtain ⟨hf0, hf1⟩ := G.from' hr
  obtain ⟨o1, o2, o3⟩ := G.ofc hf0 hf1
  unfold s65 goesV
  rw [s55_eq N hr, bind_some', s69_eq o1 o2 hN, bind_some']
  cases ho : isOp (ofc t (rF t route)) at' with
  | false => rfl
  | true =>
    simp only [Bool.not_true, Bool.false_eq_true, if_false, s95_eq L G hr h0 h1, bind_some', Bool.true_and]
    cases ha : arr t ⟨at', at'⟩ route with
    | none => rfl
    | some s' =>
      have e : (((spn (some s')).span.low == 0) && (((spn (some s')).span.high == 0) && (((spn (some s')).some == false) && true))) = false := by
        simp [spn]
      simp only [e, Bool.false_eq_true, if_false, Option.isSome_some, if_true]
      have main := iter_list (f := s65_l15 N (calcOf t) route at') (S := List Leg) (fun _ i => i) route (by unfold big; omega) (fun pre l => pre ++ l = route)
        (fun pre l => cond ((mis t (ld t at' pre) l).all fun b => !b) (Sum.inl ()) (Sum.inr (1 : Int)))
        (fun s _ => by
          unfold s65_l15
          have : decide (((route.length : Nat) : Int) < (route.length : Int)) = false := by simp
          simp only [this, mis, List.all_nil, cond_true]
          rfl)
        (fun i x l pre hd hi hlt hck hI => by
          have hpi : pre.length = i := by
            have h1 := congrArg List.length hd
            have h2 := congrArg List.length hI
            simp at h1 h2; omega
          subst hpi
          unfold s65_l15
          simp only [hlt, decide_true, if_true, bind_some', hck, s70_eq G h0 h1 hI hl.2 hlegs, mis, List.all_cons]
          have em : decide (ld t at' pre + t.load > (sf t x).leave + (tr t x).late.low) = miss1 t (ld t at' pre) x := rfl
          rw [em]
          cases miss1 t (ld t at' pre) x with
          | true => right; rfl
          | false =>
            left
            exact ⟨pre ++ [x], by simp, by rw [List.append_assoc]; exact hI, by rw [ld_snoc]; rfl⟩)
        N (by omega) [] rfl
      have main' : iter (s65_l15 N (calcOf t) route at') N 0 = _ := main
      rw [main', bind_some']
      have e2 : ld t at' [] = at' := rfl
      rw [e2]
      cases (mis t at' route).all fun b => !b <;> rfl

/-! ## Goes -/
def askR (t : Table) (l : List Leg) (at' : Int) : Bool := isR t l && amid at' 0 2879
def goesR (t : Table) (l : List Leg) (at' : Int) : Int × Int := if V t && askR t l at' then (goesV t at' l, 0) else (0, askV t (askR t l at'))
theorem s64_eq {N : Nat} {t : Table} (L : Lens N t) (l : List Leg) (at' : Int) :
    s64 N t l at' = some (if V t then (if askR t l at' then (calcOf t, 0) else (noCalc, 31)) else (noCalc, 30)) := by
  unfold s64
  rw [s51_eq L (b := askR t l at') (fun G => by
    unfold s94 askR
    rw [s54_eq L G, bind_some']
    cases isR t l <;> rfl), bind_some']
theorem askR_iff {t : Table} {l : List Leg} {at' : Int} (h : askR t l at' = true) : (isR t l = true ∧ legsV t l = true) ∧ 0 ≤ at' ∧ at' ≤ 2879 := by
  simp only [askR, Bool.and_eq_true, amid_iff] at h
  have h1 := h.1
  simp only [isR, Bool.and_eq_true] at h1
  exact ⟨⟨h.1, h1.1⟩, h.2⟩
theorem s16_eq {N : Nat} {t : Table} (L : Lens N t) (l : List Leg) (at' : Int) : s16 N t l at' = some (goesR t l at') := by
  unfold s16 goesR askV
  rw [s64_eq L, bind_some']
  cases hv : V t with
  | false => rfl
  | true =>
    cases ha : askR t l at' with
    | false => rfl
    | true =>
      obtain ⟨⟨_, h2⟩, h3, h4⟩ := askR_iff ha
      have e : (!((0 : Int) == 0)) = false := rfl
      simp only [if_true, e, Bool.false_eq_true, if_false, s65_eq L (good_of hv) h2 h3 h4, bind_some', Bool.and_self]
/-! ## Missed -/
def mi (t : Table) : Nat → Int → List Leg → List Int
  | _, _, [] => []
  | k, a, x :: l => (if miss1 t a x then [(k : Int)] else []) ++ mi t (k + 1) ((sg t x).arrive + (tr t x).late.high) l
def missedR (t : Table) (l : List Leg) (at' : Int) : List Int × Int :=
  if V t && askR t l at' then (if isOp (ofc t (rF t l)) at' then (mi t 0 at' l, 0) else ([], 4)) else ([], askV t (askR t l at'))
theorem ap_ok {α : Type} {eb : Nat} {xs ys : List α} (h : (2 * (xs.length + ys.length) + 1024) * eb ≤ 2 ^ 48) : ap eb xs ys = some (xs ++ ys) := if_pos h
theorem ap8 {xs : List Int} {y : Int} (h : xs.length ≤ 1000000) : ap 8 xs [y] = some (xs ++ [y]) := ap_ok (by simp only [List.length_cons, List.length_nil]; omega)
theorem sl_all {α : Type} (xs : List α) : sl xs 0 (xs.length : Int) = some xs := by
  unfold sl
  rw [if_pos (by omega)]
  simp
theorem mi_len {t : Table} : ∀ (l : List Leg) (k : Nat) (a : Int), (mi t k a l).length ≤ l.length := by
  intro l
  induction l with
  | nil => intro k a; exact Nat.le_refl _
  | cons x l ih =>
    intro k a
    unfold mi
    have := ih (k + 1) ((sg t x).arrive + (tr t x).late.high)
    split <;> simp <;> omega
theorem s18_eq {N : Nat} {t : Table} (L : Lens N t) (l : List Leg) (at' : Int) : s18 N t l at' = some (missedR t l at') := by
  unfold s18 missedR askV
  rw [s64_eq L, bind_some']
  cases hv : V t with
  | false => rfl
  | true =>
    cases ha : askR t l at' with
    | false => rfl
    | true =>
      have G := good_of hv
      obtain ⟨⟨_, hr⟩, h0, h1⟩ := askR_iff ha
      obtain ⟨hl, hlegs⟩ := legsV_legs hr
      have hN := L.n4
      obtain ⟨hf0, hf1⟩ := G.from' hr
      obtain ⟨o1, o2, o3⟩ := G.ofc hf0 hf1
      have e : (!((0 : Int) == 0)) = false := rfl
      simp only [if_true, e, Bool.false_eq_true, if_false, s55_eq N hr, bind_some', s69_eq o1 o2 hN, Bool.and_self]
      cases ho : isOp (ofc t (rF t l)) at' with
      | false => rfl
      | true =>
        simp only [Bool.not_true, Bool.false_eq_true, if_false]
        have main := iter_list (f := s18_l16 N l at' (calcOf t, 0)) (S := List Leg × List Int) (fun s i => (s.2, i)) l (by unfold big; omega) (fun s r => s.1 ++ r = l ∧ s.2.length ≤ s.1.length)
          (fun s r => s.2 ++ mi t s.1.length (ld t at' s.1) r)
          (fun s _ => by
            unfold s18_l16
            have : decide (((l.length : Nat) : Int) < (l.length : Int)) = false := by simp
            simp only [this, mi, List.append_nil]
            rfl)
          (fun i x r s hd hi hlt hck hI => by
            obtain ⟨pre, out⟩ := s
            obtain ⟨hI, hlen⟩ := hI
            have hI' : pre ++ x :: r = l := hI
            have hlen' : out.length ≤ pre.length := hlen
            have hpi : pre.length = i := by
              have h1 := congrArg List.length hd
              have h2 := congrArg List.length hI'
              simp at h1 h2; omega
            subst hpi
            left
            unfold s18_l16
            simp only [hlt, decide_true, if_true, bind_some', hck, s70_eq G h0 h1 hI' hl.2 hlegs, mi]
            cases hm : miss1 t (ld t at' pre) x with
            | true =>
              refine ⟨(pre ++ [x], out ++ [(pre.length : Int)]), ?_, ⟨by simp only [List.append_assoc]; exact hI', by simp; omega⟩, ?_⟩
              · simp only [if_true, ap8 (xs := out) (y := (pre.length : Int)) (by omega), bind_some']
              · simp only [ld_snoc, if_true, List.append_assoc, List.length_append, List.length_cons, List.length_nil]
            | false =>
              refine ⟨(pre ++ [x], out), ?_, ⟨by simp only [List.append_assoc]; exact hI', by simp; omega⟩, ?_⟩
              · simp only [Bool.false_eq_true, if_false, bind_some']
              · simp only [ld_snoc, Bool.false_eq_true, if_false, List.nil_append, List.length_append, List.length_cons, List.length_nil])
          N (by omega) ([], []) ⟨rfl, Nat.le_refl _⟩
        have main' : iter (s18_l16 N l at' (calcOf t, 0)) N ([], 0) = some (mi t 0 at' l) := main
        rw [main', bind_some', sl_all, bind_some', if_pos trivial]
/-! ## There -/
def whenV (t : Table) (l : List Leg) (s : Span) : Span := ⟨openR (ofc t (rT t l)) (s.low + t.load), openR (ofc t (rT t l)) (s.high + t.load)⟩
def thereR (t : Table) (l : List Leg) (at' : Int) : Span × Int :=
  if V t && askR t l at' then (if goesV t at' l == 0 then (⟨0, 0⟩, 4) else (whenV t l (spn (arr t ⟨at', at'⟩ l)).span, 0)) else (⟨0, 0⟩, askV t (askR t l at'))
theorem s75_eq {N : Nat} {t : Table} (L : Lens N t) (G : Good t) {l : List Leg} (hr : legsV t l = true) {at' : Int} (h0 : 0 ≤ at') (h1 : at' ≤ 2879) {s : Span} (hs : arr t ⟨at', at'⟩ l = some s) :
    s75 N (calcOf t) l at' = some (whenV t l s) := by
  obtain ⟨hl, hlegs⟩ := legsV_legs hr
  have hN := L.n4
  have ga0 := G.a0
  have ga1 := G.a1
  obtain ⟨ht0, ht1⟩ := G.to' hr
  obtain ⟨o1, o2, o3⟩ := G.ofc ht0 ht1
  obtain ⟨b1, b2, b3, b4⟩ := arr_in G l _ s hlegs hs (by show 0 ≤ at' ∧ at' ≤ 3000 ∧ 0 ≤ at' ∧ at' ≤ 3000; omega)
  unfold s75
  have ct : (calcOf t).t = t := rfl
  rw [s95_eq L G hr h0 h1, hs, bind_some']
  simp only [spn, s56_eq N hr, bind_some', ct, ck_ok (n := s.low + t.load) (by omega), ck_ok (n := s.high + t.load) (by omega), s98_eq o1 o2 o3 hN (m := s.low + t.load) (by omega) (by omega), s98_eq o1 o2 o3 hN (m := s.high + t.load) (by omega) (by omega)]
  rfl
theorem goesV_arr {t : Table} {l : List Leg} {at' : Int} (h : (goesV t at' l == 0) = false) : isOp (ofc t (rF t l)) at' = true ∧ ∃ s, arr t ⟨at', at'⟩ l = some s := by
  unfold goesV at h
  cases ho : isOp (ofc t (rF t l)) at' with
  | false => rw [ho] at h; simp at h
  | true =>
    cases ha : arr t ⟨at', at'⟩ l with
    | none => rw [ho, ha] at h; simp at h
    | some s => exact ⟨rfl, s, rfl⟩
theorem s21_eq {N : Nat} {t : Table} (L : Lens N t) (l : List Leg) (at' : Int) : s21 N t l at' = some (thereR t l at') := by
  unfold s21 thereR askV
  rw [s64_eq L, bind_some']
  cases hv : V t with
  | false => rfl
  | true =>
    cases ha : askR t l at' with
    | false => rfl
    | true =>
      have G := good_of hv
      obtain ⟨⟨_, hr⟩, h0, h1⟩ := askR_iff ha
      have e : (!((0 : Int) == 0)) = false := rfl
      simp only [if_true, e, Bool.false_eq_true, if_false, s65_eq L G hr h0 h1, bind_some', Bool.and_self]
      cases hg : goesV t at' l == 0 with
      | true => rfl
      | false =>
        obtain ⟨_, s, hs⟩ := goesV_arr hg
        simp only [Bool.false_eq_true, if_false, s75_eq L G hr h0 h1 hs, bind_some', hs, spn]
end Go.Abs.Tr
