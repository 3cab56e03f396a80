/- Plain law: the look at a timetable. Conditions: none. -/
import Derived.Test.YtdlofkamkiojlaaDoorGb
import Derived.Test.YtdlofkamkiojlaaDoorGc
namespace Go.Abs.Tr
open Go Go.Abs

/-- A number of a machine's word. -/
abbrev R64 (n : Int) : Prop := -9223372036854775808 ≤ n ∧ n ≤ 9223372036854775807
def big : Nat := 9223372036854775807

theorem ix_drop {α : Type} {xs : List α} {i : Nat} {a : α} {l : List α} (h : xs.drop i = a :: l) : ix xs (i : Int) = some a ∧ i < xs.length ∧ xs.drop (i + 1) = l := by
  have hi : i < xs.length := by
    rcases Nat.lt_or_ge i xs.length with h1 | h1
    · exact h1
    · rw [List.drop_eq_nil_of_le h1] at h; cases h
  rw [List.drop_eq_getElem_cons hi] at h
  injection h with h1 h2
  exact ⟨by rw [ix_ok hi, h1], hi, h2⟩

/-- A loop over the places of a list, from some place on. -/
theorem iter_from {α S St T : Type} {f : St → Option (St ⊕ T)} (mk : S → Int → St) (xs : List α) (hx : xs.length ≤ big) (I : S → List α → Prop) (g : S → List α → T)
    (hnil : ∀ s, I s [] → f (mk s xs.length) = some (.inr (g s [])))
    (hcons : ∀ (i : Nat) (a : α) (l : List α) (s : S), xs.drop i = a :: l → ix xs (i : Int) = some a → (i : Int) < xs.length → ck ((i : Int) + 1) = some ((i : Int) + 1) → I s (a :: l) →
      (∃ s', f (mk s i) = some (.inl (mk s' ((i : Int) + 1))) ∧ I s' l ∧ g s (a :: l) = g s' l) ∨ f (mk s i) = some (.inr (g s (a :: l)))) :
    ∀ (l : List α) (i : Nat) (s : S) (N : Nat), xs.drop i = l → i ≤ xs.length → l.length < N → I s l → iter f N (mk s (i : Int)) = some (g s l) := by
  intro l
  induction l with
  | nil =>
    intro i s N hd hi hN hI
    obtain ⟨M, rfl⟩ : ∃ M, N = M + 1 := ⟨N - 1, by omega⟩
    have e : i = xs.length := by have := congrArg List.length hd; simp at this; omega
    subst e
    unfold iter
    rw [hnil s hI]; rfl
  | cons a l ih =>
    intro i s N hd hi hN hI
    obtain ⟨M, rfl⟩ : ∃ M, N = M + 1 := ⟨N - 1, by omega⟩
    obtain ⟨h1, h2, h3⟩ := ix_drop hd
    unfold iter
    rcases hcons i a l s hd h1 (by omega) (ck_ok (by unfold big at hx; omega)) hI with ⟨s', e1, e2, e3⟩ | e1
    · rw [e1, e3]
      show iter f M (mk s' ((i : Int) + 1)) = _
      have := ih (i + 1) s' M h3 (by omega) (by simp at hN; omega) e2
      simpa using this
    · rw [e1]; rfl
/-- A loop over the places of a list. -/
theorem iter_list {α S St T : Type} {f : St → Option (St ⊕ T)} (mk : S → Int → St) (xs : List α) (hx : xs.length ≤ big) (I : S → List α → Prop) (g : S → List α → T)
    (hnil : ∀ s, I s [] → f (mk s xs.length) = some (.inr (g s [])))
    (hcons : ∀ (i : Nat) (a : α) (l : List α) (s : S), xs.drop i = a :: l → ix xs (i : Int) = some a → (i : Int) < xs.length → ck ((i : Int) + 1) = some ((i : Int) + 1) → I s (a :: l) →
      (∃ s', f (mk s i) = some (.inl (mk s' ((i : Int) + 1))) ∧ I s' l ∧ g s (a :: l) = g s' l) ∨ f (mk s i) = some (.inr (g s (a :: l)))) :
    ∀ N, xs.length < N → ∀ s, I s xs → iter f N (mk s 0) = some (g s xs) := by
  intro N hN s hI
  have := iter_from mk xs hx I g hnil hcons xs 0 s N rfl (by omega) hN hI
  simpa using this

/-! ## What is right -/
def amid (n low high : Int) : Bool := decide (low ≤ n) && decide (n ≤ high)
def legal (s : Span) (low high : Int) : Bool := (decide (low ≤ s.low) && decide (s.low ≤ s.high)) && decide (s.high ≤ high)
def officeV : Int → List Span → Bool
  | _, [] => true
  | from', s :: l => legal s from' 2879 && officeV (s.high + 1) l
def stopsV (n : Int) : Int → List Stop → Bool
  | _, [] => true
  | from', y :: l => ((amid y.station 0 (n - 1) && amid y.arrive from' 2879) && amid y.leave y.arrive 2879) && stopsV n (y.leave + 1) l
def trainV (n : Int) (x : Train) : Bool := (amid x.stops.length 2 5 && legal x.late 0 90) && stopsV n 0 x.stops
def V (t : Table) : Bool :=
  ((((amid t.offices.length 1 6 && decide ((t.trains.length : Int) ≤ 6)) && amid t.load 0 60) && t.offices.all fun l => decide ((l.length : Int) ≤ 3) && officeV 0 l)) && t.trains.all (trainV t.offices.length)

theorem s47_eq (N : Nat) (a b c : Int) : s47 N a b c = some (amid a b c) := rfl
theorem s60_eq (N : Nat) (a b c : Int) : s60 N a b c = some (amid a b c) := rfl
theorem s62_eq (N : Nat) (a : Span) (b c : Int) : s62 N a b c = some (legal a b c) := rfl
theorem s61_eq (N : Nat) (a : Span) (b c : Int) : s61 N a b c = some (legal a b c) := rfl
theorem s67_eq (N : Nat) (a : Int) : s67 N a = some (amid a 0 2879) := rfl
theorem s85_eq (N : Nat) (a : Int) : s85 N a = some (amid a 0 2879) := rfl
theorem ck_len {n : Nat} (h : n ≤ big) : ck ((n : Int) - 1) = some ((n : Int) - 1) := ck_ok (by unfold big at h; omega)
theorem s86_eq (N : Nat) {t : Table} (h : t.offices.length ≤ big) (a : Int) : s86 N t a = some (amid a 0 ((t.offices.length : Int) - 1)) := by
  unfold s86
  rw [ck_len h]
  rfl
theorem bind_some' {α β : Type} (a : α) (f : α → Option β) : (some a).bind f = f a := rfl

/-- What the call may be told. -/
structure Lens (N : Nat) (t : Table) : Prop where
  o : t.offices.length ≤ big
  tr : t.trains.length ≤ big
  os : ∀ l ∈ t.offices, l.length ≤ big
  ts : ∀ x ∈ t.trains, x.stops.length ≤ big
  no : t.offices.length < N
  nt : t.trains.length < N
  nos : ∀ l ∈ t.offices, l.length < N
  nts : ∀ x ∈ t.trains, x.stops.length < N
  n4 : 5000 ≤ N
  n10 : 10000000000 ≤ N

/-- The specification's look at a train. -/
theorem s63_eq {N : Nat} {t : Table} (L : Lens N t) {x : Train} (hx : x ∈ t.trains) : s63 N t x = some (trainV t.offices.length x) := by
  unfold s63
  rw [s47_eq, bind_some']
  have e1 : (if amid x.stops.length 2 5 = true then (s62 N x.late 0 90).bind fun v4 => some v4 else some false) = some (amid x.stops.length 2 5 && legal x.late 0 90) := by
    cases amid x.stops.length 2 5 <;> rfl
  rw [e1, bind_some']
  have main := iter_list (f := s63_l24 N t x) (S := Bool × Int) (fun s i => (s.1, s.2, i)) x.stops (L.ts x hx) (fun s _ => s.1 = true → 0 ≤ s.2) (fun s l => s.1 && stopsV t.offices.length s.2 l)
    (fun s _ => by
      unfold s63_l24
      have : decide (((x.stops.length : Nat) : Int) < (x.stops.length : Int)) = false := by simp
      simp only [this, Bool.and_false, stopsV, Bool.and_true]
      rfl)
    (fun i y l s hd hi hlt hck hI => by
      obtain ⟨ok, fr⟩ := s
      cases ok with
      | false =>
        right
        unfold s63_l24
        simp
      | true =>
        left
        have h0 : 0 ≤ fr := hI rfl
        refine ⟨(((amid y.station 0 ((t.offices.length : Int) - 1) && amid y.arrive fr 2879) && amid y.leave y.arrive 2879), IntKind.i64.wrap (y.leave + 1)), ?_, ?_, ?_⟩
        · unfold s63_l24
          have hk : ck (y.leave + 1) = some (IntKind.i64.wrap (y.leave + 1)) := rfl
          simp only [hlt, decide_true, Bool.and_true, if_true, hi, bind_some', s86_eq N L.o, s47_eq, hck, hk]
          cases amid y.station 0 ((t.offices.length : Int) - 1) <;> cases amid y.arrive fr 2879 <;> rfl
        · intro hv
          simp only [amid, Bool.and_eq_true, decide_eq_true_eq] at hv
          rw [wrap64_in _ (by omega) (by omega)]
          omega
        · simp only [stopsV, Bool.true_and]
          by_cases hv : ((amid y.station 0 ((t.offices.length : Int) - 1) && amid y.arrive fr 2879) && amid y.leave y.arrive 2879) = true
          · rw [hv, Bool.true_and, Bool.true_and]
            simp only [amid, Bool.and_eq_true, decide_eq_true_eq] at hv
            rw [wrap64_in _ (by omega) (by omega)]
          · rw [Bool.eq_false_iff.2 hv]; rfl)
    N (L.nts x hx) ((amid x.stops.length 2 5 && legal x.late 0 90), 0) (fun _ => Int.le_refl _)
  rw [main]
  rfl

/-- The specification's look at a timetable. -/
theorem office15 {N : Nat} {t : Table} (L : Lens N t) {l : List Span} (hl : l ∈ t.offices) (s8 : Bool × Int) (hs : ix t.offices s8.2 = some l) (ok : Bool) :
    iter (s15_l30 N t s8) N (ok, 0, 0) = some (ok && officeV 0 l) := by
  have main := iter_list (f := s15_l30 N t s8) (S := Bool × Int) (fun s i => (s.1, s.2, i)) l (L.os l hl) (fun s _ => s.1 = true → 0 ≤ s.2) (fun s r => s.1 && officeV s.2 r)
    (fun s _ => by
      unfold s15_l30
      have : decide (((l.length : Nat) : Int) < (l.length : Int)) = false := by simp
      simp only [hs, bind_some', this, officeV, Bool.and_true]
      cases s.1 <;> rfl)
    (fun i y r s hd hi hlt hck hI => by
      obtain ⟨ok, fr⟩ := s
      cases ok with
      | false =>
        right
        unfold s15_l30
        simp
      | true =>
        left
        have h0 : 0 ≤ fr := hI rfl
        refine ⟨(legal y fr 2879, IntKind.i64.wrap (y.high + 1)), ?_, ?_, ?_⟩
        · unfold s15_l30
          have hk : ck (y.high + 1) = some (IntKind.i64.wrap (y.high + 1)) := rfl
          simp only [hs, hlt, decide_true, if_true, hi, bind_some', s62_eq, hck, hk]
        · intro hv
          simp only [legal, Bool.and_eq_true, decide_eq_true_eq] at hv
          rw [wrap64_in _ (by omega) (by omega)]
          omega
        · simp only [officeV, Bool.true_and]
          by_cases hv : legal y fr 2879 = true
          · rw [hv, Bool.true_and, Bool.true_and]
            simp only [legal, Bool.and_eq_true, decide_eq_true_eq] at hv
            rw [wrap64_in _ (by omega) (by omega)]
          · rw [Bool.eq_false_iff.2 hv]; rfl)
    N (L.nos l hl) (ok, 0) (fun _ => Int.le_refl _)
  exact main
theorem mem_drop {α : Type} {xs : List α} {i : Nat} {a : α} {l : List α} (h : xs.drop i = a :: l) : a ∈ xs := List.mem_of_mem_drop (i := i) (by rw [h]; exact List.mem_cons_self)

theorem s15_eq {N : Nat} {t : Table} (L : Lens N t) : s15 N t = some (if V t then 0 else 30) := by
  have m1 := iter_list (f := s15_l32 N t) (S := Bool) (fun s i => (s, i)) t.offices L.o (fun _ _ => True) (fun s r => s && r.all fun l => decide ((l.length : Int) ≤ 3) && officeV 0 l)
    (fun s _ => by
      unfold s15_l32
      have : decide (((t.offices.length : Nat) : Int) < (t.offices.length : Int)) = false := by simp
      simp only [this, Bool.and_false, List.all_nil, Bool.and_true]
      rfl)
    (fun i y r s hd hi hlt hck _ => by
      cases s with
      | false =>
        right
        unfold s15_l32
        simp
      | true =>
        left
        refine ⟨decide ((y.length : Int) ≤ 3) && officeV 0 y, ?_, trivial, ?_⟩
        · unfold s15_l32
          simp only [hlt, decide_true, Bool.and_true, if_true, hi, bind_some', hck]
          rw [office15 L (mem_drop hd) _ hi]
          rfl
        · rw [List.all_cons, Bool.true_and])
    N L.no
  have m2 := iter_list (f := s15_l42 N t) (S := Bool) (fun s i => (s, i)) t.trains L.tr (fun _ _ => True) (fun s r => s && r.all (trainV t.offices.length))
    (fun s _ => by
      unfold s15_l42
      have : decide (((t.trains.length : Nat) : Int) < (t.trains.length : Int)) = false := by simp
      simp only [this, Bool.and_false, List.all_nil, Bool.and_true]
      rfl)
    (fun i y r s hd hi hlt hck _ => by
      cases s with
      | false =>
        right
        unfold s15_l42
        simp
      | true =>
        left
        refine ⟨trainV t.offices.length y, ?_, trivial, ?_⟩
        · unfold s15_l42
          simp only [hlt, decide_true, Bool.and_true, if_true, hi, bind_some', hck]
          rw [s63_eq L (mem_drop hd)]
          rfl
        · rw [List.all_cons, Bool.true_and])
    N L.nt
  unfold s15
  rw [s47_eq, bind_some']
  have e1 : (if (amid t.offices.length 1 6 && decide ((t.trains.length : Int) ≤ 6)) = true then (s47 N t.load 0 60).bind fun v6 => some v6 else some false) =
      some ((amid t.offices.length 1 6 && decide ((t.trains.length : Int) ≤ 6)) && amid t.load 0 60) := by
    cases (amid t.offices.length 1 6 && decide ((t.trains.length : Int) ≤ 6)) <;> rfl
  rw [e1, bind_some', m1 _ trivial, bind_some', m2 _ trivial, bind_some']
  show (if !V t then some 30 else some 0) = _
  cases V t <;> rfl

/-! ## The program's look -/
theorem office14 {N : Nat} {l : List Span} (h1 : l.length ≤ big) (h2 : l.length < N) (ok : Bool) :
    iter (s14_l26 N l) N (ok, -1, 0) = some (ok && officeV 0 l) := by
  have main := iter_list (f := s14_l26 N l) (S := Bool × Int) (fun s i => (s.1, s.2, i)) l h1 (fun s _ => s.1 = true → -1 ≤ s.2 ∧ s.2 ≤ 2879) (fun s r => s.1 && officeV (s.2 + 1) r)
    (fun s _ => by
      unfold s14_l26
      have : decide (((l.length : Nat) : Int) < (l.length : Int)) = false := by simp
      simp only [this, officeV, Bool.and_true]
      rfl)
    (fun i y r s hd hi hlt hck hI => by
      obtain ⟨ok, fr⟩ := s
      left
      refine ⟨((ok && legal y (fr + 1) 2879), y.high), ?_, ?_, ?_⟩
      · unfold s14_l26
        cases ok with
        | false => simp only [hlt, decide_true, if_true, hi, bind_some', hck]; rfl
        | true =>
          obtain ⟨a, b⟩ := hI rfl
          have a' : -1 ≤ fr := a
          have b' : fr ≤ 2879 := b
          simp only [hlt, decide_true, if_true, hi, bind_some', hck, ck_ok (n := fr + 1) (by omega), s61_eq, Bool.true_and]
      · intro hv
        simp only [legal, Bool.and_eq_true, decide_eq_true_eq] at hv
        obtain ⟨rfl, hv⟩ := hv
        have a' : -1 ≤ fr := (hI rfl).1
        show -1 ≤ y.high ∧ y.high ≤ 2879
        omega
      · simp only [officeV, Bool.and_assoc])
    N h2 (ok, -1) (fun _ => by show -1 ≤ (-1 : Int) ∧ (-1 : Int) ≤ 2879; omega)
  exact main
theorem stops14 {N : Nat} {t : Table} (L : Lens N t) {x : Train} (hx : x ∈ t.trains) (ok : Bool) :
    iter (s14_l62 N t x) N (ok, -1, 0) = some (ok && stopsV t.offices.length 0 x.stops) := by
  have main := iter_list (f := s14_l62 N t x) (S := Bool × Int) (fun s i => (s.1, s.2, i)) x.stops (L.ts x hx) (fun s _ => s.1 = true → -1 ≤ s.2 ∧ s.2 ≤ 2879) (fun s r => s.1 && stopsV t.offices.length (s.2 + 1) r)
    (fun s _ => by
      unfold s14_l62
      have : decide (((x.stops.length : Nat) : Int) < (x.stops.length : Int)) = false := by simp
      simp only [this, stopsV, Bool.and_true]
      rfl)
    (fun i y r s hd hi hlt hck hI => by
      obtain ⟨ok, fr⟩ := s
      left
      refine ⟨((ok && ((amid y.station 0 ((t.offices.length : Int) - 1) && amid y.arrive (fr + 1) 2879) && amid y.leave y.arrive 2879)), y.leave), ?_, ?_, ?_⟩
      · unfold s14_l62
        cases ok with
        | false => simp only [hlt, decide_true, if_true, hi, bind_some', hck]; rfl
        | true =>
          obtain ⟨a, b⟩ := hI rfl
          have a' : -1 ≤ fr := a
          have b' : fr ≤ 2879 := b
          simp only [hlt, decide_true, if_true, hi, bind_some', hck, ck_ok (n := fr + 1) (by omega), ck_len L.o, s60_eq, Bool.true_and]
          cases amid y.station 0 ((t.offices.length : Int) - 1) <;> cases amid y.arrive (fr + 1) 2879 <;> rfl
      · intro hv
        simp only [amid, Bool.and_eq_true, decide_eq_true_eq] at hv
        obtain ⟨rfl, hv⟩ := hv
        have a' : -1 ≤ fr := (hI rfl).1
        show -1 ≤ y.leave ∧ y.leave ≤ 2879
        omega
      · simp only [stopsV, Bool.and_assoc])
    N (L.nts x hx) (ok, -1) (fun _ => by show -1 ≤ (-1 : Int) ∧ (-1 : Int) ≤ 2879; omega)
  exact main
theorem s14_eq {N : Nat} {t : Table} (L : Lens N t) : s14 N t = some (if V t then 0 else 30) := by
  have m1 := iter_list (f := s14_l28 N t) (S := Bool) (fun s i => (s, i)) t.offices L.o (fun _ _ => True) (fun s r => s && r.all fun l => decide ((l.length : Int) ≤ 3) && officeV 0 l)
    (fun s _ => by
      unfold s14_l28
      have : decide (((t.offices.length : Nat) : Int) < (t.offices.length : Int)) = false := by simp
      simp only [this, List.all_nil, Bool.and_true]
      rfl)
    (fun i y r s hd hi hlt hck _ => by
      left
      refine ⟨(s && decide ((y.length : Int) ≤ 3)) && officeV 0 y, ?_, trivial, ?_⟩
      · unfold s14_l28
        simp only [hlt, decide_true, if_true, hi, bind_some', hck]
        rw [office14 (L.os y (mem_drop hd)) (L.nos y (mem_drop hd))]
        rfl
      · rw [List.all_cons, Bool.and_assoc, Bool.and_assoc, Bool.and_assoc])
    N L.no
  have m2 := iter_list (f := s14_l64 N t) (S := Bool) (fun s i => (s, i)) t.trains L.tr (fun _ _ => True) (fun s r => s && r.all (trainV t.offices.length))
    (fun s _ => by
      unfold s14_l64
      have : decide (((t.trains.length : Nat) : Int) < (t.trains.length : Int)) = false := by simp
      simp only [this, List.all_nil, Bool.and_true]
      rfl)
    (fun i y r s hd hi hlt hck _ => by
      left
      refine ⟨((s && amid y.stops.length 2 5) && legal y.late 0 90) && stopsV t.offices.length 0 y.stops, ?_, trivial, ?_⟩
      · unfold s14_l64
        have e1 : ((if s = true then (s60 N y.stops.length 2 5).bind fun v36 => some v36 else some false)) = some (s && amid y.stops.length 2 5) := by cases s <;> rfl
        have e2 : ((if (s && amid y.stops.length 2 5) = true then (s61 N y.late 0 90).bind fun v40 => some v40 else some false)) = some ((s && amid y.stops.length 2 5) && legal y.late 0 90) := by
          cases (s && amid y.stops.length 2 5) <;> rfl
        simp only [hlt, decide_true, if_true, hi, bind_some', hck]
        rw [e1, bind_some', e2, bind_some', stops14 L (mem_drop hd)]
        rfl
      · rw [List.all_cons, trainV]
        simp only [Bool.and_assoc])
    N L.nt
  unfold s14
  rw [s60_eq, bind_some']
  have e1 : (if (amid t.offices.length 1 6 && decide ((t.trains.length : Int) ≤ 6)) = true then (s60 N t.load 0 60).bind fun v6 => some v6 else some false) =
      some ((amid t.offices.length 1 6 && decide ((t.trains.length : Int) ≤ 6)) && amid t.load 0 60) := by
    cases (amid t.offices.length 1 6 && decide ((t.trains.length : Int) ≤ 6)) <;> rfl
  rw [e1, bind_some', m1 _ trivial, bind_some', m2 _ trivial, bind_some']
  show (if !V t then some 30 else some 0) = _
  cases V t <;> rfl
end Go.Abs.Tr
