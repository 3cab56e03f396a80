/- Plain law: when an office is open. Conditions: none. -/
import Derived.Test.YtdlofkamkiojlaaDoorLc
namespace Go.Abs.Tr
open Go Go.Abs
set_option linter.unusedSimpArgs false

def openO (m : Int) : List Span → Unit ⊕ Int
  | [] => .inl ()
  | s :: l => if m ≤ s.high then .inr (mx m s.low) else openO m l
/-- The first minute from one on in which an office is open. -/
def openR (l : List Span) (m : Int) : Int := match openO m l with
  | .inl _ => 2880
  | .inr v => v
def isOp (l : List Span) (m : Int) : Bool := l.any fun s => amid m s.low s.high

/-- The specification's. -/
theorem s71_eq {N : Nat} {t : Table} {st : Int} {l : List Span} (hl : ix t.offices st = some l) (h3 : l.length ≤ 3) (hN : 5000 ≤ N) (m : Int) : s71 N t st m = some (openR l m) := by
  have main := iter_list (f := s71_l10 N m l) (S := Unit) (fun _ i => i) l (by unfold big; omega) (fun _ _ => True) (fun _ r => openO m r)
    (fun s _ => by
      unfold s71_l10
      have : decide (((l.length : Nat) : Int) < (l.length : Int)) = false := by simp
      simp only [this, openO]
      rfl)
    (fun i y r s hd hi hlt hck _ => by
      unfold s71_l10
      simp only [hlt, decide_true, if_true, hi, bind_some', hck, openO]
      by_cases h : m ≤ y.high
      · right; simp [h]
      · left; exact ⟨(), by simp [h], trivial, by simp [h]⟩)
    N (by omega) () trivial
  have main' : iter (s71_l10 N m l) N 0 = _ := main
  unfold s71
  rw [hl, bind_some', main', bind_some']
  unfold openR
  cases openO m l <;> rfl

def idxO (q : Span → Bool) : Nat → List Span → Unit ⊕ Int
  | _, [] => .inl ()
  | n, s :: l => if q s then .inr (n : Int) else idxO q (n + 1) l
theorem idxO_any (q : Span → Bool) : ∀ (l : List Span) (n : Nat), (match idxO q n l with | .inl _ => false | .inr v => decide (v ≥ 0)) = l.any q := by
  intro l
  induction l with
  | nil => intro n; rfl
  | cons s l ih =>
    intro n
    unfold idxO
    rw [List.any_cons]
    cases h : q s with
    | true => simp
    | false => simp only [Bool.false_eq_true, if_false, Bool.false_or]; exact ih (n + 1)
theorem s96_eq {N : Nat} {l : List Span} (h3 : l.length ≤ 3) (hN : 5000 ≤ N) {p : Span → Option Bool} {q : Span → Bool} (hp : ∀ s, p s = some (q s)) : s96 N l p = some (l.any q) := by
  have main := iter_list (f := s105_l9 N l p) (S := Nat) (fun _ i => i) l (by unfold big; omega) (fun n r => n + r.length = l.length) (fun n r => idxO q n r)
    (fun s _ => by
      unfold s105_l9
      have : decide (((l.length : Nat) : Int) < (l.length : Int)) = false := by simp
      simp only [this, idxO]
      rfl)
    (fun i y r n hd hi hlt hck hI => by
      have hn : n = i := by
        have h1 := congrArg List.length hd
        simp at h1 hI; omega
      subst hn
      unfold s105_l9
      simp only [hlt, decide_true, if_true, hi, bind_some', hck, idxO, hp]
      cases h : q y with
      | true => right; simp
      | false => left; exact ⟨n + 1, by simp, by simp at hI; omega, by simp⟩)
    N (by omega) 0 (by omega)
  have main' : iter (s105_l9 N l p) N 0 = _ := main
  unfold s96 s105
  rw [main', bind_some', ← idxO_any q l 0]
  cases idxO q 0 l <;> rfl
theorem s69_eq {N : Nat} {t : Table} {st : Int} {l : List Span} (hl : ix t.offices st = some l) (h3 : l.length ≤ 3) (hN : 5000 ≤ N) (m : Int) : s69 N (calcOf t) st m = some (isOp l m) := by
  unfold s69
  have ct : (calcOf t).t = t := rfl
  have e := s96_eq h3 hN (p := fun x0 => s97 N x0 m) (q := fun s => amid m s.low s.high) (fun s => rfl)
  rw [ct, hl, bind_some', e]
  rfl

theorem isOp_low : ∀ (l : List Span) (f m : Int), officeV f l = true → isOp l m = true → f ≤ m ∧ m ≤ 2879 := by
  intro l
  induction l with
  | nil => intro f m _ h; cases h
  | cons s l ih =>
    intro f m hv h
    simp only [officeV, Bool.and_eq_true, legal_iff] at hv
    simp only [isOp, List.any_cons, Bool.or_eq_true, amid_iff] at h
    rcases h with h | h
    · omega
    · have := ih _ m hv.2 h
      omega
theorem open_is : ∀ (l : List Span) (f m : Int), officeV f l = true → isOp l m = true → openR l m = m := by
  intro l
  induction l with
  | nil => intro f m _ h; cases h
  | cons s l ih =>
    intro f m hv h
    simp only [officeV, Bool.and_eq_true, legal_iff] at hv
    simp only [isOp, List.any_cons, Bool.or_eq_true, amid_iff] at h
    unfold openR openO
    by_cases hm : m ≤ s.high
    · rw [if_pos hm]
      rcases h with h | h
      · show mx m s.low = m
        simp only [mx]
        split <;> omega
      · have := isOp_low l _ m hv.2 h
        omega
    · rw [if_neg hm]
      rcases h with h | h
      · omega
      · exact ih _ m hv.2 h
theorem open_not : ∀ (l : List Span) (f m : Int), officeV f l = true → isOp l m = false → openR l m = openR l (m + 1) := by
  intro l
  induction l with
  | nil => intro f m _ h; rfl
  | cons s l ih =>
    intro f m hv h
    simp only [officeV, Bool.and_eq_true, legal_iff] at hv
    simp only [isOp, List.any_cons, Bool.or_eq_false_iff] at h
    have h1 : ¬ (s.low ≤ m ∧ m ≤ s.high) := fun k => by rw [amid_iff.2 k] at h; cases h.1
    unfold openR openO
    by_cases hm : m ≤ s.high
    · rw [if_pos hm, if_pos (by omega)]
      show mx m s.low = mx (m + 1) s.low
      simp only [mx]
      split <;> split <;> omega
    · rw [if_neg hm, if_neg (by omega)]
      exact ih _ m hv.2 h.2
theorem open_late : ∀ (l : List Span) (f m : Int), officeV f l = true → 2879 < m → openR l m = 2880 := by
  intro l
  induction l with
  | nil => intro f m _ _; rfl
  | cons s l ih =>
    intro f m hv h
    simp only [officeV, Bool.and_eq_true, legal_iff] at hv
    unfold openR openO
    rw [if_neg (by omega)]
    exact ih _ m hv.2 h
theorem open_ge : ∀ (l : List Span) (f m : Int), officeV f l = true → m ≤ 2880 → m ≤ openR l m ∧ openR l m ≤ 2880 := by
  intro l
  induction l with
  | nil => intro f m _ h; exact ⟨h, Int.le_refl _⟩
  | cons s l ih =>
    intro f m hv h
    simp only [officeV, Bool.and_eq_true, legal_iff] at hv
    unfold openR openO
    by_cases hm : m ≤ s.high
    · rw [if_pos hm]
      show m ≤ mx m s.low ∧ mx m s.low ≤ 2880
      simp only [mx]
      split <;> omega
    · rw [if_neg hm]
      exact ih _ m hv.2 h
/-- Is it open just in that minute? -/
theorem open_at {l : List Span} {f m : Int} (hv : officeV f l = true) (hm : m ≤ 2879) : (openR l m == m) = isOp l m := by
  cases h : isOp l m with
  | true => rw [open_is l f m hv h]; simp
  | false =>
    have h1 := open_not l f m hv h
    have h2 := open_ge l f (m + 1) hv (by omega)
    rw [h1]
    simp; omega
/-- The program's. -/
theorem s98_eq {N : Nat} {t : Table} {st : Int} {l : List Span} (hl : ix t.offices st = some l) (h3 : l.length ≤ 3) (hv : officeV 0 l = true) (hN : 5000 ≤ N) {m : Int} (h0 : 0 ≤ m) (h1 : m ≤ 100000) :
    s98 N (calcOf t) st m = some (openR l m) := by
  have main : ∀ (k : Nat) (M : Nat) (m : Int), (2880 - m).toNat ≤ k → k < M → 0 ≤ m → m ≤ 100000 → ∃ o, iter (s98_l8 N (calcOf t) st) M m = some o ∧ (match o with | .inl _ => (2880 : Int) | .inr v => v) = openR l m := by
    intro k
    induction k with
    | zero =>
      intro M m hk hM h0 h1
      obtain ⟨M, rfl⟩ : ∃ K, M = K + 1 := ⟨M - 1, by omega⟩
      refine ⟨.inl (), ?_, by rw [open_late l 0 m hv (by omega)]⟩
      unfold iter s98_l8
      have : decide (m ≤ 2879) = false := decide_eq_false (by omega)
      simp only [this]
      rfl
    | succ k ih =>
      intro M m hk hM h0 h1
      obtain ⟨M, rfl⟩ : ∃ K, M = K + 1 := ⟨M - 1, by omega⟩
      by_cases hm : m ≤ 2879
      · cases ho : isOp l m with
        | true =>
          refine ⟨.inr m, ?_, by rw [open_is l 0 m hv ho]⟩
          unfold iter s98_l8
          simp only [decide_eq_true hm, if_true, s69_eq hl h3 hN, bind_some', ho]
        | false =>
          obtain ⟨o, e1, e2⟩ := ih M (m + 1) (by omega) (by omega) (by omega) (by omega)
          refine ⟨o, ?_, by rw [open_not l 0 m hv ho]; exact e2⟩
          have e3 : s98_l8 N (calcOf t) st m = some (.inl (m + 1)) := by
            unfold s98_l8
            simp only [decide_eq_true hm, if_true, s69_eq hl h3 hN, bind_some', ho, Bool.false_eq_true, if_false, ck_ok (n := m + 1) (by omega)]
          unfold iter
          rw [e3]
          exact e1
      · refine ⟨.inl (), ?_, by rw [open_late l 0 m hv (by omega)]⟩
        unfold iter s98_l8
        have : decide (m ≤ 2879) = false := decide_eq_false hm
        simp only [this]
        rfl
  obtain ⟨o, e1, e2⟩ := main 2880 N m (by omega) (by omega) h0 h1
  unfold s98
  rw [e1, bind_some', ← e2]
  cases o <;> rfl
end Go.Abs.Tr
