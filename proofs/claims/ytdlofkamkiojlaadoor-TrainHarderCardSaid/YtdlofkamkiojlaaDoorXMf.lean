/- Plain law: Best, Surely, Soonest: the program and the specification. Conditions: none. -/
import Derived.Test.YtdlofkamkiojlaaDoorXMe
import Derived.Test.YtdlofkamkiojlaaDoorXGh
namespace Go.Abs.Tr
open Go Go.Abs
set_option linter.unusedSimpArgs false
set_option linter.unusedVariables false

/-- Two stations and a minute. -/
def betw (t : Table) (a b at' : Int) : Bool := pairV t a b && amid at' 0 2879
theorem betw_iff {t : Table} {a b at' : Int} (h : betw t a b at' = true) : a ≠ b ∧ (0 ≤ at' ∧ at' ≤ 2879) ∧ pairV t a b = true ∧ amid at' 0 2879 = true := by
  simp only [betw, Bool.and_eq_true] at h
  obtain ⟨h1, h2⟩ := h
  have h3 := h1
  simp only [pairV, Bool.and_eq_true, Bool.not_eq_true'] at h3
  exact ⟨by simpa using h3.2, amid_iff.1 h2, h1, h2⟩
theorem s77_eq {N : Nat} {t : Table} (L : Lens N t) (a b at' : Int) :
    s77 N t a b at' = some (if V t then (if betw t a b at' then (calcOf t, 0) else (noCalc, 31)) else (noCalc, 30)) := by
  unfold s77
  rw [s51_eq L (b := betw t a b at') (fun G => by
    unfold s99 betw
    rw [s53_eq L, bind_some']
    cases pairV t a b <;> rfl), bind_some']
theorem openR_in {l : List Span} (hv : officeV 0 l = true) {m : Int} (h0 : 0 ≤ m) : 0 ≤ openR l m ∧ openR l m ≤ 2880 := by
  by_cases h : m ≤ 2880
  · have := open_ge l 0 m hv h
    omega
  · rw [open_late l 0 m hv (by omega)]
    omega
/-- When a box is there that goes by a route. -/
def whn (t : Table) (at' : Int) (l : List Leg) : Span := whenV t l (spn (arr t ⟨at', at'⟩ l)).span
theorem whn_in {t : Table} (G : Good t) {l : List Leg} (hr : legsV t l = true) {at' : Int} (h0 : 0 ≤ at') (h1 : at' ≤ 2879) (hg : (goesV t at' l == 0) = false) :
    (0 ≤ (whn t at' l).low ∧ (whn t at' l).low ≤ 2880) ∧ (0 ≤ (whn t at' l).high ∧ (whn t at' l).high ≤ 2880) := by
  obtain ⟨_, s, hs⟩ := goesV_arr hg
  obtain ⟨hl, hlegs⟩ := legsV_legs hr
  obtain ⟨ht0, ht1⟩ := G.to' hr
  obtain ⟨_, _, o3⟩ := G.ofc ht0 ht1
  have ga0 := G.a0
  obtain ⟨b1, b2, b3, b4⟩ := arr_in G l _ s hlegs hs (by show 0 ≤ at' ∧ at' ≤ 3000 ∧ 0 ≤ at' ∧ at' ≤ 3000; omega)
  unfold whn
  rw [hs]
  exact ⟨openR_in o3 (by show 0 ≤ s.low + t.load; omega), openR_in o3 (by show 0 ≤ s.high + t.load; omega)⟩

/-! ## Best -/
def yB (t : Table) (at' : Int) (s : Found) (r : List Leg) : Found := if goesV t at' r == 2 then (if (whn t at' r).high < s.til then ⟨r, (whn t at' r).high⟩ else s) else s
def bestV (t : Table) (a b at' : Int) : Found := (rts t a b).foldl (yB t at') ⟨[], 2880⟩
theorem s101_eq (N : Nat) {l : List Leg} (h1 : 1 ≤ l.length) (h4 : l.length ≤ 4) : s101 N l = some l := by
  cases l with
  | nil => simp at h1
  | cons x l =>
    unfold s101
    simp only [apB (xs := ([] : List Leg)) (ys := x :: l) (by simp at h4 ⊢; omega)]
    rfl
theorem s106_eq (N : Nat) (a b : Found) : s106 N a b = some (decide (a.til < b.til)) := by
  unfold s106 s107 s109
  simp [bind_some']
theorem y78_eq {N : Nat} {t : Table} (L : Lens N t) (G : Good t) {frm : Int} {r : List Leg} (hr : Hang t frm r) (h1 : 1 ≤ r.length) (h4 : r.length ≤ 4) {at' : Int} (a0 : 0 ≤ at') (a1 : at' ≤ 2879) (s : Found) :
    y78_0 N (calcOf t) at' s r = some (yB t at' s r) := by
  have hl := hr.legsV h1 h4
  unfold y78_0 yB
  rw [s65_eq L G hl a0 a1, bind_some']
  cases hg : goesV t at' r == 2 with
  | false => simp
  | true =>
    have hg0 : (goesV t at' r == 0) = false := by
      have : goesV t at' r = 2 := by simpa using hg
      rw [this]; rfl
    obtain ⟨_, q, hq⟩ := goesV_arr hg0
    simp only [Bool.not_true, Bool.false_eq_true, if_false, s101_eq N h1 h4, bind_some', s75_eq L G hl a0 a1 hq, s106_eq, if_true, whn, hq, spn]
    by_cases h : (whenV t r q).high < s.til <;> simp [h]
theorem s78_eq {N : Nat} {t : Table} (L : Lens N t) (G : Good t) (a b : Int) {at' : Int} (a0 : 0 ≤ at') (a1 : at' ≤ 2879) : s78 N (calcOf t) a b at' = some (bestV t a b at') := by
  have := itS_eq (N := N) (t := t) (frm := a) (to := b) (Y := fun s x => (y78_0 N (calcOf t) at' s x).map (fun s => (s, true))) (y := yB t at') (I := fun _ => True) L G
    (fun s r _ hr h1 h4 _ => ⟨by rw [y78_eq L G hr h1 h4 a0 a1]; rfl, trivial⟩) ⟨[], 2880⟩ trivial
  unfold s78 bestV
  show (itS N _ (calcOf t) a b _).bind _ = _
  rw [this, bind_some']
theorem best_in {t : Table} (G : Good t) (a b : Int) {at' : Int} (a0 : 0 ≤ at') (a1 : at' ≤ 2879) : (bestV t a b at').til ≤ 2880 ∧ (bestV t a b at').route.length ≤ 4 := by
  have : ∀ (l : List (List Leg)) (s : Found), (s.til ≤ 2880 ∧ s.route.length ≤ 4) → (∀ r ∈ l, r.length ≤ 4) → (l.foldl (yB t at') s).til ≤ 2880 ∧ (l.foldl (yB t at') s).route.length ≤ 4 := by
    intro l
    induction l with
    | nil => intro s h _; exact h
    | cons r l ih =>
      intro s h hl
      refine ih _ ?_ fun q hq => hl q (List.mem_cons_of_mem _ hq)
      unfold yB
      split
      · split
        · next h2 => exact ⟨by show (whn t at' r).high ≤ 2880; omega, hl r List.mem_cons_self⟩
        · exact h
      · exact h
  exact this _ _ ⟨Int.le_refl _, Nat.zero_le _⟩ fun r hr => (rts_ok hr).2.1.2
def bestR (t : Table) (a b at' : Int) : List Leg × Int :=
  if V t && betw t a b at' then (if (bestV t a b at').til == 2880 then ([], 4) else ((bestV t a b at').route, 0)) else ([], askV t (betw t a b at'))
theorem s24_eq {N : Nat} {t : Table} (L : Lens N t) (a b at' : Int) : s24 N t a b at' = some (bestR t a b at') := by
  unfold s24 bestR askV
  rw [s77_eq L, bind_some']
  cases hv : V t with
  | false => rfl
  | true =>
    cases ha : betw t a b at' with
    | false => rfl
    | true =>
      have G := good_of hv
      obtain ⟨_, ⟨a0, a1⟩, _⟩ := betw_iff ha
      have e : (!((0 : Int) == 0)) = false := rfl
      simp only [if_true, e, Bool.false_eq_true, if_false, s78_eq L G a b a0 a1, bind_some', Bool.and_self, sl_all]
      cases (bestV t a b at').til == 2880 <;> rfl
/-! ## Surely -/
def sureR (t : Table) (a b at' : Int) : Int × Int :=
  if V t && betw t a b at' then (if (bestV t a b at').til == 2880 then (0, 4) else ((bestV t a b at').til, 0)) else (0, askV t (betw t a b at'))
theorem s27_eq {N : Nat} {t : Table} (L : Lens N t) (a b at' : Int) : s27 N t a b at' = some (sureR t a b at') := by
  unfold s27 sureR askV
  rw [s77_eq L, bind_some']
  cases hv : V t with
  | false => rfl
  | true =>
    cases ha : betw t a b at' with
    | false => rfl
    | true =>
      have G := good_of hv
      obtain ⟨_, ⟨a0, a1⟩, _⟩ := betw_iff ha
      have e : (!((0 : Int) == 0)) = false := rfl
      have hb := (best_in G a b a0 a1).1
      simp only [if_true, e, Bool.false_eq_true, if_false, s78_eq L G a b a0 a1, bind_some', Bool.and_self]
      by_cases h : (bestV t a b at').til = 2880
      · have h1 : decide ((bestV t a b at').til < 2880) = false := decide_eq_false (by omega)
        have h2 : ((bestV t a b at').til == 2880) = true := by simpa using h
        rw [h1, h2]; rfl
      · have h1 : decide ((bestV t a b at').til < 2880) = true := decide_eq_true (by omega)
        have h2 : ((bestV t a b at').til == 2880) = false := by simpa using h
        rw [h1, h2]; rfl
/-! ## Soonest -/
def yS (t : Table) (at' : Int) (s : Int) (r : List Leg) : Int := if goesV t at' r == 0 then s else mn s (whn t at' r).low
def soonV (t : Table) (a b at' : Int) : Int := (rts t a b).foldl (yS t at') 2880
theorem yS_in {t : Table} (G : Good t) {frm : Int} {r : List Leg} (hr : Hang t frm r) (h1 : 1 ≤ r.length) (h4 : r.length ≤ 4) {at' : Int} (a0 : 0 ≤ at') (a1 : at' ≤ 2879) {s : Int} (hs : 0 ≤ s ∧ s ≤ 2880) : 0 ≤ yS t at' s r ∧ yS t at' s r ≤ 2880 := by
  unfold yS
  cases hg : goesV t at' r == 0 with
  | true => exact hs
  | false =>
    have := (whn_in G (hr.legsV h1 h4) a0 a1 hg).1
    simp only [Bool.false_eq_true, if_false, mn]
    split <;> omega
theorem y29_eq {N : Nat} {t : Table} (L : Lens N t) (G : Good t) {frm : Int} {r : List Leg} (hr : Hang t frm r) (h1 : 1 ≤ r.length) (h4 : r.length ≤ 4) {at' : Int} (a0 : 0 ≤ at') (a1 : at' ≤ 2879) {s : Int} (hs : 0 ≤ s ∧ s ≤ 2880) (k : Int) :
    y29_0 N at' (calcOf t, k) s r = some (yS t at' s r) := by
  have hN := L.n4
  have hl := hr.legsV h1 h4
  unfold y29_0 yS
  simp only [s65_eq L G hl a0 a1, bind_some']
  cases hg : goesV t at' r == 0 with
  | true => simp
  | false =>
    obtain ⟨_, q, hq⟩ := goesV_arr hg
    have hin := (whn_in G hl a0 a1 hg).1
    simp only [whn, hq, spn] at hin
    have hm := mx_ge (0 - s) (0 - (whenV t r q).low)
    have hm2 := mx_le (a := 0 - s) (b := 0 - (whenV t r q).low) (c := 0) (by omega) (by omega)
    simp only [Bool.not_false, if_true, Bool.false_eq_true, if_false, ck_ok (n := 0 - s) (by omega), bind_some', s75_eq L G hl a0 a1 hq, ck_ok (n := 0 - (whenV t r q).low) (by omega), s82_eq hN, ck_ok (n := 0 - mx (0 - s) (0 - (whenV t r q).low)) (by omega), whn, hq, spn]
    congr 1
    simp only [mx, mn]
    split <;> split <;> omega
def soonR (t : Table) (a b at' : Int) : Int × Int :=
  if V t && betw t a b at' then (if soonV t a b at' == 2880 then (0, 4) else (soonV t a b at', 0)) else (0, askV t (betw t a b at'))
theorem s29_eq {N : Nat} {t : Table} (L : Lens N t) (a b at' : Int) : s29 N t a b at' = some (soonR t a b at') := by
  unfold s29 soonR askV
  rw [s77_eq L, bind_some']
  cases hv : V t with
  | false => rfl
  | true =>
    cases ha : betw t a b at' with
    | false => rfl
    | true =>
      have G := good_of hv
      obtain ⟨_, ⟨a0, a1⟩, _⟩ := betw_iff ha
      have e : (!((0 : Int) == 0)) = false := rfl
      have main := itS_eq (N := N) (t := t) (frm := a) (to := b) (Y := fun s x => (y29_0 N at' (calcOf t, 0) s x).map (fun s => (s, true))) (y := yS t at') (I := fun s => 0 ≤ s ∧ s ≤ 2880) L G
        (fun s r hs hr h1 h4 _ => ⟨by rw [y29_eq L G hr h1 h4 a0 a1 hs]; rfl, yS_in G hr h1 h4 a0 a1 hs⟩) 2880 ⟨by omega, by omega⟩
      simp only [if_true, e, Bool.false_eq_true, if_false, s81, bind_some', main, Bool.and_self]
      show (if (soonV t a b at' == 2880) = true then _ else _) = _
      cases soonV t a b at' == 2880 <;> rfl
end Go.Abs.Tr
