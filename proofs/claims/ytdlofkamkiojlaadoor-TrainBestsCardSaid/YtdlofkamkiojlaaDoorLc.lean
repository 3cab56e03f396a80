/- Plain law: routes, by the program. Conditions: none. -/
import Derived.Test.YtdlofkamkiojlaaDoorLb
import Derived.Test.YtdlofkamkiojlaaDoorGe
namespace Go.Abs.Tr
open Go Go.Abs
set_option linter.unusedSimpArgs false

/-- Which trains were met. -/
def metOf (pre : List Leg) : List Bool := pre.foldl (fun m x => m.set x.train.toNat true) (List.replicate 6 false)
theorem metOf_snoc (pre : List Leg) (x : Leg) : metOf (pre ++ [x]) = (metOf pre).set x.train.toNat true := by simp [metOf]
theorem metOf_len (pre : List Leg) : (metOf pre).length = 6 := by
  have : ∀ (l : List Leg) (m : List Bool), m.length = 6 → (l.foldl (fun m x => m.set x.train.toNat true) m).length = 6 := by
    intro l
    induction l with
    | nil => intro m h; exact h
    | cons x l ih => intro m h; exact ih _ (by simp [h])
  exact this pre _ rfl
theorem metOf_get (pre : List Leg) (hp : ∀ y ∈ pre, 0 ≤ y.train) (k : Nat) (hk : k < 6) : (metOf pre)[k]? = some (pre.any fun y => y.train == (k : Int)) := by
  have : ∀ (l : List Leg) (m : List Bool) (b : Bool), m.length = 6 → (∀ y ∈ l, 0 ≤ y.train) → m[k]? = some b → (l.foldl (fun m x => m.set x.train.toNat true) m)[k]? = some (b || l.any fun y => y.train == (k : Int)) := by
    intro l
    induction l with
    | nil => intro m b _ _ h; simpa using h
    | cons x l ih =>
      intro m b hm hl h
      have h0 := hl x List.mem_cons_self
      rw [List.foldl_cons, ih _ (b || x.train == (k : Int)) (by simp [hm]) (fun y hy => hl y (List.mem_cons_of_mem _ hy)), List.any_cons, Bool.or_assoc]
      rw [List.getElem?_set]
      by_cases e : x.train.toNat = k
      · have : x.train = (k : Int) := by omega
        simp [e, this, hm, hk]
      · have : (x.train == (k : Int)) = false := by simp; omega
        simp [e, h, this]
  have h := this pre (List.replicate 6 false) false rfl hp (List.getElem?_replicate_of_lt hk)
  simpa [metOf] using h
theorem metOf_ne {x : Leg} {l : List Leg} (hp : ∀ y ∈ x :: l, 0 ≤ y.train) (hx : x.train < 6) : metOf (x :: l) ≠ List.replicate 6 false := by
  intro h
  have h0 := hp x List.mem_cons_self
  have h1 := metOf_get (x :: l) hp x.train.toNat (by omega)
  rw [h, List.getElem?_replicate_of_lt (by omega)] at h1
  have e : ((x.train.toNat : Nat) : Int) = x.train := by omega
  rw [e] at h1
  simp at h1
theorem ix_met {pre : List Leg} (hp : ∀ y ∈ pre, 0 ≤ y.train) {k : Int} (h0 : 0 ≤ k) (h6 : k < 6) : ix (metOf pre) k = some (pre.any fun y => y.train == k) := by
  unfold ix
  rw [if_pos h0, metOf_get pre hp k.toNat (by omega)]
  have e : ((k.toNat : Nat) : Int) = k := by omega
  rw [e]
theorem inA6 {k : Int} (h0 : 0 ≤ k) (h6 : k < 6) : inA 6 k = some () := if_pos ⟨h0, by omega⟩
theorem set_met {pre : List Leg} {x : Leg} (h0 : 0 ≤ x.train) (h6 : x.train < 6) : setA (metOf pre) x.train true = some (metOf (pre ++ [x])) := by
  rw [metOf_snoc]
  exact if_pos ⟨h0, by rw [metOf_len]; omega⟩
theorem lenC6 {l : List Bool} (h : l.length = 6) : lenC 6 l = some () := if_pos h
theorem s93_eq (N : Nat) : s93 N = some (List.replicate 6 false) := rfl

theorem s55_eq (N : Nat) {t : Table} {l : List Leg} (h : legsV t l = true) : s55 N (calcOf t) l = some (rF t l) := by
  obtain ⟨h1, h2⟩ := legsV_legs h
  cases l with
  | nil => simp at h1
  | cons x l =>
    have i0 : ix (x :: l) 0 = some x := rfl
    unfold s55
    simp only [i0, bind_some', (h2 x List.mem_cons_self).s83, rF, List.head?_cons, Option.getD_some]
theorem s56_eq (N : Nat) {t : Table} {l : List Leg} (h : legsV t l = true) : s56 N (calcOf t) l = some (rT t l) := by
  obtain ⟨h1, h2⟩ := legsV_legs h
  obtain ⟨y, hy⟩ : ∃ y, l.getLast? = some y := by
    cases l with
    | nil => simp at h1
    | cons x l => exact ⟨_, List.getLast?_eq_some_getLast (by simp)⟩
  have i1 : ix l ((l.length : Int) - 1) = some y := by
    have := ix_last (l := []) hy
    rwa [List.append_nil] at this
  unfold s56
  simp only [ck_ok (n := (l.length : Int) - 1) (by omega), i1, bind_some', (h2 y (List.mem_of_getLast? hy)).s92, rT, hy, Option.getD_some]

/-- The program's test of a list of legs. -/
theorem s54_eq {N : Nat} {t : Table} (L : Lens N t) (G : Good t) (route : List Leg) : s54 N (calcOf t) route = some (isR t route) := by
  unfold s54
  rw [s60_eq, bind_some']
  cases ha : amid route.length 1 4 with
  | false => simp [isR, legsV, ha]
  | true =>
    have hl := amid_iff.1 ha
    simp only [Bool.not_true, Bool.false_eq_true, if_false]
    have hN := L.n4
    have main := iter_list (f := s54_l40 N (calcOf t) route) (S := List Leg) (fun pre i => (i, metOf pre)) route (by unfold big; omega) (fun pre l => pre ++ l = route ∧ ∀ x ∈ pre, LegV t x)
      (fun pre l => cond (chainV t pre l) (Sum.inl (metOf (pre ++ l))) (Sum.inr false))
      (fun s _ => by
        unfold s54_l40
        have : decide (((route.length : Nat) : Int) < (route.length : Int)) = false := by simp
        simp only [this, chainV, cond_true, List.append_nil]
        rfl)
      (fun i x l pre hd hi hlt hck hI => by
        obtain ⟨hI, hp⟩ := hI
        have hpi : pre.length = i := by
          have h1 := congrArg List.length hd
          have h2 := congrArg List.length hI
          simp at h1 h2; omega
        have hp0 : ∀ y ∈ pre, 0 ≤ y.train := fun y hy => (hp y hy).t0
        unfold s54_l40
        have ct : (calcOf t).t = t := rfl
        simp only [hlt, decide_true, if_true, hi, bind_some', hck, ct, ck_len L.tr, s60_eq]
        by_cases hv : LegV t x
        · have a1 : amid x.train 0 ((t.trains.length : Int) - 1) = true := amid_iff.2 ⟨hv.t0, by have := hv.t1; omega⟩
          have h6 : x.train < 6 := by have := hv.t1; have := G.t6; omega
          have a2 : amid x.frm 0 (((tr t x).stops.length : Int) - 1) = true := amid_iff.2 ⟨hv.f0, by have := hv.f1; have := hv.f2; omega⟩
          have a3 : amid x.to (x.frm + 1) (((tr t x).stops.length : Int) - 1) = true := amid_iff.2 ⟨by have := hv.f1; omega, by have := hv.f2; omega⟩
          have gt := G.ts _ hv.mt
          have b2 : x.to < 5 := by have := hv.f2; have := gt.n5; omega
          have b3 := hv.f0
          have b4 := hv.f1
          simp only [a1, Bool.not_true, Bool.false_eq_true, if_false, inA6 hv.t0 h6, bind_some', ix_met hp0 hv.t0 h6]
          cases hany : pre.any (fun y => y.train == x.train) with
          | true =>
            right
            simp [chainV, hv, hany]
          | false =>
            have link : (if decide ((i : Int) > 0) = true then (ck ((i : Int) - 1)).bind fun v31 => (ix route v31).bind fun v32 => (Go.Abs.Tr.s92 N (calcOf t) v32).bind fun v33 => (Go.Abs.Tr.s83 N (calcOf t) x).bind fun v34 => some (!(v33.station == v34.station)) else some false) = some (!linkV t pre x) := by
              unfold linkV
              cases hg : pre.getLast? with
              | none =>
                have : pre = [] := List.getLast?_eq_none_iff.1 hg
                subst this
                have : i = 0 := by simpa using hpi.symm
                subst this
                rfl
              | some y =>
                have hpos : 0 < pre.length := by
                  cases pre with
                  | nil => cases hg
                  | cons a l => simp
                have hy := hp y (List.mem_of_getLast? hg)
                have hix : ix route ((i : Int) - 1) = some y := by rw [← hI, ← hpi]; exact ix_last hg
                have hgt : decide ((i : Int) > 0) = true := decide_eq_true (by omega)
                rw [hgt, if_pos rfl, ck_ok (by omega), bind_some', hix, bind_some', hy.s92, bind_some', hv.s83, bind_some']
            simp only [Bool.false_eq_true, if_false, hv.ixt, ck_len (L.ts _ hv.mt), bind_some', a2, a3, Bool.not_true, ck_ok (n := x.frm + 1) (by omega)]
            rw [link, bind_some']
            cases hlk : linkV t pre x with
            | false =>
              right
              simp [chainV, hv, hany, hlk]
            | true =>
              left
              refine ⟨pre ++ [x], by simp [set_met hv.t0 h6], ⟨by rw [List.append_assoc]; exact hI, fun z hz => ?_⟩, ?_⟩
              · rcases List.mem_append.1 hz with hz | hz
                · exact hp z hz
                · simp at hz; subst hz; exact hv
              · simp [chainV, hv, hany, hlk]
        · right
          have e0 : chainV t pre (x :: l) = false := by simp [chainV, hv]
          rw [e0]
          by_cases c1 : amid x.train 0 ((t.trains.length : Int) - 1) = true
          · have c1' := amid_iff.1 c1
            have h6 : x.train < 6 := by have := G.t6; omega
            have hixt : ix t.trains x.train = some (tr t x) := (ix_in c1'.1 (by omega)).1
            have hmt : tr t x ∈ t.trains := (ix_in c1'.1 (by omega)).2
            have gt := G.ts _ hmt
            simp only [c1, Bool.not_true, Bool.false_eq_true, if_false, inA6 c1'.1 h6, bind_some', ix_met hp0 c1'.1 h6]
            cases hany : pre.any (fun y => y.train == x.train) with
            | true => simp
            | false =>
              simp only [Bool.false_eq_true, if_false, hixt, bind_some', ck_len (L.ts _ hmt)]
              by_cases c2 : amid x.frm 0 (((tr t x).stops.length : Int) - 1) = true
              · have c2' := amid_iff.1 c2
                have c3 : amid x.to (x.frm + 1) (((tr t x).stops.length : Int) - 1) = false := by
                  rw [Bool.eq_false_iff]
                  intro c3
                  have c3' := amid_iff.1 c3
                  exact hv ⟨c1'.1, by omega, c2'.1, by omega, by omega⟩
                have b2 := gt.n5
                simp only [c2, Bool.not_true, Bool.false_eq_true, if_false, ck_ok (n := x.frm + 1) (by omega), bind_some', c3, Bool.not_false, if_true, cond_false]
              · simp [Bool.eq_false_iff.2 c2]
          · simp [Bool.eq_false_iff.2 c1])
      N (by omega) [] ⟨rfl, fun _ h => by cases h⟩
    have main' : iter (s54_l40 N (calcOf t) route) N (0, List.replicate 6 false) = _ := main
    rw [main', bind_some']
    cases hc : chainV t [] route with
    | false => simp [isR, legsV, ha, hc]
    | true =>
      have hlv : legsV t route = true := by simp [legsV, ha, hc]
      have hlegs := chainV_legs _ _ hc
      have hne : metOf ([] ++ route) ≠ List.replicate 6 false := by
        cases hr : route with
        | nil => rw [hr] at hl; simp at hl
        | cons x l =>
          rw [hr] at hlegs
          have hx := hlegs x List.mem_cons_self
          exact metOf_ne (fun y hy => (hlegs y hy).t0) (by have := hx.t1; have := G.t6; omega)
      simp only [cond_true, lenC6 (metOf_len _), lenC6 (l := List.replicate 6 false) rfl, s93_eq, bind_some', decide_eq_false hne, Bool.not_false, if_true, s55_eq N hlv, s56_eq N hlv, isR, hlv, Bool.true_and]

/-! ## What is asked -/
theorem okT_good {t : Table} (G : Good t) : okT t = true := by
  simp only [okT, Bool.and_eq_true, decide_eq_true_eq, List.all_eq_true]
  exact ⟨by have := G.t6; omega, fun x hx => by have := (G.ts x hx).n5; omega⟩
theorem s91_eq (N : Nat) {t : Table} (G : Good t) : s91 N t = some (calcOf t) := if_pos (okT_good G)
def noCalc : Calc := Calc.mk (Table.mk [] [] 0) []
theorem s51_eq {N : Nat} {t : Table} (L : Lens N t) {p : Calc → Option Bool} {b : Bool} (h : Good t → p (calcOf t) = some b) :
    s51 N t p = some (if V t then (if b then (calcOf t, 0) else (noCalc, 31)) else (noCalc, 30)) := by
  unfold s51
  rw [s14_eq L, bind_some']
  cases hv : V t with
  | false => rfl
  | true =>
    have G := good_of hv
    simp only [if_true]
    have e : (!((0 : Int) == 0)) = false := rfl
    simp only [e, Bool.false_eq_true, if_false, s91_eq N G, bind_some', h G]
    cases b <;> rfl
def pairV (t : Table) (a b : Int) : Bool := (amid a 0 ((t.offices.length : Int) - 1) && amid b 0 ((t.offices.length : Int) - 1)) && !(a == b)
theorem s53_eq {N : Nat} {t : Table} (L : Lens N t) (a b : Int) : s53 N (calcOf t) a b = some (pairV t a b) := by
  unfold s53
  have ct : (calcOf t).t = t := rfl
  simp only [ct, ck_len L.o, bind_some', s60_eq]
  cases h : amid a 0 ((t.offices.length : Int) - 1) <;> simp [pairV, h]
theorem s58_eq {N : Nat} {t : Table} (L : Lens N t) (a b : Int) : s58 N t a b = some (pairV t a b) := by
  unfold s58
  simp only [s86_eq N L.o, bind_some']
  cases h : amid a 0 ((t.offices.length : Int) - 1) <;> simp [pairV, h]
theorem s57_eq {N : Nat} {t : Table} (L : Lens N t) (b : Bool) : s57 N t b = some (if V t then (if b then 0 else 31) else 30) := by
  unfold s57
  rw [s15_eq L, bind_some']
  cases V t <;> cases b <;> rfl
/-- IsRoute, by both. -/
def askV (t : Table) (b : Bool) : Int := if V t then (if b then 0 else 31) else 30
def isRouteV (t : Table) (l : List Leg) (a b : Int) : Bool × Int :=
  if V t && pairV t a b then ((isR t l && rF t l == a) && rT t l == b, 0) else (false, askV t (pairV t a b))
theorem s12_eq {N : Nat} {t : Table} (L : Lens N t) (l : List Leg) (a b : Int) : s12 N t l a b = some (isRouteV t l a b) := by
  unfold s12
  rw [s51_eq L (b := pairV t a b) (fun G => by unfold s52; rw [s53_eq L]; rfl), bind_some']
  unfold isRouteV askV
  cases hv : V t with
  | false => rfl
  | true =>
    cases hp : pairV t a b with
    | false => rfl
    | true =>
      have G := good_of hv
      have e : (!((0 : Int) == 0)) = false := rfl
      simp only [if_true, Bool.and_self, e, Bool.false_eq_true, if_false, s54_eq L G, bind_some']
      cases hr : isR t l with
      | false => simp
      | true =>
        have hl : legsV t l = true := by simp only [isR, Bool.and_eq_true] at hr; exact hr.1
        simp only [if_true, s55_eq N hl, s56_eq N hl, bind_some', Bool.true_and]
        cases rF t l == a <;> simp
theorem s13_eq {N : Nat} {t : Table} (L : Lens N t) (l : List Leg) (a b : Int) : s13 N t l a b = some (isRouteV t l a b) := by
  unfold s13
  rw [s58_eq L, bind_some', s57_eq L, bind_some']
  unfold isRouteV askV
  cases hv : V t with
  | false => rfl
  | true =>
    cases hp : pairV t a b with
    | false => rfl
    | true =>
      have G := good_of hv
      have e : (!((0 : Int) == 0)) = false := rfl
      simp only [if_true, Bool.and_self, e, Bool.false_eq_true, if_false, s59_eq L G, bind_some']
      cases hl : legsV t l with
      | false => simp [isR, hl]
      | true => simp [isR, hl]
end Go.Abs.Tr
