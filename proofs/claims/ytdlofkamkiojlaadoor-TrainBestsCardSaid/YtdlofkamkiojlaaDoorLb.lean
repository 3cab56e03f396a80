/- Plain law: routes. Conditions: none. -/
import Derived.Test.YtdlofkamkiojlaaDoorLa
import Derived.Test.YtdlofkamkiojlaaDoorOq
namespace Go.Abs.Tr
open Go Go.Abs
set_option linter.unusedSimpArgs false

/-- What a right timetable is. -/
structure GoodTrain (n : Nat) (x : Train) : Prop where
  n2 : 2 ≤ x.stops.length
  n5 : x.stops.length ≤ 5
  l0 : 0 ≤ x.late.low
  l1 : x.late.low ≤ x.late.high
  l2 : x.late.high ≤ 90
  st : ∀ y ∈ x.stops, 0 ≤ y.station ∧ y.station < n ∧ 0 ≤ y.arrive ∧ y.arrive ≤ y.leave ∧ y.leave ≤ 2879
structure Good (t : Table) : Prop where
  o1 : 1 ≤ t.offices.length
  o6 : t.offices.length ≤ 6
  t6 : t.trains.length ≤ 6
  a0 : 0 ≤ t.load
  a1 : t.load ≤ 60
  os : ∀ l ∈ t.offices, l.length ≤ 3 ∧ officeV 0 l = true
  ts : ∀ x ∈ t.trains, GoodTrain t.offices.length x
theorem amid_iff {n a b : Int} : amid n a b = true ↔ a ≤ n ∧ n ≤ b := by simp [amid]
theorem legal_iff {s : Span} {a b : Int} : legal s a b = true ↔ (a ≤ s.low ∧ s.low ≤ s.high) ∧ s.high ≤ b := by simp [legal]
theorem stopsV_good {n : Nat} : ∀ (l : List Stop) (f : Int), 0 ≤ f → stopsV n f l = true → ∀ y ∈ l, 0 ≤ y.station ∧ y.station < n ∧ 0 ≤ y.arrive ∧ y.arrive ≤ y.leave ∧ y.leave ≤ 2879 := by
  intro l
  induction l with
  | nil => intro f _ _ y hy; cases hy
  | cons x l ih =>
    intro f hf h y hy
    simp only [stopsV, Bool.and_eq_true, amid_iff] at h
    rcases List.mem_cons.1 hy with rfl | hy
    · omega
    · exact ih _ (by omega) h.2 y hy
theorem good_of {t : Table} (h : V t = true) : Good t := by
  simp only [V, Bool.and_eq_true, List.all_eq_true, amid_iff, decide_eq_true_eq] at h
  obtain ⟨⟨⟨⟨⟨h1, h2⟩, h3⟩, h4⟩, h5⟩, h6⟩ := h
  refine ⟨by omega, by omega, by omega, by omega, by omega, fun l hl => ⟨by have := (h5 l hl).1; omega, (h5 l hl).2⟩, fun x hx => ?_⟩
  have := h6 x hx
  simp only [trainV, Bool.and_eq_true, amid_iff, legal_iff] at this
  obtain ⟨⟨k1, k2⟩, k3⟩ := this
  exact ⟨by omega, by omega, by omega, by omega, by omega, stopsV_good _ _ (Int.le_refl _) k3⟩

/-! ## Legs -/
def tr (t : Table) (x : Leg) : Train := (t.trains[x.train.toNat]?).getD default
def sf (t : Table) (x : Leg) : Stop := ((tr t x).stops[x.frm.toNat]?).getD default
def sg (t : Table) (x : Leg) : Stop := ((tr t x).stops[x.to.toNat]?).getD default
structure LegV (t : Table) (x : Leg) : Prop where
  t0 : 0 ≤ x.train
  t1 : x.train < t.trains.length
  f0 : 0 ≤ x.frm
  f1 : x.frm < x.to
  f2 : x.to < (tr t x).stops.length
instance (t : Table) (x : Leg) : Decidable (LegV t x) :=
  decidable_of_iff (0 ≤ x.train ∧ x.train < t.trains.length ∧ 0 ≤ x.frm ∧ x.frm < x.to ∧ x.to < (tr t x).stops.length) ⟨fun ⟨a, b, c, d, e⟩ => ⟨a, b, c, d, e⟩, fun ⟨a, b, c, d, e⟩ => ⟨a, b, c, d, e⟩⟩
theorem ix_in {α : Type} [Inhabited α] {l : List α} {i : Int} (h0 : 0 ≤ i) (h1 : i < l.length) : ix l i = some ((l[i.toNat]?).getD default) ∧ (l[i.toNat]?).getD default ∈ l := by
  obtain ⟨n, rfl⟩ : ∃ n : Nat, i = n := ⟨i.toNat, by omega⟩
  have hn : n < l.length := by omega
  rw [ix_ok hn]
  simp [hn]
section leg
variable {t : Table} {x : Leg} (h : LegV t x)
include h
theorem LegV.ixt : ix t.trains x.train = some (tr t x) := (ix_in h.t0 h.t1).1
theorem LegV.mt : tr t x ∈ t.trains := (ix_in h.t0 h.t1).2
theorem LegV.ixf : ix (tr t x).stops x.frm = some (sf t x) := (ix_in h.f0 (by have := h.f1; have := h.f2; omega)).1
theorem LegV.mf : sf t x ∈ (tr t x).stops := (ix_in h.f0 (by have := h.f1; have := h.f2; omega)).2
theorem LegV.ixg : ix (tr t x).stops x.to = some (sg t x) := (ix_in (by have := h.f0; have := h.f1; omega) h.f2).1
theorem LegV.mg : sg t x ∈ (tr t x).stops := (ix_in (by have := h.f0; have := h.f1; omega) h.f2).2
variable (N : Nat)
theorem LegV.s72 : s72 N t x = some (sf t x) := by unfold Go.Abs.Tr.s72; rw [h.ixt, bind_some', h.ixf]; rfl
theorem LegV.s74 : s74 N t x = some (sg t x) := by unfold Go.Abs.Tr.s74; rw [h.ixt, bind_some', h.ixg]; rfl
theorem LegV.s73 : s73 N t x = some (tr t x).late := by unfold Go.Abs.Tr.s73; rw [h.ixt]; rfl
theorem LegV.s83 : s83 N (calcOf t) x = some (sf t x) := by unfold Go.Abs.Tr.s83; show (ix t.trains x.train).bind _ = _; rw [h.ixt, bind_some', h.ixf]; rfl
theorem LegV.s92 : s92 N (calcOf t) x = some (sg t x) := by unfold Go.Abs.Tr.s92; show (ix t.trains x.train).bind _ = _; rw [h.ixt, bind_some', h.ixg]; rfl
theorem LegV.s127 : s127 N (calcOf t) x.train = some (tr t x).late.low := by unfold Go.Abs.Tr.s127; show (ix t.trains x.train).bind _ = _; rw [h.ixt]; rfl
theorem LegV.s125 : s125 N (calcOf t) x.train = some (tr t x).late.high := by unfold Go.Abs.Tr.s125; show (ix t.trains x.train).bind _ = _; rw [h.ixt]; rfl
end leg

/-! ## Routes -/
def linkV (t : Table) (pre : List Leg) (x : Leg) : Bool := match pre.getLast? with
  | none => true
  | some y => (sg t y).station == (sf t x).station
def chainV (t : Table) : List Leg → List Leg → Bool
  | _, [] => true
  | pre, x :: l => ((decide (LegV t x) && !(pre.any fun y => y.train == x.train)) && linkV t pre x) && chainV t (pre ++ [x]) l
def rF (t : Table) (l : List Leg) : Int := (sf t (l.head?.getD default)).station
def rT (t : Table) (l : List Leg) : Int := (sg t (l.getLast?.getD default)).station
/-- Legs that hang together. -/
def legsV (t : Table) (l : List Leg) : Bool := amid l.length 1 4 && chainV t [] l
def isR (t : Table) (l : List Leg) : Bool := legsV t l && !(rF t l == rT t l)
theorem chainV_legs {t : Table} : ∀ (l pre : List Leg), chainV t pre l = true → ∀ x ∈ l, LegV t x := by
  intro l
  induction l with
  | nil => intro pre _ x hx; cases hx
  | cons y l ih =>
    intro pre h x hx
    simp only [chainV, Bool.and_eq_true, decide_eq_true_eq] at h
    rcases List.mem_cons.1 hx with rfl | hx
    · exact h.1.1.1
    · exact ih _ h.2 x hx
theorem legsV_legs {t : Table} {l : List Leg} (h : legsV t l = true) : (1 ≤ l.length ∧ l.length ≤ 4) ∧ ∀ x ∈ l, LegV t x := by
  simp only [legsV, Bool.and_eq_true, amid_iff] at h
  exact ⟨⟨by omega, by omega⟩, chainV_legs _ _ h.2⟩

theorem ix_left {α : Type} {pre l : List α} {i : Nat} {a : α} (h : ix pre (i : Int) = some a) : ix (pre ++ l) (i : Int) = some a := by
  obtain ⟨h0, h1⟩ := ix_some h
  unfold ix
  rw [if_pos h0, List.getElem?_append_left (by
    rcases Nat.lt_or_ge (i : Int).toNat pre.length with h | h
    · exact h
    · rw [List.getElem?_eq_none h] at h1; cases h1)]
  exact h1
theorem ix_last {α : Type} {pre l : List α} {y : α} (h : pre.getLast? = some y) : ix (pre ++ l) ((pre.length : Int) - 1) = some y := by
  have hp : 0 < pre.length := by
    cases pre with
    | nil => cases h
    | cons a l => simp
  have e : ((pre.length : Int) - 1) = ((pre.length - 1 : Nat) : Int) := by omega
  rw [e]
  apply ix_left
  rw [List.getLast?_eq_getElem?] at h
  unfold ix
  rw [if_pos (by omega)]
  simpa using h

/-- The specification's test of a list of legs. -/
theorem s59_eq {N : Nat} {t : Table} (L : Lens N t) (G : Good t) (route : List Leg) : s59 N t route = some (if legsV t route then (rF t route, rT t route, !(rF t route == rT t route)) else (0, 0, false)) := by
  unfold s59
  rw [s47_eq, bind_some']
  cases ha : amid route.length 1 4 with
  | false => simp [legsV, ha]
  | true =>
    have hl := amid_iff.1 ha
    simp only [Bool.not_true, Bool.false_eq_true, if_false]
    have hN := L.n4
    have main := iter_list (f := s59_l41 N t route) (S := List Leg) (fun _ i => i) route (by unfold big; omega) (fun pre l => pre ++ l = route ∧ ∀ x ∈ pre, LegV t x)
      (fun pre l => cond (chainV t pre l) (Sum.inl ()) (Sum.inr ((0 : Int), (0 : Int), false)))
      (fun s _ => by
        unfold s59_l41
        have : decide (((route.length : Nat) : Int) < (route.length : Int)) = false := by simp
        simp only [this, chainV]
        rfl)
      (fun i x l pre hd hi hlt hck hI => by
        obtain ⟨hI, hp⟩ := hI
        have hpi : pre.length = i := by
          have h1 := congrArg List.length hd
          have h2 := congrArg List.length hI
          simp at h1 h2; omega
        have inner := iter_list (f := s59_l29 N route (i : Int) x) (S := Unit) (fun _ k => k) pre (by unfold big; omega) (fun _ _ => True)
          (fun _ r => cond (r.any fun y => y.train == x.train) (Sum.inr ((0 : Int), (0 : Int), false)) (Sum.inl ()))
          (fun s _ => by
            unfold s59_l29
            have : decide (((pre.length : Nat) : Int) < (i : Int)) = false := by simp [hpi]
            simp only [this]
            rfl)
          (fun k y r s hd2 hi2 hlt2 hck2 _ => by
            have hy : ix route (k : Int) = some y := by rw [← hI]; exact ix_left hi2
            have hlt3 : decide ((k : Int) < (i : Int)) = true := by rw [← hpi]; exact decide_eq_true hlt2
            unfold s59_l29
            simp only [hlt3, if_true, hy, bind_some', hck2, List.any_cons]
            by_cases hq : (y.train == x.train) = true
            · right; simp only [hq, if_true, Bool.true_or, cond_true]
            · have hq' := Bool.eq_false_iff.2 hq
              left; exact ⟨(), by simp only [hq', Bool.false_eq_true, if_false], trivial, by simp only [hq', Bool.false_or]⟩)
          N (by omega) () trivial
        unfold s59_l41
        simp only [hlt, decide_true, if_true, hi, bind_some', hck, ck_len L.tr, s47_eq]
        by_cases hv : LegV t x
        · have a1 : amid x.train 0 ((t.trains.length : Int) - 1) = true := amid_iff.2 ⟨hv.t0, by have := hv.t1; omega⟩
          have a2 : amid x.to 1 (((tr t x).stops.length : Int) - 1) = true := amid_iff.2 ⟨by have := hv.f0; have := hv.f1; omega, by have := hv.f2; omega⟩
          have a3 : amid x.frm 0 (x.to - 1) = true := amid_iff.2 ⟨hv.f0, by have := hv.f1; omega⟩
          have gt := G.ts _ hv.mt
          have b2 : x.to < 5 := by have := hv.f2; have := gt.n5; omega
          have b1 : 0 < x.to := by have := hv.f0; have := hv.f1; omega
          simp only [a1, Bool.not_true, Bool.false_eq_true, if_false, hv.ixt, bind_some', ck_len (L.ts _ hv.mt), a2, ck_ok (n := x.to - 1) (by omega), a3]
          have inner' : iter (s59_l29 N route (i : Int) x) N 0 = _ := inner
          rw [inner']
          cases hany : pre.any (fun y => y.train == x.train) with
          | true =>
            right
            simp [chainV, hv, hany]
          | false =>
            have link : (if decide ((i : Int) > 0) = true then (ck ((i : Int) - 1)).bind fun v33 => (ix route v33).bind fun v34 => (s74 N t v34).bind fun v35 => (Go.Abs.Tr.s72 N t x).bind fun v36 => some (!(v35.station == v36.station)) else some false) = some (!linkV t pre x) := by
              unfold linkV
              cases hg : pre.getLast? with
              | none =>
                have : pre = [] := List.getLast?_eq_none_iff.1 hg
                subst this
                have : i = 0 := by simpa using hpi.symm
                subst this
                rfl
              | some y =>
                have hpos : 0 < pre.length := by
                  cases pre with
                  | nil => cases hg
                  | cons a l => simp
                have hy := hp y (List.mem_of_getLast? hg)
                have hix : ix route ((i : Int) - 1) = some y := by rw [← hI, ← hpi]; exact ix_last hg
                have hgt : decide ((i : Int) > 0) = true := decide_eq_true (by omega)
                rw [hgt, if_pos rfl, ck_ok (by omega), bind_some', hix, bind_some', hy.s74, bind_some', hv.s72, bind_some']
            simp only [Bool.false_eq_true, if_false, bind_some']
            rw [link, bind_some']
            cases hlk : linkV t pre x with
            | false =>
              right
              simp [chainV, hv, hany, hlk]
            | true =>
              left
              refine ⟨pre ++ [x], by simp, ⟨by rw [List.append_assoc]; exact hI, fun z hz => ?_⟩, ?_⟩
              · rcases List.mem_append.1 hz with hz | hz
                · exact hp z hz
                · simp at hz; subst hz; exact hv
              · simp [chainV, hv, hany, hlk]
        · right
          have e0 : chainV t pre (x :: l) = false := by simp [chainV, hv]
          rw [e0]
          by_cases c1 : amid x.train 0 ((t.trains.length : Int) - 1) = true
          · have c1' := amid_iff.1 c1
            have hixt : ix t.trains x.train = some (tr t x) := (ix_in c1'.1 (by omega)).1
            have hmt : tr t x ∈ t.trains := (ix_in c1'.1 (by omega)).2
            have gt := G.ts _ hmt
            simp only [c1, Bool.not_true, Bool.false_eq_true, if_false, hixt, bind_some', ck_len (L.ts _ hmt)]
            by_cases c2 : amid x.to 1 (((tr t x).stops.length : Int) - 1) = true
            · have c2' := amid_iff.1 c2
              have c3 : amid x.frm 0 (x.to - 1) = false := by
                rw [Bool.eq_false_iff]
                intro c3
                have c3' := amid_iff.1 c3
                exact hv ⟨c1'.1, by omega, c3'.1, by omega, by omega⟩
              have b2 := gt.n5
              simp only [c2, Bool.not_true, Bool.false_eq_true, if_false, ck_ok (n := x.to - 1) (by omega), bind_some', c3, Bool.not_false, if_true, cond_false]
            · simp [Bool.eq_false_iff.2 c2]
          · simp [Bool.eq_false_iff.2 c1])
      N (by omega) [] ⟨rfl, fun _ h => by cases h⟩
    have main' : iter (s59_l41 N t route) N 0 = _ := main
    rw [main', bind_some']
    simp only [legsV, ha, Bool.true_and]
    cases hc : chainV t [] route with
    | false => rfl
    | true =>
      have hlegs := chainV_legs _ _ hc
      cases hr : route with
      | nil => rw [hr] at hl; simp at hl
      | cons x l =>
        have hx : LegV t x := hlegs x (by rw [hr]; exact List.mem_cons_self)
        obtain ⟨y, hy⟩ : ∃ y, (x :: l).getLast? = some y := ⟨_, List.getLast?_eq_some_getLast (by simp)⟩
        have hyv : LegV t y := hlegs y (by rw [hr]; exact List.mem_of_getLast? hy)
        have i0 : ix (x :: l) 0 = some x := rfl
        have i1 : ix (x :: l) (((x :: l).length : Int) - 1) = some y := by
          have := ix_last (l := []) hy
          rwa [List.append_nil] at this
        rw [hr] at hl
        simp only [if_true, i0, bind_some', hx.s72, ck_ok (n := ((x :: l).length : Int) - 1) (by omega), i1, hyv.s74, rF, rT, hy, List.head?_cons, Option.getD_some, cond_true]
end Go.Abs.Tr
