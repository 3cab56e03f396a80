/- Plain law: all routes in their order, by the program. Plain law: all routes in their order, by the specification. Plain law: all routes in their order, by the specification: the lists. Plain law: all routes in their order, by the specification: they are the program's. Conditions: none. -/
import Derived.Test.YtdlofkamkiojlaaDoorXLf
import Derived.Test.YtdlofkamkiojlaaDoorXGf
import Derived.Test.YtdlofkamkiojlaaDoorXGk
namespace Go.Abs.Tr
open Go Go.Abs
set_option linter.unusedSimpArgs false

/-! ## The legs of a timetable -/
theorem lk_at (m : List (Int × List Leg)) (q : Int) : lk m q = legsAt m q := by
  unfold lk
  induction m with
  | nil => rfl
  | cons p m ih =>
    obtain ⟨a, l⟩ := p
    rw [List.find?_cons]
    unfold legsAt
    by_cases h : q = a
    · subst h; simp
    · have : (q == a) = false := by simpa using h
      simp only [this, if_neg h]
      exact ih
theorem lk_calc (t : Table) (q : Int) : lk (calcOf t).m q = ((allLegs t).filter fun p => decide (p.1 = q)).map (·.2) := by
  rw [lk_at]
  have := legsMap_at (allLegs t) [] q
  simpa [legsAt, calcOf, legsMap] using this
theorem flat_len {α β : Type} (f : α → List β) (B : Nat) : ∀ l : List α, (∀ a ∈ l, (f a).length ≤ B) → ((l.map f).flatten).length ≤ l.length * B := by
  intro l
  induction l with
  | nil => intro _; simp
  | cons a l ih =>
    intro h
    have h1 := h a List.mem_cons_self
    have h2 := ih fun b hb => h b (List.mem_cons_of_mem _ hb)
    simp only [List.map_cons, List.flatten_cons, List.length_append, List.length_cons, Nat.succ_mul]
    omega
theorem allLegs_len {t : Table} (G : Good t) : (allLegs t).length ≤ 150 := by
  have h1 : (allLegs t).length ≤ t.trains.zipIdx.length * 25 := by
    refine flat_len _ 25 _ fun p hp => ?_
    have hx : p.1 ∈ t.trains := by
      have := List.mem_map_of_mem (f := Prod.fst) hp
      simpa using this
    have n5 := (G.ts _ hx).n5
    have h2 : (trainLegs p.2 p.1).length ≤ p.1.stops.zipIdx.length * 5 := by
      refine flat_len _ 5 _ fun q hq => ?_
      simp only [stopLegs, List.length_map, List.length_range']
      omega
    simp only [List.length_zipIdx] at h2
    omega
  simp only [List.length_zipIdx] at h1
  have := G.t6
  omega
theorem allLegs_ok {t : Table} {p : Int × Leg} (h : p ∈ allLegs t) : LegV t p.2 ∧ (sf t p.2).station = p.1 := by
  simp only [allLegs, List.mem_flatten, List.mem_map] at h
  obtain ⟨l, ⟨⟨x, k⟩, hx, rfl⟩, h⟩ := h
  simp only [trainLegs, List.mem_flatten, List.mem_map] at h
  obtain ⟨l, ⟨⟨y, i⟩, hy, rfl⟩, h⟩ := h
  simp only [stopLegs, List.mem_map, List.mem_range'_1] at h
  obtain ⟨x', ⟨j, hj, rfl⟩, rfl⟩ := h
  have hxk := List.mem_zipIdx_iff_getElem?.1 hx
  have hyi := List.mem_zipIdx_iff_getElem?.1 hy
  have hk : k < t.trains.length := by
    rcases Nat.lt_or_ge k t.trains.length with h | h
    · exact h
    · rw [List.getElem?_eq_none h] at hxk; cases hxk
  have etr : tr t ⟨(k : Int), (i : Int), (j : Int)⟩ = x := by simp [tr, hxk]
  refine ⟨⟨by show (0 : Int) ≤ k; omega, by show (k : Int) < _; omega, by show (0 : Int) ≤ i; omega, by show (i : Int) < j; omega, by rw [etr]; show (j : Int) < _; omega⟩, ?_⟩
  show (sf t ⟨(k : Int), (i : Int), (j : Int)⟩).station = y.station
  unfold sf
  rw [etr]
  simp [hyi]

/-! ## Lists of legs that hang together, from a station on -/
/-- Where a box is behind some legs. -/
def atE (t : Table) (frm : Int) (pre : List Leg) : Int := match pre.getLast? with
  | none => frm
  | some y => (sg t y).station
theorem atE_snoc (t : Table) (frm : Int) (pre : List Leg) (x : Leg) : atE t frm (pre ++ [x]) = (sg t x).station := by simp [atE]
def freeL (pre : List Leg) (x : Leg) : Bool := !(pre.any fun y => y.train == x.train)
/-- One leg more. -/
def step1 (t : Table) (frm : Int) (pre : List Leg) : List (List Leg) := ((lk (calcOf t).m (atE t frm pre)).filter (freeL pre)).map fun x => pre ++ [x]
def lev (t : Table) (frm : Int) : Nat → List Leg → List (List Leg)
  | 0, pre => [pre]
  | k + 1, pre => (step1 t frm pre).flatMap (lev t frm k)
/-- Legs that hang together from a station on. -/
structure Hang (t : Table) (frm : Int) (pre : List Leg) : Prop where
  chain : chainV t [] pre = true
  first : pre ≠ [] → rF t pre = frm
theorem chainV_snoc {t : Table} : ∀ (l pre : List Leg) (x : Leg), chainV t pre (l ++ [x]) = (chainV t pre l && ((decide (LegV t x) && !((pre ++ l).any fun y => y.train == x.train)) && linkV t (pre ++ l) x)) := by
  intro l
  induction l with
  | nil => intro pre x; simp [chainV]
  | cons y l ih =>
    intro pre x
    simp only [List.cons_append, chainV, ih, List.append_assoc, List.singleton_append, Bool.and_assoc, List.nil_append]
theorem mem_lk {t : Table} {q : Int} {x : Leg} (h : x ∈ lk (calcOf t).m q) : LegV t x ∧ (sf t x).station = q := by
  rw [lk_calc] at h
  obtain ⟨p, hp, rfl⟩ := List.mem_map.1 h
  obtain ⟨h1, h2⟩ := List.mem_filter.1 hp
  obtain ⟨h3, h4⟩ := allLegs_ok h1
  exact ⟨h3, h4.trans (of_decide_eq_true h2)⟩
theorem lk_len {t : Table} (G : Good t) (q : Int) : (lk (calcOf t).m q).length ≤ 150 := by
  rw [lk_calc, List.length_map]
  exact Nat.le_trans (List.length_filter_le _ _) (allLegs_len G)
theorem Hang.legs {t : Table} {frm : Int} {pre : List Leg} (h : Hang t frm pre) : ∀ x ∈ pre, LegV t x := chainV_legs _ _ h.chain
theorem Hang.snoc {t : Table} {frm : Int} {pre : List Leg} (h : Hang t frm pre) {x : Leg} (hx : x ∈ lk (calcOf t).m (atE t frm pre)) (hf : freeL pre x = true) : Hang t frm (pre ++ [x]) := by
  obtain ⟨h1, h2⟩ := mem_lk hx
  have hf' : (!(pre.any fun y => y.train == x.train)) = true := hf
  constructor
  · rw [chainV_snoc, h.chain, List.nil_append, hf', decide_eq_true h1]
    simp only [Bool.true_and, linkV]
    unfold atE at h2
    cases hg : pre.getLast? with
    | none => rfl
    | some y => rw [hg] at h2; simp [h2]
  · intro _
    cases pre with
    | nil => simp only [rF, List.nil_append, List.head?_cons, Option.getD_some]; exact h2
    | cons y l => exact h.first (by simp)
theorem Hang.nil (t : Table) (frm : Int) : Hang t frm [] := ⟨rfl, fun h => absurd rfl h⟩
theorem lev_hang {t : Table} {frm : Int} : ∀ (k : Nat) (pre : List Leg), Hang t frm pre → ∀ r ∈ lev t frm k pre, Hang t frm r ∧ r.length = pre.length + k := by
  intro k
  induction k with
  | zero => intro pre h r hr; simp only [lev, List.mem_singleton] at hr; subst hr; exact ⟨h, rfl⟩
  | succ k ih =>
    intro pre h r hr
    simp only [lev, step1, List.mem_flatMap, List.mem_map, List.mem_filter] at hr
    obtain ⟨p, ⟨x, ⟨hx, hf⟩, rfl⟩, hr⟩ := hr
    obtain ⟨a, b⟩ := ih _ (h.snoc hx hf) r hr
    exact ⟨a, by rw [b]; simp; omega⟩
theorem Hang.to {t : Table} {frm : Int} {r : List Leg} (hr : r ≠ []) : rT t r = atE t frm r := by
  unfold rT atE
  cases h : r.getLast? with
  | none => exact absurd (List.getLast?_eq_none_iff.1 h) hr
  | some y => rfl
/-- It is a route, then. -/
theorem Hang.legsV {t : Table} {frm : Int} {r : List Leg} (h : Hang t frm r) (h1 : 1 ≤ r.length) (h4 : r.length ≤ 4) : legsV t r = true := by
  simp only [Go.Abs.Tr.legsV, h.chain, Bool.and_true]
  exact amid_iff.2 ⟨by omega, by omega⟩

theorem ap24 {α : Type} {xs : List α} {y : α} (h : xs.length ≤ 1000000) : ap 24 xs [y] = some (xs ++ [y]) := ap_ok (by simp only [List.length_cons, List.length_nil]; omega)
/-! ## The program's search -/
section search
variable {S : Type} {N : Nat} {t : Table} {frm to : Int} {Y : S → List Leg → Option (S × Bool)} {y : S → List Leg → S} {I : S → Prop}
theorem fold_inv (hI : ∀ s r, I s → Hang t frm r → 1 ≤ r.length → r.length ≤ 4 → atE t frm r = to → Y s r = some (y s r, true) ∧ I (y s r)) : ∀ (l : List (List Leg)) (s : S), I s →
    (∀ r ∈ l, Hang t frm r ∧ (1 ≤ r.length ∧ r.length ≤ 4) ∧ atE t frm r = to) → I (l.foldl y s) := by
  intro l
  induction l with
  | nil => intro s h _; exact h
  | cons r l ih =>
    intro s h hl
    obtain ⟨a, ⟨b, c⟩, d⟩ := hl r List.mem_cons_self
    exact ih _ (hI s r h a b c d).2 fun q hq => hl q (List.mem_cons_of_mem _ hq)
def ends' (t : Table) (frm to : Int) (r : List Leg) : Bool := atE t frm r == to
theorem onS_eq (L : Lens N t) (G : Good t) (hI : ∀ s r, I s → Hang t frm r → 1 ≤ r.length → r.length ≤ 4 → atE t frm r = to → Y s r = some (y s r, true) ∧ I (y s r)) (many : Nat) (h1 : 1 ≤ many) (h4 : many ≤ 4) :
    ∀ (k : Nat) (F : Nat) (pre : List Leg) (s : S), k < F → pre.length + k = many → Hang t frm pre → I s →
      onS N Y (calcOf t) to (many : Int) F s pre (metOf pre) (atE t frm pre) = some (((lev t frm k pre).filter (ends' t frm to)).foldl y s, true) ∧ I (((lev t frm k pre).filter (ends' t frm to)).foldl y s) := by
  have hN := L.n4
  intro k
  induction k with
  | zero =>
    intro F pre s hF hk hp hs
    obtain ⟨F, rfl⟩ : ∃ K, F = K + 1 := ⟨F - 1, by omega⟩
    unfold onS
    have e : ((pre.length : Int) == (many : Int)) = true := by simp; omega
    rw [e]
    simp only [if_true, lev]
    cases he : atE t frm pre == to with
    | false => simp [ends', he]; exact hs
    | true =>
      obtain ⟨a, b⟩ := hI s pre hs hp (by omega) (by omega) (by simpa using he)
      simp [ends', he, a]; exact b
  | succ k ih =>
    intro F pre s hF hk hp hs
    obtain ⟨F, rfl⟩ : ∃ K, F = K + 1 := ⟨F - 1, by omega⟩
    have hlen := lk_len G (atE t frm pre)
    have hp0 : ∀ z ∈ pre, 0 ≤ z.train := fun z hz => (hp.legs z hz).t0
    have e : ((pre.length : Int) == (many : Int)) = false := by simp; omega
    have main := iter_list (f := onLoop N (onS N Y (calcOf t) to (many : Int) F) (calcOf t) pre (metOf pre) (lk (calcOf t).m (atE t frm pre))) (S := S) (fun s i => (s, i)) (lk (calcOf t).m (atE t frm pre)) (by unfold big; omega)
      (fun s l => I s ∧ ∀ x ∈ l, x ∈ lk (calcOf t).m (atE t frm pre))
      (fun s l => (Sum.inl (((((l.filter (freeL pre)).map fun x => pre ++ [x]).flatMap (lev t frm k)).filter (ends' t frm to)).foldl y s) : S ⊕ S))
      (fun s _ => by
        unfold onLoop
        have : decide ((((lk (calcOf t).m (atE t frm pre)).length : Nat) : Int) < ((lk (calcOf t).m (atE t frm pre)).length : Int)) = false := by simp
        simp only [this]
        rfl)
      (fun i x l s hd hi hlt hck hIs => by
        obtain ⟨hs, hl⟩ := hIs
        have hx := hl x List.mem_cons_self
        obtain ⟨hv, _⟩ := mem_lk hx
        have h6 : x.train < 6 := by have := hv.t1; have := G.t6; omega
        left
        unfold onLoop
        simp only [hlt, decide_true, if_true, hi, bind_some', hck, inA6 hv.t0 h6, ix_met hp0 hv.t0 h6]
        cases hany : pre.any fun z => z.train == x.train with
        | true =>
          have hf : freeL pre x = false := by simp [freeL, hany]
          refine ⟨s, rfl, ⟨hs, fun z hz => hl z (List.mem_cons_of_mem _ hz)⟩, ?_⟩
          rw [List.filter_cons, hf]
          rfl
        | false =>
          have hf : freeL pre x = true := by simp [freeL, hany]
          have hn := hp.snoc hx hf
          obtain ⟨a, b⟩ := ih F (pre ++ [x]) s (by omega) (by simp; omega) hn hs
          rw [atE_snoc] at a
          refine ⟨((lev t frm k (pre ++ [x])).filter (ends' t frm to)).foldl y s, ?_, ⟨b, fun z hz => hl z (List.mem_cons_of_mem _ hz)⟩, ?_⟩
          · have hsz : pre.length ≤ 4 := by omega
            simp only [Bool.false_eq_true, if_false, lenC6 (metOf_len _), bind_some', set_met hv.t0 h6, sl_all, ap24 (xs := pre) (y := x) (by omega), hv.s92, a, Bool.not_true]
          · rw [List.filter_cons, hf]
            simp only [if_true, List.map_cons, List.flatMap_cons, List.filter_append, List.foldl_append])
      N (by omega) s ⟨hs, fun _ h => h⟩
    have main' : iter (onLoop N (onS N Y (calcOf t) to (many : Int) F) (calcOf t) pre (metOf pre) (lk (calcOf t).m (atE t frm pre))) N (s, 0) = _ := main
    refine ⟨?_, fold_inv hI _ s hs fun r hr => ?_⟩
    · unfold onS
      rw [e]
      simp only [Bool.false_eq_true, if_false]
      rw [main', bind_some']
      rfl
    · obtain ⟨a, b⟩ := List.mem_filter.1 hr
      obtain ⟨c, d⟩ := lev_hang _ _ hp r a
      exact ⟨c, ⟨by omega, by omega⟩, by simpa [ends'] using b⟩
/-- All routes between two stations, in their order. -/
def rts (t : Table) (frm to : Int) : List (List Leg) := (List.range 4).flatMap fun i => (lev t frm (i + 1) []).filter (ends' t frm to)
theorem itS_eq (L : Lens N t) (G : Good t) (hI : ∀ s r, I s → Hang t frm r → 1 ≤ r.length → r.length ≤ 4 → atE t frm r = to → Y s r = some (y s r, true) ∧ I (y s r)) (s : S) (hs : I s) :
    itS N Y (calcOf t) frm to s = some ((rts t frm to).foldl y s) := by
  have hN := L.n4
  have main := iter_list (f := itLoop N Y (calcOf t) frm to) (S := S) (fun s i => (s, i)) (List.range 4) (by simp [big]) (fun s _ => I s)
    (fun s l => (l.flatMap fun i => (lev t frm (i + 1) []).filter (ends' t frm to)).foldl y s)
    (fun s _ => rfl)
    (fun i x l s hd hi hlt hck hs => by
      have hi4 : i < 4 := by simp at hlt; omega
      have hx : x = i := by
        rw [ix_ok (by simpa using hi4)] at hi
        simp at hi; exact hi.symm
      subst hx
      obtain ⟨a, b⟩ := onS_eq L G hI (x + 1) (by omega) (by omega) (x + 1) N [] s (by omega) (by simp) (Hang.nil t frm) hs
      left
      refine ⟨((lev t frm (x + 1) []).filter (ends' t frm to)).foldl y s, ?_, b, ?_⟩
      · unfold itLoop
        have a' : onS N Y (calcOf t) to ((x : Int) + 1) N s [] (List.replicate 6 false) frm = _ := a
        simp only [decide_eq_true (show (x : Int) < 4 by omega), if_true, s93_eq, bind_some', hck, a', Bool.not_true, Bool.false_eq_true, if_false]
      · simp only [List.flatMap_cons, List.foldl_append])
    N (by simp; omega) s hs
  unfold itS rts
  exact main
end search
end Go.Abs.Tr

namespace Go.Abs.Tr
open Go Go.Abs
set_option linter.unusedSimpArgs false

theorem apB {α : Type} {xs ys : List α} (h : xs.length + ys.length ≤ 1000000000000) : ap 24 xs ys = some (xs ++ ys) := ap_ok (by omega)

/-! ## All legs -/
/-! ## Which trains are used: a set as a number -/
theorem bits_ok : ∀ u : Fin 64, ∀ i : Fin 6, (shlC 1 ((i.val : Nat) : Int)).bind (fun v => some (orC ((u.val : Nat) : Int) v)) = some (((u.val ||| 2 ^ i.val : Nat) : Int)) ∧
    ∀ j : Fin 6, s87 0 ((u.val ||| 2 ^ i.val : Nat) : Int) ((j.val : Nat) : Int) = (s87 0 ((u.val : Nat) : Int) ((j.val : Nat) : Int)).map fun b => b || (i.val == j.val) := by decide +kernel
end Go.Abs.Tr

namespace Go.Abs.Tr
open Go Go.Abs
set_option linter.unusedSimpArgs false

def useFold (l : List Leg) (u : Nat) : Nat := l.foldl (fun u x => u ||| 2 ^ x.train.toNat) u
def usedOf (pre : List Leg) : Nat := useFold pre 0
theorem use_ok : ∀ (l : List Leg) (u : Nat), (∀ x ∈ l, 0 ≤ x.train ∧ x.train < 6) → u < 64 → useFold l u < 64 ∧ ∀ j : Nat, j < 6 → s87 0 (useFold l u : Int) (j : Int) = (s87 0 (u : Int) (j : Int)).map fun b => b || l.any fun y => y.train == (j : Int) := by
  intro l
  induction l with
  | nil => intro u _ hu; exact ⟨hu, fun j hj => by cases h : s87 0 (u : Int) (j : Int) <;> simp [useFold, h]⟩
  | cons x l ih =>
    intro u hl hu
    obtain ⟨x0, x6⟩ := hl x List.mem_cons_self
    have hi : x.train.toNat < 6 := by omega
    obtain ⟨_, hb⟩ := bits_ok ⟨u, hu⟩ ⟨x.train.toNat, hi⟩
    have hu' : u ||| 2 ^ x.train.toNat < 64 := by
      have h2 : 2 ^ x.train.toNat < 2 ^ 6 := Nat.pow_lt_pow_right (by omega) hi
      exact Nat.or_lt_two_pow (n := 6) (by omega) h2
    obtain ⟨a, b⟩ := ih (u ||| 2 ^ x.train.toNat) (fun y hy => hl y (List.mem_cons_of_mem _ hy)) hu'
    refine ⟨a, fun j hj => ?_⟩
    have e1 := b j hj
    have e2 := hb ⟨j, hj⟩
    have e3 : useFold (x :: l) u = useFold l (u ||| 2 ^ x.train.toNat) := rfl
    rw [e3, e1]
    have e2' : s87 0 ((u ||| 2 ^ x.train.toNat : Nat) : Int) (j : Int) = (s87 0 (u : Int) (j : Int)).map fun b => b || (x.train.toNat == j) := e2
    rw [e2', Option.map_map]
    congr 1
    funext b
    show ((b || (x.train.toNat == j)) || l.any fun y => y.train == (j : Int)) = (b || (x :: l).any fun y => y.train == (j : Int))
    rw [List.any_cons, Bool.or_assoc]
    have e5 : (x.train.toNat == j) = (x.train == (j : Int)) := by
      rw [Bool.eq_iff_iff, beq_iff_eq, beq_iff_eq]
      omega
    rw [e5]
theorem used_any {pre : List Leg} (hl : ∀ x ∈ pre, 0 ≤ x.train ∧ x.train < 6) (N : Nat) {j : Int} (h0 : 0 ≤ j) (h6 : j < 6) : s87 N (usedOf pre : Int) j = some (pre.any fun y => y.train == j) := by
  obtain ⟨n, rfl⟩ : ∃ n : Nat, j = n := ⟨j.toNat, by omega⟩
  obtain ⟨_, h⟩ := use_ok pre 0 hl (by omega)
  have := h n (by omega)
  have e : s87 0 ((0 : Nat) : Int) (n : Int) = some false := by
    have : ∀ k : Fin 6, s87 0 ((0 : Nat) : Int) ((k.val : Nat) : Int) = some false := by decide +kernel
    exact this ⟨n, by omega⟩
  rw [e] at this
  show s87 0 (useFold pre 0 : Int) (n : Int) = _
  simpa using this
theorem shl_or {u : Nat} (hu : u < 64) {x : Int} (h0 : 0 ≤ x) (h6 : x < 6) : ∃ v, shlC 1 x = some v ∧ orC (u : Int) v = ((u ||| 2 ^ x.toNat : Nat) : Int) := by
  obtain ⟨n, rfl⟩ : ∃ n : Nat, x = n := ⟨x.toNat, by omega⟩
  obtain ⟨h, _⟩ := bits_ok ⟨u, hu⟩ ⟨n, by omega⟩
  obtain ⟨v, hv, h⟩ := Option.bind_eq_some_iff.1 h
  exact ⟨v, hv, Option.some.inj h⟩

end Go.Abs.Tr

namespace Go.Abs.Tr
open Go Go.Abs
set_option linter.unusedSimpArgs false

def allR (t : Table) (frm : Int) : List (List Leg) := (List.range 4).flatMap fun i => lev t frm (i + 1) []
theorem allR_ok {t : Table} {frm : Int} {r : List Leg} (h : r ∈ allR t frm) : Hang t frm r ∧ 1 ≤ r.length ∧ r.length ≤ 4 := by
  simp only [allR, List.mem_flatMap, List.mem_range] at h
  obtain ⟨i, hi, hr⟩ := h
  obtain ⟨a, b⟩ := lev_hang (i + 1) [] (Hang.nil t frm) r hr
  simp at b
  exact ⟨a, by omega, by omega⟩
theorem rts_eq (t : Table) (frm to : Int) : (allR t frm).filter (ends' t frm to) = rts t frm to := by
  unfold allR rts
  rw [List.filter_flatMap]
theorem rts_ok {t : Table} {frm to : Int} {r : List Leg} (h : r ∈ rts t frm to) : Hang t frm r ∧ (1 ≤ r.length ∧ r.length ≤ 4) ∧ atE t frm r = to := by
  rw [← rts_eq] at h
  obtain ⟨a, b⟩ := List.mem_filter.1 h
  obtain ⟨c, d⟩ := allR_ok a
  exact ⟨c, d, by simpa [ends'] using b⟩
end Go.Abs.Tr
