/- Plain law: all routes in their order, by the program. Plain law: all routes in their order, by the specification. Plain law: all routes in their order, by the specification: the lists. Plain law: all routes in their order, by the specification: they are the program's. Conditions: none. -/
import Derived.Test.YtdlofkamkiojlaaDoorLf
import Derived.Test.YtdlofkamkiojlaaDoorGf
import Derived.Test.YtdlofkamkiojlaaDoorGk
namespace Go.Abs.Tr
open Go Go.Abs
set_option linter.unusedSimpArgs false

/-! ## The legs of a timetable -/
theorem lk_at (m : List (Int × List Leg)) (q : Int) : lk m q = legsAt m q := by
  unfold lk
  induction m with
  | nil => rfl
  | cons p m ih =>
    obtain ⟨a, l⟩ := p
    rw [List.find?_cons]
    unfold legsAt
    by_cases h : q = a
    · subst h; simp
    · have : (q == a) = false := by simpa using h
      simp only [this, if_neg h]
      exact ih
theorem lk_calc (t : Table) (q : Int) : lk (calcOf t).m q = ((allLegs t).filter fun p => decide (p.1 = q)).map (·.2) := by
  rw [lk_at]
  have := legsMap_at (allLegs t) [] q
  simpa [legsAt, calcOf, legsMap] using this
theorem flat_len {α β : Type} (f : α → List β) (B : Nat) : ∀ l : List α, (∀ a ∈ l, (f a).length ≤ B) → ((l.map f).flatten).length ≤ l.length * B := by
  intro l
  induction l with
  | nil => intro _; simp
  | cons a l ih =>
    intro h
    have h1 := h a List.mem_cons_self
    have h2 := ih fun b hb => h b (List.mem_cons_of_mem _ hb)
    simp only [List.map_cons, List.flatten_cons, List.length_append, List.length_cons, Nat.succ_mul]
    omega
theorem allLegs_len {t : Table} (G : Good t) : (allLegs t).length ≤ 150 := by
  have h1 : (allLegs t).length ≤ t.trains.zipIdx.length * 25 := by
    refine flat_len _ 25 _ fun p hp => ?_
    have hx : p.1 ∈ t.trains := by
      have := List.mem_map_of_mem (f := Prod.fst) hp
      simpa using this
    have n5 := (G.ts _ hx).n5
    have h2 : (trainLegs p.2 p.1).length ≤ p.1.stops.zipIdx.length * 5 := by
      refine flat_len _ 5 _ fun q hq => ?_
      simp only [stopLegs, List.length_map, List.length_range']
      omega
    simp only [List.length_zipIdx] at h2
    omega
  simp only [List.length_zipIdx] at h1
  have := G.t6
  omega
theorem allLegs_ok {t : Table} {p : Int × Leg} (h : p ∈ allLegs t) : LegV t p.2 ∧ (sf t p.2).station = p.1 := by
  simp only [allLegs, List.mem_flatten, List.mem_map] at h
  obtain ⟨l, ⟨⟨x, k⟩, hx, rfl⟩, h⟩ := h
  simp only [trainLegs, List.mem_flatten, List.mem_map] at h
  obtain ⟨l, ⟨⟨y, i⟩, hy, rfl⟩, h⟩ := h
  simp only [stopLegs, List.mem_map, List.mem_range'_1] at h
  obtain ⟨x', ⟨j, hj, rfl⟩, rfl⟩ := h
  have hxk := List.mem_zipIdx_iff_getElem?.1 hx
  have hyi := List.mem_zipIdx_iff_getElem?.1 hy
  have hk : k < t.trains.length := by
    rcases Nat.lt_or_ge k t.trains.length with h | h
    · exact h
    · rw [List.getElem?_eq_none h] at hxk; cases hxk
  have etr : tr t ⟨(k : Int), (i : Int), (j : Int)⟩ = x := by simp [tr, hxk]
  refine ⟨⟨by show (0 : Int) ≤ k; omega, by show (k : Int) < _; omega, by show (0 : Int) ≤ i; omega, by show (i : Int) < j; omega, by rw [etr]; show (j : Int) < _; omega⟩, ?_⟩
  show (sf t ⟨(k : Int), (i : Int), (j : Int)⟩).station = y.station
  unfold sf
  rw [etr]
  simp [hyi]

/-! ## Lists of legs that hang together, from a station on -/
/-- Where a box is behind some legs. -/
def atE (t : Table) (frm : Int) (pre : List Leg) : Int := match pre.getLast? with
  | none => frm
  | some y => (sg t y).station
theorem atE_snoc (t : Table) (frm : Int) (pre : List Leg) (x : Leg) : atE t frm (pre ++ [x]) = (sg t x).station := by simp [atE]
def freeL (pre : List Leg) (x : Leg) : Bool := !(pre.any fun y => y.train == x.train)
/-- One leg more. -/
def step1 (t : Table) (frm : Int) (pre : List Leg) : List (List Leg) := ((lk (calcOf t).m (atE t frm pre)).filter (freeL pre)).map fun x => pre ++ [x]
def lev (t : Table) (frm : Int) : Nat → List Leg → List (List Leg)
  | 0, pre => [pre]
  | k + 1, pre => (step1 t frm pre).flatMap (lev t frm k)
/-- Legs that hang together from a station on. -/
structure Hang (t : Table) (frm : Int) (pre : List Leg) : Prop where
  chain : chainV t [] pre = true
  first : pre ≠ [] → rF t pre = frm
theorem chainV_snoc {t : Table} : ∀ (l pre : List Leg) (x : Leg), chainV t pre (l ++ [x]) = (chainV t pre l && ((decide (LegV t x) && !((pre ++ l).any fun y => y.train == x.train)) && linkV t (pre ++ l) x)) := by
  intro l
  induction l with
  | nil => intro pre x; simp [chainV]
  | cons y l ih =>
    intro pre x
    simp only [List.cons_append, chainV, ih, List.append_assoc, List.singleton_append, Bool.and_assoc, List.nil_append]
theorem mem_lk {t : Table} {q : Int} {x : Leg} (h : x ∈ lk (calcOf t).m q) : LegV t x ∧ (sf t x).station = q := by
  rw [lk_calc] at h
  obtain ⟨p, hp, rfl⟩ := List.mem_map.1 h
  obtain ⟨h1, h2⟩ := List.mem_filter.1 hp
  obtain ⟨h3, h4⟩ := allLegs_ok h1
  exact ⟨h3, h4.trans (of_decide_eq_true h2)⟩
theorem lk_len {t : Table} (G : Good t) (q : Int) : (lk (calcOf t).m q).length ≤ 150 := by
  rw [lk_calc, List.length_map]
  exact Nat.le_trans (List.length_filter_le _ _) (allLegs_len G)
theorem Hang.legs {t : Table} {frm : Int} {pre : List Leg} (h : Hang t frm pre) : ∀ x ∈ pre, LegV t x := chainV_legs _ _ h.chain
theorem Hang.snoc {t : Table} {frm : Int} {pre : List Leg} (h : Hang t frm pre) {x : Leg} (hx : x ∈ lk (calcOf t).m (atE t frm pre)) (hf : freeL pre x = true) : Hang t frm (pre ++ [x]) := by
  obtain ⟨h1, h2⟩ := mem_lk hx
  have hf' : (!(pre.any fun y => y.train == x.train)) = true := hf
  constructor
  · rw [chainV_snoc, h.chain, List.nil_append, hf', decide_eq_true h1]
    simp only [Bool.true_and, linkV]
    unfold atE at h2
    cases hg : pre.getLast? with
    | none => rfl
    | some y => rw [hg] at h2; simp [h2]
  · intro _
    cases pre with
    | nil => simp only [rF, List.nil_append, List.head?_cons, Option.getD_some]; exact h2
    | cons y l => exact h.first (by simp)
theorem Hang.nil (t : Table) (frm : Int) : Hang t frm [] := ⟨rfl, fun h => absurd rfl h⟩
theorem lev_hang {t : Table} {frm : Int} : ∀ (k : Nat) (pre : List Leg), Hang t frm pre → ∀ r ∈ lev t frm k pre, Hang t frm r ∧ r.length = pre.length + k := by
  intro k
  induction k with
  | zero => intro pre h r hr; simp only [lev, List.mem_singleton] at hr; subst hr; exact ⟨h, rfl⟩
  | succ k ih =>
    intro pre h r hr
    simp only [lev, step1, List.mem_flatMap, List.mem_map, List.mem_filter] at hr
    obtain ⟨p, ⟨x, ⟨hx, hf⟩, rfl⟩, hr⟩ := hr
    obtain ⟨a, b⟩ := ih _ (h.snoc hx hf) r hr
    exact ⟨a, by rw [b]; simp; omega⟩
theorem Hang.to {t : Table} {frm : Int} {r : List Leg} (hr : r ≠ []) : rT t r = atE t frm r := by
  unfold rT atE
  cases h : r.getLast? with
  | none => exact absurd (List.getLast?_eq_none_iff.1 h) hr
  | some y => rfl
/-- It is a route, then. -/
theorem Hang.legsV {t : Table} {frm : Int} {r : List Leg} (h : Hang t frm r) (h1 : 1 ≤ r.length) (h4 : r.length ≤ 4) : legsV t r = true := by
  simp only [Go.Abs.Tr.legsV, h.chain, Bool.and_true]
  exact amid_iff.2 ⟨by omega, by omega⟩

theorem ap24 {α : Type} {xs : List α} {y : α} (h : xs.length ≤ 1000000) : ap 24 xs [y] = some (xs ++ [y]) := ap_ok (by simp only [List.length_cons, List.length_nil]; omega)
/-! ## The program's search -/
section search
variable {S : Type} {N : Nat} {t : Table} {frm to : Int} {Y : S → List Leg → Option (S × Bool)} {y : S → List Leg → S} {I : S → Prop}
theorem fold_inv (hI : ∀ s r, I s → Hang t frm r → 1 ≤ r.length → r.length ≤ 4 → atE t frm r = to → Y s r = some (y s r, true) ∧ I (y s r)) : ∀ (l : List (List Leg)) (s : S), I s →
    (∀ r ∈ l, Hang t frm r ∧ (1 ≤ r.length ∧ r.length ≤ 4) ∧ atE t frm r = to) → I (l.foldl y s) := by
  intro l
  induction l with
  | nil => intro s h _; exact h
  | cons r l ih =>
    intro s h hl
    obtain ⟨a, ⟨b, c⟩, d⟩ := hl r List.mem_cons_self
    exact ih _ (hI s r h a b c d).2 fun q hq => hl q (List.mem_cons_of_mem _ hq)
def ends' (t : Table) (frm to : Int) (r : List Leg) : Bool := atE t frm r == to
theorem onS_eq (L : Lens N t) (G : Good t) (hI : ∀ s r, I s → Hang t frm r → 1 ≤ r.length → r.length ≤ 4 → atE t frm r = to → Y s r = some (y s r, true) ∧ I (y s r)) (many : Nat) (h1 : 1 ≤ many) (h4 : many ≤ 4) :
    ∀ (k : Nat) (F : Nat) (pre : List Leg) (s : S), k < F → pre.length + k = many → Hang t frm pre → I s →
      onS N Y (calcOf t) to (many : Int) F s pre (metOf pre) (atE t frm pre) = some (((lev t frm k pre).filter (ends' t frm to)).foldl y s, true) ∧ I (((lev t frm k pre).filter (ends' t frm to)).foldl y s) := by
  have hN := L.n4
  intro k
  induction k with
  | zero =>
    intro F pre s hF hk hp hs
    obtain ⟨F, rfl⟩ : ∃ K, F = K + 1 := ⟨F - 1, by omega⟩
    unfold onS
    have e : ((pre.length : Int) == (many : Int)) = true := by simp; omega
    rw [e]
    simp only [if_true, lev]
    cases he : atE t frm pre == to with
    | false => simp [ends', he]; exact hs
    | true =>
      obtain ⟨a, b⟩ := hI s pre hs hp (by omega) (by omega) (by simpa using he)
      simp [ends', he, a]; exact b
  | succ k ih =>
    intro F pre s hF hk hp hs
    obtain ⟨F, rfl⟩ : ∃ K, F = K + 1 := ⟨F - 1, by omega⟩
    have hlen := lk_len G (atE t frm pre)
    have hp0 : ∀ z ∈ pre, 0 ≤ z.train := fun z hz => (hp.legs z hz).t0
    have e : ((pre.length : Int) == (many : Int)) = false := by simp; omega
    have main := iter_list (f := onLoop N (onS N Y (calcOf t) to (many : Int) F) (calcOf t) pre (metOf pre) (lk (calcOf t).m (atE t frm pre))) (S := S) (fun s i => (s, i)) (lk (calcOf t).m (atE t frm pre)) (by unfold big; omega)
      (fun s l => I s ∧ ∀ x ∈ l, x ∈ lk (calcOf t).m (atE t frm pre))
      (fun s l => (Sum.inl (((((l.filter (freeL pre)).map fun x => pre ++ [x]).flatMap (lev t frm k)).filter (ends' t frm to)).foldl y s) : S ⊕ S))
      (fun s _ => by
        unfold onLoop
        have : decide ((((lk (calcOf t).m (atE t frm pre)).length : Nat) : Int) < ((lk (calcOf t).m (atE t frm pre)).length : Int)) = false := by simp
        simp only [this]
        rfl)
      (fun i x l s hd hi hlt hck hIs => by
        obtain ⟨hs, hl⟩ := hIs
        have hx := hl x List.mem_cons_self
        obtain ⟨hv, _⟩ := mem_lk hx
        have h6 : x.train < 6 := by have := hv.t1; have := G.t6; omega
        left
        unfold onLoop
        simp only [hlt, decide_true, if_true, hi, bind_some', hck, inA6 hv.t0 h6, ix_met hp0 hv.t0 h6]
        cases hany : pre.any fun z => z.train == x.train with
        | true =>
          have hf : freeL pre x = false := by simp [freeL, hany]
          refine ⟨s, rfl, ⟨hs, fun z hz => hl z (List.mem_cons_of_mem _ hz)⟩, ?_⟩
          rw [List.filter_cons, hf]
          rfl
        | false =>
          have hf : freeL pre x = true := by simp [freeL, hany]
          have hn := hp.snoc hx hf
          obtain ⟨a, b⟩ := ih F (pre ++ [x]) s (by omega) (by simp; omega) hn hs
          rw [atE_snoc] at a
          refine ⟨((lev t frm k (pre ++ [x])).filter (ends' t frm to)).foldl y s, ?_, ⟨b, fun z hz => hl z (List.mem_cons_of_mem _ hz)⟩, ?_⟩
          · have hsz : pre.length ≤ 4 := by omega
            simp only [Bool.false_eq_true, if_false, lenC6 (metOf_len _), bind_some', set_met hv.t0 h6, sl_all, ap24 (xs := pre) (y := x) (by omega), hv.s92, a, Bool.not_true]
          · rw [List.filter_cons, hf]
            simp only [if_true, List.map_cons, List.flatMap_cons, List.filter_append, List.foldl_append])
      N (by omega) s ⟨hs, fun _ h => h⟩
    have main' : iter (onLoop N (onS N Y (calcOf t) to (many : Int) F) (calcOf t) pre (metOf pre) (lk (calcOf t).m (atE t frm pre))) N (s, 0) = _ := main
    refine ⟨?_, fold_inv hI _ s hs fun r hr => ?_⟩
    · unfold onS
      rw [e]
      simp only [Bool.false_eq_true, if_false]
      rw [main', bind_some']
      rfl
    · obtain ⟨a, b⟩ := List.mem_filter.1 hr
      obtain ⟨c, d⟩ := lev_hang _ _ hp r a
      exact ⟨c, ⟨by omega, by omega⟩, by simpa [ends'] using b⟩
/-- All routes between two stations, in their order. -/
def rts (t : Table) (frm to : Int) : List (List Leg) := (List.range 4).flatMap fun i => (lev t frm (i + 1) []).filter (ends' t frm to)
theorem itS_eq (L : Lens N t) (G : Good t) (hI : ∀ s r, I s → Hang t frm r → 1 ≤ r.length → r.length ≤ 4 → atE t frm r = to → Y s r = some (y s r, true) ∧ I (y s r)) (s : S) (hs : I s) :
    itS N Y (calcOf t) frm to s = some ((rts t frm to).foldl y s) := by
  have hN := L.n4
  have main := iter_list (f := itLoop N Y (calcOf t) frm to) (S := S) (fun s i => (s, i)) (List.range 4) (by simp [big]) (fun s _ => I s)
    (fun s l => (l.flatMap fun i => (lev t frm (i + 1) []).filter (ends' t frm to)).foldl y s)
    (fun s _ => rfl)
    (fun i x l s hd hi hlt hck hs => by
      have hi4 : i < 4 := by simp at hlt; omega
      have hx : x = i := by
        rw [ix_ok (by simpa using hi4)] at hi
        simp at hi; exact hi.symm
      subst hx
      obtain ⟨a, b⟩ := onS_eq L G hI (x + 1) (by omega) (by omega) (x + 1) N [] s (by omega) (by simp) (Hang.nil t frm) hs
      left
      refine ⟨((lev t frm (x + 1) []).filter (ends' t frm to)).foldl y s, ?_, b, ?_⟩
      · unfold itLoop
        have a' : onS N Y (calcOf t) to ((x : Int) + 1) N s [] (List.replicate 6 false) frm = _ := a
        simp only [decide_eq_true (show (x : Int) < 4 by omega), if_true, s93_eq, bind_some', hck, a', Bool.not_true, Bool.false_eq_true, if_false]
      · simp only [List.flatMap_cons, List.foldl_append])
    N (by simp; omega) s hs
  unfold itS rts
  exact main
end search
end Go.Abs.Tr

namespace Go.Abs.Tr
open Go Go.Abs
set_option linter.unusedSimpArgs false

theorem apB {α : Type} {xs ys : List α} (h : xs.length + ys.length ≤ 1000000000000) : ap 24 xs ys = some (xs ++ ys) := ap_ok (by omega)

/-! ## All legs -/
def legsOf (t : Table) : List Leg := (allLegs t).map (·.2)
theorem stopLegs_from (k i n : Nat) (h : i + 1 ≤ n) : stopLegs k i n = (List.range' (n - (n - (i + 1))) (n - (i + 1))).map fun (j : Nat) => (⟨(k : Int), (i : Int), (j : Int)⟩ : Leg) := by
  unfold stopLegs
  rw [show n - (n - (i + 1)) = i + 1 by omega]
theorem inner108 {N : Nat} {t : Table} (L : Lens N t) {k : Nat} {x : Train} (hx : ix t.trains (k : Int) = some x) (hm : x ∈ t.trains) (h5 : x.stops.length ≤ 5) (o0 : List Leg) (i : Nat) (hi : i < x.stops.length) (out : List Leg) (ho : out.length ≤ 1000) :
    iter (s108_l18 N t (o0, (k : Int)) (out, (i : Int))) N (out, (i : Int) + 1) = some (out ++ stopLegs k i x.stops.length) := by
  have hN := L.n4
  have main := iter_from (f := s108_l18 N t (o0, (k : Int)) (out, (i : Int))) (S := List Leg) (fun s i => (s, i)) x.stops (L.ts x hm) (fun s l => s.length + l.length ≤ 2000)
    (fun s l => s ++ (List.range' (x.stops.length - l.length) l.length).map fun (j : Nat) => (⟨(k : Int), (i : Int), (j : Int)⟩ : Leg))
    (fun s _ => by
      unfold s108_l18
      have : decide (((x.stops.length : Nat) : Int) < (x.stops.length : Int)) = false := by simp
      simp only [hx, bind_some', this]
      simp)
    (fun j y r s hd hj hlt hck hI => by
      left
      have hnr : r.length + 1 + j = x.stops.length := by
        have := congrArg List.length hd
        simp at this; omega
      have hjl : x.stops.length - (r.length + 1) = j := by omega
      refine ⟨s ++ [⟨(k : Int), (i : Int), (j : Int)⟩], ?_, by simp at hI ⊢; omega, ?_⟩
      · unfold s108_l18
        have hl : s.length ≤ 2000 := by simp at hI; omega
        simp only [hx, bind_some', hlt, decide_true, if_true, apB (xs := s) (ys := [(⟨(k : Int), (i : Int), (j : Int)⟩ : Leg)]) (by simp only [List.length_cons, List.length_nil]; omega), hck]
      · rw [List.length_cons, hjl, List.range'_succ, List.map_cons, List.append_assoc]
        have : x.stops.length - r.length = j + 1 := by omega
        rw [this]
        rfl)
    (x.stops.drop (i + 1)) (i + 1) out N rfl (by omega) (by simp; omega) (by simp; omega)
  rw [List.length_drop] at main
  rw [stopLegs_from k i _ (by omega), ← main]
  norm_cast
theorem mid108 {N : Nat} {t : Table} (L : Lens N t) {k : Nat} {x : Train} (hx : ix t.trains (k : Int) = some x) (hm : x ∈ t.trains) (h5 : x.stops.length ≤ 5) (o0 : List Leg) (ho : o0.length ≤ 800) :
    iter (s108_l20 N t (o0, (k : Int))) N (o0, 0) = some (o0 ++ (trainLegs k x).map (·.2)) := by
  have main := iter_list (f := s108_l20 N t (o0, (k : Int))) (S := List Leg) (fun s i => (s, i)) x.stops (L.ts x hm) (fun s l => s.length + l.length * 10 ≤ 1000)
    (fun s l => s ++ ((l.zipIdx (x.stops.length - l.length)).map fun p => stopLegs k p.2 x.stops.length).flatten)
    (fun s _ => by
      unfold s108_l20
      have : decide (((x.stops.length : Nat) : Int) < (x.stops.length : Int)) = false := by simp
      simp only [hx, bind_some', this]
      simp)
    (fun i y r s hd hi hlt hck hI => by
      left
      have hnr : r.length + 1 + i = x.stops.length := by
        have := congrArg List.length hd
        simp at this; omega
      have hil : x.stops.length - (r.length + 1) = i := by omega
      have hlt' : i < x.stops.length := by omega
      have hlen : (stopLegs k i x.stops.length).length ≤ 5 := by simp only [stopLegs, List.length_map, List.length_range']; omega
      refine ⟨s ++ stopLegs k i x.stops.length, ?_, by simp only [List.length_cons] at hI; rw [List.length_append]; omega, ?_⟩
      · unfold s108_l20
        simp only [List.length_cons] at hI
        simp only [hx, bind_some', hlt, decide_true, if_true, hck, inner108 L hx hm h5 o0 i hlt' s (by omega)]
      · rw [List.length_cons, hil, List.zipIdx_cons, List.map_cons, List.flatten_cons, List.append_assoc]
        have : x.stops.length - r.length = i + 1 := by omega
        rw [this])
    N (L.nts x hm) o0 (by omega)
  rw [main, Nat.sub_self]
  congr 2
  unfold trainLegs
  rw [List.map_flatten, List.map_map]
  congr 1
  apply List.map_congr_left
  intro p _
  simp [Function.comp_def]
theorem s108_eq {N : Nat} {t : Table} (L : Lens N t) (G : Good t) : s108 N t = some (legsOf t) := by
  have main := iter_list (f := s108_l22 N t) (S := List Leg) (fun s i => (s, i)) t.trains L.tr (fun s l => s.length + l.length * 100 ≤ 700)
    (fun s l => s ++ (((l.zipIdx (t.trains.length - l.length)).map fun p => trainLegs p.2 p.1).flatten).map (·.2))
    (fun s _ => by
      unfold s108_l22
      have : decide (((t.trains.length : Nat) : Int) < (t.trains.length : Int)) = false := by simp
      simp only [this]
      simp)
    (fun i x r s hd hi hlt hck hI => by
      left
      have hm := mem_drop hd
      have hnr : r.length + 1 + i = t.trains.length := by
        have := congrArg List.length hd
        simp at this; omega
      have hil : t.trains.length - (r.length + 1) = i := by omega
      have h5 := (G.ts x hm).n5
      have hlen : (trainLegs i x).length ≤ x.stops.zipIdx.length * 5 := by
        refine flat_len _ 5 _ fun q hq => ?_
        simp only [stopLegs, List.length_map, List.length_range']
        omega
      rw [List.length_zipIdx] at hlen
      simp only [List.length_cons] at hI
      refine ⟨s ++ (trainLegs i x).map (·.2), ?_, by rw [List.length_append, List.length_map]; omega, ?_⟩
      · unfold s108_l22
        simp only [hlt, decide_true, if_true, hck, mid108 L hi hm h5 s (by omega), bind_some']
      · rw [List.length_cons, hil, List.zipIdx_cons, List.map_cons, List.flatten_cons, List.map_append, List.append_assoc]
        have : t.trains.length - r.length = i + 1 := by omega
        rw [this])
    N L.nt [] (by have := G.t6; simp; omega)
  unfold s108
  rw [main, bind_some', Nat.sub_self]
  rfl

/-! ## Which trains are used: a set as a number -/
theorem bits_ok : ∀ u : Fin 64, ∀ i : Fin 6, (shlC 1 ((i.val : Nat) : Int)).bind (fun v => some (orC ((u.val : Nat) : Int) v)) = some (((u.val ||| 2 ^ i.val : Nat) : Int)) ∧
    ∀ j : Fin 6, s87 0 ((u.val ||| 2 ^ i.val : Nat) : Int) ((j.val : Nat) : Int) = (s87 0 ((u.val : Nat) : Int) ((j.val : Nat) : Int)).map fun b => b || (i.val == j.val) := by decide +kernel
end Go.Abs.Tr

namespace Go.Abs.Tr
open Go Go.Abs
set_option linter.unusedSimpArgs false

def useFold (l : List Leg) (u : Nat) : Nat := l.foldl (fun u x => u ||| 2 ^ x.train.toNat) u
def usedOf (pre : List Leg) : Nat := useFold pre 0
theorem use_ok : ∀ (l : List Leg) (u : Nat), (∀ x ∈ l, 0 ≤ x.train ∧ x.train < 6) → u < 64 → useFold l u < 64 ∧ ∀ j : Nat, j < 6 → s87 0 (useFold l u : Int) (j : Int) = (s87 0 (u : Int) (j : Int)).map fun b => b || l.any fun y => y.train == (j : Int) := by
  intro l
  induction l with
  | nil => intro u _ hu; exact ⟨hu, fun j hj => by cases h : s87 0 (u : Int) (j : Int) <;> simp [useFold, h]⟩
  | cons x l ih =>
    intro u hl hu
    obtain ⟨x0, x6⟩ := hl x List.mem_cons_self
    have hi : x.train.toNat < 6 := by omega
    obtain ⟨_, hb⟩ := bits_ok ⟨u, hu⟩ ⟨x.train.toNat, hi⟩
    have hu' : u ||| 2 ^ x.train.toNat < 64 := by
      have h2 : 2 ^ x.train.toNat < 2 ^ 6 := Nat.pow_lt_pow_right (by omega) hi
      exact Nat.or_lt_two_pow (n := 6) (by omega) h2
    obtain ⟨a, b⟩ := ih (u ||| 2 ^ x.train.toNat) (fun y hy => hl y (List.mem_cons_of_mem _ hy)) hu'
    refine ⟨a, fun j hj => ?_⟩
    have e1 := b j hj
    have e2 := hb ⟨j, hj⟩
    have e3 : useFold (x :: l) u = useFold l (u ||| 2 ^ x.train.toNat) := rfl
    rw [e3, e1]
    have e2' : s87 0 ((u ||| 2 ^ x.train.toNat : Nat) : Int) (j : Int) = (s87 0 (u : Int) (j : Int)).map fun b => b || (x.train.toNat == j) := e2
    rw [e2', Option.map_map]
    congr 1
    funext b
    show ((b || (x.train.toNat == j)) || l.any fun y => y.train == (j : Int)) = (b || (x :: l).any fun y => y.train == (j : Int))
    rw [List.any_cons, Bool.or_assoc]
    have e5 : (x.train.toNat == j) = (x.train == (j : Int)) := by
      rw [Bool.eq_iff_iff, beq_iff_eq, beq_iff_eq]
      omega
    rw [e5]
theorem used_any {pre : List Leg} (hl : ∀ x ∈ pre, 0 ≤ x.train ∧ x.train < 6) (N : Nat) {j : Int} (h0 : 0 ≤ j) (h6 : j < 6) : s87 N (usedOf pre : Int) j = some (pre.any fun y => y.train == j) := by
  obtain ⟨n, rfl⟩ : ∃ n : Nat, j = n := ⟨j.toNat, by omega⟩
  obtain ⟨_, h⟩ := use_ok pre 0 hl (by omega)
  have := h n (by omega)
  have e : s87 0 ((0 : Nat) : Int) (n : Int) = some false := by
    have : ∀ k : Fin 6, s87 0 ((0 : Nat) : Int) ((k.val : Nat) : Int) = some false := by decide +kernel
    exact this ⟨n, by omega⟩
  rw [e] at this
  show s87 0 (useFold pre 0 : Int) (n : Int) = _
  simpa using this
theorem shl_or {u : Nat} (hu : u < 64) {x : Int} (h0 : 0 ≤ x) (h6 : x < 6) : ∃ v, shlC 1 x = some v ∧ orC (u : Int) v = ((u ||| 2 ^ x.toNat : Nat) : Int) := by
  obtain ⟨n, rfl⟩ : ∃ n : Nat, x = n := ⟨x.toNat, by omega⟩
  obtain ⟨h, _⟩ := bits_ok ⟨u, hu⟩ ⟨n, by omega⟩
  obtain ⟨v, hv, h⟩ := Option.bind_eq_some_iff.1 h
  exact ⟨v, hv, Option.some.inj h⟩

/-- What is known of a list of legs: where it ends, what it uses. -/
theorem row_eq {N : Nat} {t : Table} (L : Lens N t) (G : Good t) {frm : Int} {row : List Leg} (h4 : row.length ≤ 4) (hv : ∀ x ∈ row, LegV t x) (s2 : (List (List Leg)) × (List (List Leg)) × Int) (s6 : (List (List Leg)) × Int)
    (hr : ix s2.2.1 s6.2 = some row) : iter (s102_l22 N t s2 s6) N (frm, 0, 0) = some (atE t frm row, (usedOf row : Int)) := by
  have hN := L.n4
  have tr6 : ∀ x ∈ row, 0 ≤ x.train ∧ x.train < 6 := fun x hx => ⟨(hv x hx).t0, by have := (hv x hx).t1; have := G.t6; omega⟩
  have main := iter_list (f := s102_l22 N t s2 s6) (S := Int × Nat × List Leg) (fun s i => (s.1, (s.2.1 : Int), i)) row (by unfold big; omega)
    (fun s l => s.2.2 ++ l = row ∧ s.1 = atE t frm s.2.2 ∧ s.2.1 = usedOf s.2.2) (fun _ _ => (atE t frm row, (usedOf row : Int)))
    (fun s hI => by
      obtain ⟨a, u, pre⟩ := s
      obtain ⟨h1, h2, h3⟩ := hI
      simp only [List.append_nil] at h1 h2 h3
      subst h1 h2 h3
      unfold s102_l22
      have : decide (((pre.length : Nat) : Int) < (pre.length : Int)) = false := by simp
      simp only [hr, bind_some', this]
      rfl)
    (fun i x r s hd hi hlt hck hI => by
      obtain ⟨a, u, pre⟩ := s
      obtain ⟨h1, h2, h3⟩ := hI
      have h1' : pre ++ x :: r = row := h1
      have h2' : a = atE t frm pre := h2
      have h3' : u = usedOf pre := h3
      have hx := hv x (by rw [← h1']; simp)
      obtain ⟨x0, x6⟩ := tr6 x (by rw [← h1']; simp)
      have hu : u < 64 := by
        rw [h3']
        exact (use_ok pre 0 (fun y hy => tr6 y (by rw [← h1']; exact List.mem_append_left _ hy)) (by omega)).1
      obtain ⟨v, hv1, hv2⟩ := shl_or hu x0 x6
      left
      refine ⟨((sg t x).station, u ||| 2 ^ x.train.toNat, pre ++ [x]), ?_, ⟨by rw [List.append_assoc]; exact h1', (atE_snoc _ _ _ _).symm, ?_⟩, rfl⟩
      · unfold s102_l22
        simp only [hr, bind_some', hlt, decide_true, if_true, hi, hx.s74, hv1, hv2, hck]
      · show u ||| 2 ^ x.train.toNat = usedOf (pre ++ [x])
        rw [h3']
        simp [usedOf, useFold])
    N (by omega) (frm, 0, []) ⟨rfl, rfl, rfl⟩
  exact main

theorem step1_eq (t : Table) (frm : Int) (row : List Leg) : ((legsOf t).filter fun x => freeL row x && ((sf t x).station == atE t frm row)).map (fun x => row ++ [x]) = step1 t frm row := by
  unfold step1 legsOf
  rw [lk_calc, List.filter_map, List.filter_map, List.filter_filter]
  congr 2
  apply List.filter_congr
  intro p hp
  have := (allLegs_ok hp).2
  simp only [Function.comp, this]
  congr 1
theorem step1_len {t : Table} (G : Good t) (frm : Int) (row : List Leg) : (step1 t frm row).length ≤ 150 := by
  unfold step1
  rw [List.length_map]
  exact Nat.le_trans (List.length_filter_le _ _) (lk_len G _)
theorem legsOf_len {t : Table} (G : Good t) : (legsOf t).length ≤ 150 := by unfold legsOf; rw [List.length_map]; exact allLegs_len G
theorem legsOf_ok {t : Table} {x : Leg} (h : x ∈ legsOf t) : LegV t x := by
  obtain ⟨p, hp, rfl⟩ := List.mem_map.1 h
  exact (allLegs_ok hp).1
theorem l49_eq {N : Nat} {t : Table} (L : Lens N t) (G : Good t) {frm : Int} {row : List Leg} (h4 : row.length ≤ 4) (hv : ∀ x ∈ row, LegV t x) (s2 : (List (List Leg)) × (List (List Leg)) × Int) (s6 : (List (List Leg)) × Int)
    (hr : ix s2.2.1 s6.2 = some row) (nx : List (List Leg)) (hnx : nx.length ≤ 100000000000) :
    iter (s102_l49 N t (legsOf t) s2 s6 (atE t frm row, (usedOf row : Int))) N (nx, 0) = some (nx ++ step1 t frm row) := by
  have hN := L.n4
  have hlen := legsOf_len G
  have tr6 : ∀ x ∈ row, 0 ≤ x.train ∧ x.train < 6 := fun x hx => ⟨(hv x hx).t0, by have := (hv x hx).t1; have := G.t6; omega⟩
  have main := iter_list (f := s102_l49 N t (legsOf t) s2 s6 (atE t frm row, (usedOf row : Int))) (S := List (List Leg)) (fun s i => (s, i)) (legsOf t) (by unfold big; omega)
    (fun s l => s.length + l.length ≤ 200000000000) (fun s l => s ++ (l.filter fun x => freeL row x && ((sf t x).station == atE t frm row)).map (fun x => row ++ [x]))
    (fun s _ => by
      unfold s102_l49
      have : decide ((((legsOf t).length : Nat) : Int) < ((legsOf t).length : Int)) = false := by simp
      simp only [this, List.filter_nil, List.map_nil, List.append_nil]
      rfl)
    (fun i x r s hd hi hlt hck hI => by
      have hx := legsOf_ok (mem_drop hd)
      have h6 : x.train < 6 := by have := hx.t1; have := G.t6; omega
      simp only [List.length_cons] at hI
      left
      have c1 : (if (!(row.any fun y => y.train == x.train)) = true then (ix (legsOf t) (i : Int)).bind fun v31 => (s72 N t v31).bind fun v32 => some (v32.station == atE t frm row) else some false) = some (freeL row x && ((sf t x).station == atE t frm row)) := by
        rw [hi, bind_some', hx.s72, bind_some']
        unfold freeL
        cases row.any fun y => y.train == x.train <;> rfl
      cases hc : freeL row x && ((sf t x).station == atE t frm row) with
      | false =>
        refine ⟨s, ?_, by omega, ?_⟩
        · unfold s102_l49
          simp only [hlt, decide_true, if_true, hi, bind_some', used_any tr6 N hx.t0 h6] at c1 ⊢
          rw [c1, bind_some', hc]
          simp only [Bool.false_eq_true, if_false, bind_some', hck]
        · rw [List.filter_cons, hc]; rfl
      | true =>
        refine ⟨s ++ [row ++ [x]], ?_, by rw [List.length_append]; simp; omega, ?_⟩
        · unfold s102_l49
          simp only [hlt, decide_true, if_true, hi, bind_some', used_any tr6 N hx.t0 h6] at c1 ⊢
          rw [c1, bind_some', hc]
          simp only [if_true, hr, bind_some', apB (xs := ([] : List Leg)) (ys := row) (by simp; omega), List.nil_append]
          cases hrow : row with
          | nil =>
            simp only [List.isEmpty_nil, if_true, apB (xs := ([] : List Leg)) (ys := [x]) (by simp), apB (xs := s) (ys := [[x]]) (by simp; omega), bind_some', hck, List.nil_append]
          | cons y l =>
            have hl4 : l.length + 1 ≤ 4 := by rw [hrow] at h4; simpa using h4
            simp only [List.isEmpty_cons, Bool.false_eq_true, if_false, apB (xs := y :: l) (ys := [x]) (by simp; omega), apB (xs := s) (ys := [y :: l ++ [x]]) (by simp; omega), bind_some', hck]
        · rw [List.filter_cons, hc]
          simp only [if_true, List.map_cons, List.append_assoc, List.singleton_append])
    N (by omega) nx (by omega)
  rw [main, step1_eq]

theorem lev_snoc (t : Table) (frm : Int) : ∀ (k : Nat) (pre : List Leg), lev t frm (k + 1) pre = (lev t frm k pre).flatMap (step1 t frm) := by
  intro k
  induction k with
  | zero => intro pre; simp [lev]
  | succ k ih =>
    intro pre
    have e1 : lev t frm (k + 1) pre = (step1 t frm pre).flatMap (lev t frm k) := rfl
    have e2 : lev t frm (k + 1 + 1) pre = (step1 t frm pre).flatMap (lev t frm (k + 1)) := rfl
    rw [e1, e2, List.flatMap_assoc]
    congr 1
    exact funext ih
theorem flatMap_len_le {α β : Type} (f : α → List β) (B : Nat) (l : List α) (h : ∀ a ∈ l, (f a).length ≤ B) : (l.flatMap f).length ≤ l.length * B := by
  rw [List.flatMap_def]
  exact flat_len f B l h
theorem lev_len {t : Table} (G : Good t) (frm : Int) : ∀ (k : Nat) (pre : List Leg), (lev t frm k pre).length ≤ 150 ^ k := by
  intro k
  induction k with
  | zero => intro pre; simp [lev]
  | succ k ih =>
    intro pre
    rw [lev_snoc, Nat.pow_succ]
    exact Nat.le_trans (flatMap_len_le _ 150 _ fun r _ => step1_len G frm r) (Nat.mul_le_mul_right _ (ih pre))
end Go.Abs.Tr

namespace Go.Abs.Tr
open Go Go.Abs
set_option linter.unusedSimpArgs false

theorem l51_eq {N : Nat} {t : Table} (L : Lens N t) (G : Good t) {frm : Int} (s2 : (List (List Leg)) × (List (List Leg)) × Int) (h4 : ∀ r ∈ s2.2.1, Hang t frm r ∧ r.length ≤ 4) (hlen : s2.2.1.length ≤ 3375000) :
    iter (s102_l51 N t frm (legsOf t) s2) N ([], 0) = some (s2.2.1.flatMap (step1 t frm)) := by
  have hN := L.n10
  have main := iter_list (f := s102_l51 N t frm (legsOf t) s2) (S := List (List Leg)) (fun s i => (s, i)) s2.2.1 (by unfold big; omega)
    (fun s l => s.length + l.length * 150 ≤ 1000000000 ∧ ∀ r ∈ l, Hang t frm r ∧ r.length ≤ 4) (fun s l => s ++ l.flatMap (step1 t frm))
    (fun s _ => by
      unfold s102_l51
      have : decide (((s2.2.1.length : Nat) : Int) < (s2.2.1.length : Int)) = false := by simp
      simp only [this, List.flatMap_nil, List.append_nil]
      rfl)
    (fun i x r s hd hi hlt hck hI => by
      obtain ⟨hI, hx⟩ := hI
      obtain ⟨hx1, hx2⟩ := hx x List.mem_cons_self
      have hs := step1_len G frm x
      simp only [List.length_cons] at hI
      left
      refine ⟨s ++ step1 t frm x, ?_, ⟨by rw [List.length_append]; omega, fun y hy => hx y (List.mem_cons_of_mem _ hy)⟩, by rw [List.flatMap_cons, List.append_assoc]⟩
      unfold s102_l51
      simp only [hlt, decide_true, if_true, row_eq L G (frm := frm) hx2 hx1.legs s2 (s, (i : Int)) hi, bind_some', l49_eq L G (frm := frm) hx2 hx1.legs s2 (s, (i : Int)) hi s (by omega), hck])
    N (by omega) [] ⟨by simp; omega, h4⟩
  rw [main, List.nil_append]
def allR (t : Table) (frm : Int) : List (List Leg) := (List.range 4).flatMap fun i => lev t frm (i + 1) []
theorem lev_le {t : Table} (G : Good t) (frm : Int) {k : Nat} (h : k ≤ 4) : (lev t frm k []).length ≤ 506250000 := by
  refine Nat.le_trans (lev_len G frm k []) ?_
  exact Nat.le_trans (Nat.pow_le_pow_right (by omega) h) (by decide)
theorem lev_le3 {t : Table} (G : Good t) (frm : Int) {k : Nat} (h : k ≤ 3) : (lev t frm k []).length ≤ 3375000 := by
  refine Nat.le_trans (lev_len G frm k []) ?_
  exact Nat.le_trans (Nat.pow_le_pow_right (by omega) h) (by decide)
theorem s102_eq {N : Nat} {t : Table} (L : Lens N t) (G : Good t) (frm : Int) : s102 N t frm = some (allR t frm) := by
  have hN := L.n10
  have main := iter_list (f := s102_l57 N t frm (legsOf t)) (S := List (List Leg) × List (List Leg)) (fun s i => (s.1, s.2, i)) (List.range 4) (by simp [big])
    (fun s l => l.length ≤ 4 ∧ s.1.length + l.length * 1000000000 ≤ 4000000000 ∧ s.2 = lev t frm (4 - l.length) []) (fun s l => s.1 ++ l.flatMap fun i => lev t frm (i + 1) [])
    (fun s _ => by
      have : decide ((((List.range 4).length : Nat) : Int) < 4) = false := by decide
      unfold s102_l57
      simp only [this, List.flatMap_nil, List.append_nil]
      rfl)
    (fun i x l s hd hi hlt hck hI => by
      obtain ⟨out, rows⟩ := s
      obtain ⟨hl4, hI, hrows⟩ := hI
      have hi4 : i < 4 := by simp at hlt; omega
      have hx : x = i := by
        rw [ix_ok (by simpa using hi4)] at hi
        simp at hi; exact hi.symm
      subst hx
      have hl : l.length + 1 + x = 4 := by
        have := congrArg List.length hd
        simp at this; omega
      simp only [List.length_cons] at hI hrows hl4
      have hI' : out.length + (l.length + 1) * 1000000000 ≤ 4000000000 := hI
      have e4 : 4 - (l.length + 1) = x := by omega
      have hrows' : rows = lev t frm x [] := by rw [← e4]; exact hrows
      have hlev := lev_le G frm (k := x + 1) (by omega)
      have h51 := l51_eq L G (frm := frm) (out, rows, (x : Int)) (by
        intro r hr
        have hr' : r ∈ rows := hr
        rw [hrows'] at hr'
        obtain ⟨a, b⟩ := lev_hang x [] (Hang.nil t frm) r hr'
        exact ⟨a, by rw [b]; simp; omega⟩) (by
        show rows.length ≤ 3375000
        rw [hrows']; exact lev_le3 G frm (by omega))
      have h51' : iter (s102_l51 N t frm (legsOf t) (out, rows, (x : Int))) N ([], 0) = some (lev t frm (x + 1) []) := by
        rw [h51, lev_snoc, ← hrows']
      left
      refine ⟨(out ++ lev t frm (x + 1) [], lev t frm (x + 1) []), ?_, ⟨by omega, by show (out ++ lev t frm (x + 1) []).length + _ ≤ _; rw [List.length_append]; omega, by show lev t frm (x + 1) [] = _; congr 1; omega⟩, ?_⟩
      · unfold s102_l57
        have hap := apB (xs := out) (ys := lev t frm (x + 1) []) (by omega)
        have e5 : ((ap 24 out (lev t frm (x + 1) [])).bind fun v54 => if (lev t frm (x + 1) []).isEmpty = true then some out else some v54) = some (out ++ lev t frm (x + 1) []) := by
          rw [hap, bind_some']
          cases h : lev t frm (x + 1) [] with
          | nil => simp
          | cons a b => simp
        simp only [decide_eq_true (show (x : Int) < 4 by omega), if_true, h51', bind_some', e5, hck]
      · show out ++ (x :: l).flatMap _ = (out ++ lev t frm (x + 1) []) ++ l.flatMap _
        rw [List.flatMap_cons, List.append_assoc])
    N (by simp; omega) ([], [[]]) ⟨by simp, by simp, rfl⟩
  unfold s102
  rw [s108_eq L G, bind_some']
  have main' : iter (s102_l57 N t frm (legsOf t)) N ([], [[]], 0) = _ := main
  rw [main', bind_some', List.nil_append]
  rfl
theorem allR_ok {t : Table} {frm : Int} {r : List Leg} (h : r ∈ allR t frm) : Hang t frm r ∧ 1 ≤ r.length ∧ r.length ≤ 4 := by
  simp only [allR, List.mem_flatMap, List.mem_range] at h
  obtain ⟨i, hi, hr⟩ := h
  obtain ⟨a, b⟩ := lev_hang (i + 1) [] (Hang.nil t frm) r hr
  simp at b
  exact ⟨a, by omega, by omega⟩
theorem allR_len {t : Table} (G : Good t) (frm : Int) : (allR t frm).length ≤ 2025000000 := by
  have := flatMap_len_le (fun i => lev t frm (i + 1) []) 506250000 (List.range 4) fun i hi => lev_le G frm (by have := List.mem_range.1 hi; omega)
  simpa [allR] using this
theorem rts_eq (t : Table) (frm to : Int) : (allR t frm).filter (ends' t frm to) = rts t frm to := by
  unfold allR rts
  rw [List.filter_flatMap]
/-- The specification's routes between two stations are those that the program's search yields, in their order. -/
theorem s80_eq {N : Nat} {t : Table} (L : Lens N t) (G : Good t) {frm to : Int} (hne : frm ≠ to) : s80 N t frm to = some (rts t frm to) := by
  have hN := L.n10
  have hlen := allR_len G frm
  have main := iter_list (f := s80_l18 N t to (allR t frm)) (S := List (List Leg)) (fun s i => (s, i)) (allR t frm) (by unfold big; omega)
    (fun s l => s.length + l.length ≤ 3000000000 ∧ ∀ r ∈ l, r ∈ allR t frm) (fun s l => s ++ l.filter (ends' t frm to))
    (fun s _ => by
      unfold s80_l18
      have : decide ((((allR t frm).length : Nat) : Int) < ((allR t frm).length : Int)) = false := by simp
      simp only [this, List.filter_nil, List.append_nil]
      rfl)
    (fun i r l s hd hi hlt hck hI => by
      obtain ⟨hI, hr⟩ := hI
      simp only [List.length_cons] at hI
      obtain ⟨h1, h2, h3⟩ := allR_ok (hr r List.mem_cons_self)
      have hne2 : r ≠ [] := fun e => by rw [e] at h2; simp at h2
      have hl := h1.legsV h2 h3
      have c : ((!(rF t r == rT t r)) && (rT t r == to)) = ends' t frm to r := by
        rw [h1.first hne2, Hang.to (frm := frm) hne2]
        unfold ends'
        cases h : atE t frm r == to with
        | false => simp
        | true =>
          have : atE t frm r = to := by simpa using h
          rw [this]
          simp [hne]
      left
      cases hc : ends' t frm to r with
      | false =>
        refine ⟨s, ?_, ⟨by omega, fun q hq => hr q (List.mem_cons_of_mem _ hq)⟩, by rw [List.filter_cons, hc]; rfl⟩
        unfold s80_l18
        simp only [hlt, decide_true, if_true, hi, bind_some', s59_eq L G, hl, c, hc, Bool.false_eq_true, if_false, hck]
      | true =>
        refine ⟨s ++ [r], ?_, ⟨by rw [List.length_append]; simp; omega, fun q hq => hr q (List.mem_cons_of_mem _ hq)⟩, by rw [List.filter_cons, hc]; simp⟩
        unfold s80_l18
        simp only [hlt, decide_true, if_true, hi, bind_some', s59_eq L G, hl, c, hc, apB (xs := s) (ys := [r]) (by simp; omega), hck])
    N (by omega) [] ⟨by simp; omega, fun _ h => h⟩
  unfold s80
  rw [s102_eq L G, bind_some', main, bind_some', List.nil_append, rts_eq]
theorem rts_ok {t : Table} {frm to : Int} {r : List Leg} (h : r ∈ rts t frm to) : Hang t frm r ∧ (1 ≤ r.length ∧ r.length ≤ 4) ∧ atE t frm r = to := by
  rw [← rts_eq] at h
  obtain ⟨a, b⟩ := List.mem_filter.1 h
  obtain ⟨c, d⟩ := allR_ok a
  exact ⟨c, d, by simpa [ends'] using b⟩
theorem rts_len {t : Table} (G : Good t) (frm to : Int) : (rts t frm to).length ≤ 2025000000 := by
  rw [← rts_eq]
  exact Nat.le_trans (List.length_filter_le _ _) (allR_len G frm)
end Go.Abs.Tr
