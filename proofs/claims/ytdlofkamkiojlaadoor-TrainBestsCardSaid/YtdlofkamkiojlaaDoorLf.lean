/- Plain law: Goes, Missed, There: the program and the specification. Conditions: none. -/
import Derived.Test.YtdlofkamkiojlaaDoorLe
namespace Go.Abs.Tr
open Go Go.Abs
set_option linter.unusedSimpArgs false

/-- The last minute in which a box comes to a leg. -/
def ld (t : Table) (at' : Int) (pre : List Leg) : Int := match pre.getLast? with
  | none => at'
  | some y => (sg t y).arrive + (tr t y).late.high
theorem ld_snoc (t : Table) (at' : Int) (pre : List Leg) (x : Leg) : ld t at' (pre ++ [x]) = (sg t x).arrive + (tr t x).late.high := by simp [ld]
theorem ld_in {t : Table} (G : Good t) {at' : Int} (h0 : 0 ≤ at') (h1 : at' ≤ 2879) {pre : List Leg} (hp : ∀ x ∈ pre, LegV t x) : 0 ≤ ld t at' pre ∧ ld t at' pre ≤ 3000 := by
  unfold ld
  cases h : pre.getLast? with
  | none => show 0 ≤ at' ∧ at' ≤ 3000; omega
  | some y =>
    obtain ⟨⟨a1, a2, a3⟩, _, a6, a7⟩ := G.leg (hp y (List.mem_of_getLast? h))
    show 0 ≤ (sg t y).arrive + (tr t y).late.high ∧ (sg t y).arrive + (tr t y).late.high ≤ 3000
    omega
def miss1 (t : Table) (a : Int) (x : Leg) : Bool := decide (a + t.load > (sf t x).leave + (tr t x).late.low)
theorem s70_eq {N : Nat} {t : Table} (G : Good t) {at' : Int} (h0 : 0 ≤ at') (h1 : at' ≤ 2879) {route pre l : List Leg} {x : Leg} (hI : pre ++ x :: l = route) (hn : route.length ≤ 4) (hlegs : ∀ x ∈ route, LegV t x) :
    s70 N (calcOf t) route at' (pre.length : Int) = some (miss1 t (ld t at' pre) x) := by
  have hp : ∀ x ∈ pre, LegV t x := fun y hy => hlegs y (by rw [← hI]; exact List.mem_append_left _ hy)
  have hx : LegV t x := hlegs x (by rw [← hI]; simp)
  obtain ⟨b0, b1⟩ := ld_in G h0 h1 hp
  obtain ⟨⟨a1, a2, a3⟩, ⟨a4, a5⟩, _⟩ := G.leg hx
  have ga0 := G.a0
  have ga1 := G.a1
  have hix : ix route (pre.length : Int) = some x := by
    rw [← hI]
    unfold ix
    rw [if_pos (by omega)]
    simp
  have e1 : (if decide ((pre.length : Int) > 0) = true then (ck ((pre.length : Int) - 1)).bind fun v4 => (ix route v4).bind fun v5 => (s92 N (calcOf t) v5).bind fun v6 => (s125 N (calcOf t) v5.train).bind fun v7 => (ck (v6.arrive + v7)).bind fun v8 => some v8 else some at') = some (ld t at' pre) := by
    unfold ld at b0 b1 ⊢
    cases hg : pre.getLast? with
    | none =>
      have : pre = [] := List.getLast?_eq_none_iff.1 hg
      subst this
      rfl
    | some y =>
      have hpos : 0 < pre.length := by
        cases pre with
        | nil => cases hg
        | cons a l => simp
      have hy := hp y (List.mem_of_getLast? hg)
      have hiy : ix route ((pre.length : Int) - 1) = some y := by rw [← hI]; exact ix_last hg
      rw [hg] at b0 b1
      have b0' : 0 ≤ (sg t y).arrive + (tr t y).late.high := b0
      have b1' : (sg t y).arrive + (tr t y).late.high ≤ 3000 := b1
      have hle : pre.length ≤ 4 := by rw [← hI] at hn; simp at hn; omega
      simp only [decide_eq_true (show (pre.length : Int) > 0 by omega), if_true, ck_ok (n := (pre.length : Int) - 1) (by omega), bind_some', hiy, hy.s92, hy.s125, ck_ok (n := (sg t y).arrive + (tr t y).late.high) (by omega)]
  unfold s70
  have ct : (calcOf t).t = t := rfl
  rw [e1]
  simp only [bind_some', ct, ck_ok (n := ld t at' pre + t.load) (by omega), hix, hx.s83, hx.s127, ck_ok (n := (sf t x).leave + (tr t x).late.low) (by omega)]
  rfl

def goesV (t : Table) (at' : Int) (l : List Leg) : Int :=
  if isOp (ofc t (rF t l)) at' && (arr t ⟨at', at'⟩ l).isSome then (if (mis t at' l).all (fun b => !b) then 2 else 1) else 0
theorem s65_eq {N : Nat} {t : Table} (L : Lens N t) (G : Good t) {route : List Leg} (hr : legsV t route = true) {at' : Int} (h0 : 0 ≤ at') (h1 : at' ≤ 2879) :
    s65 N (calcOf t) route at' = some (goesV t at' route) := by
  obtain ⟨hl, hlegs⟩ := legsV_legs hr
  have hN := L.n4
  obtain ⟨hf0, hf1⟩ := G.from' hr
  obtain ⟨o1, o2, o3⟩ := G.ofc hf0 hf1
  unfold s65 goesV
  rw [s55_eq N hr, bind_some', s69_eq o1 o2 hN, bind_some']
  cases ho : isOp (ofc t (rF t route)) at' with
  | false => rfl
  | true =>
    simp only [Bool.not_true, Bool.false_eq_true, if_false, s95_eq L G hr h0 h1, bind_some', Bool.true_and]
    cases ha : arr t ⟨at', at'⟩ route with
    | none => rfl
    | some s' =>
      have e : (((spn (some s')).span.low == 0) && (((spn (some s')).span.high == 0) && (((spn (some s')).some == false) && true))) = false := by
        simp [spn]
      simp only [e, Bool.false_eq_true, if_false, Option.isSome_some, if_true]
      have main := iter_list (f := s65_l15 N (calcOf t) route at') (S := List Leg) (fun _ i => i) route (by unfold big; omega) (fun pre l => pre ++ l = route)
        (fun pre l => cond ((mis t (ld t at' pre) l).all fun b => !b) (Sum.inl ()) (Sum.inr (1 : Int)))
        (fun s _ => by
          unfold s65_l15
          have : decide (((route.length : Nat) : Int) < (route.length : Int)) = false := by simp
          simp only [this, mis, List.all_nil, cond_true]
          rfl)
        (fun i x l pre hd hi hlt hck hI => by
          have hpi : pre.length = i := by
            have h1 := congrArg List.length hd
            have h2 := congrArg List.length hI
            simp at h1 h2; omega
          subst hpi
          unfold s65_l15
          simp only [hlt, decide_true, if_true, bind_some', hck, s70_eq G h0 h1 hI hl.2 hlegs, mis, List.all_cons]
          have em : decide (ld t at' pre + t.load > (sf t x).leave + (tr t x).late.low) = miss1 t (ld t at' pre) x := rfl
          rw [em]
          cases miss1 t (ld t at' pre) x with
          | true => right; rfl
          | false =>
            left
            exact ⟨pre ++ [x], by simp, by rw [List.append_assoc]; exact hI, by rw [ld_snoc]; rfl⟩)
        N (by omega) [] rfl
      have main' : iter (s65_l15 N (calcOf t) route at') N 0 = _ := main
      rw [main', bind_some']
      have e2 : ld t at' [] = at' := rfl
      rw [e2]
      cases (mis t at' route).all fun b => !b <;> rfl

/-! ## Goes -/
def askR (t : Table) (l : List Leg) (at' : Int) : Bool := isR t l && amid at' 0 2879
def goesR (t : Table) (l : List Leg) (at' : Int) : Int × Int := if V t && askR t l at' then (goesV t at' l, 0) else (0, askV t (askR t l at'))
theorem s64_eq {N : Nat} {t : Table} (L : Lens N t) (l : List Leg) (at' : Int) :
    s64 N t l at' = some (if V t then (if askR t l at' then (calcOf t, 0) else (noCalc, 31)) else (noCalc, 30)) := by
  unfold s64
  rw [s51_eq L (b := askR t l at') (fun G => by
    unfold s94 askR
    rw [s54_eq L G, bind_some']
    cases isR t l <;> rfl), bind_some']
theorem askR_iff {t : Table} {l : List Leg} {at' : Int} (h : askR t l at' = true) : (isR t l = true ∧ legsV t l = true) ∧ 0 ≤ at' ∧ at' ≤ 2879 := by
  simp only [askR, Bool.and_eq_true, amid_iff] at h
  have h1 := h.1
  simp only [isR, Bool.and_eq_true] at h1
  exact ⟨⟨h.1, h1.1⟩, h.2⟩
theorem s16_eq {N : Nat} {t : Table} (L : Lens N t) (l : List Leg) (at' : Int) : s16 N t l at' = some (goesR t l at') := by
  unfold s16 goesR askV
  rw [s64_eq L, bind_some']
  cases hv : V t with
  | false => rfl
  | true =>
    cases ha : askR t l at' with
    | false => rfl
    | true =>
      obtain ⟨⟨_, h2⟩, h3, h4⟩ := askR_iff ha
      have e : (!((0 : Int) == 0)) = false := rfl
      simp only [if_true, e, Bool.false_eq_true, if_false, s65_eq L (good_of hv) h2 h3 h4, bind_some', Bool.and_self]
theorem s66_eq {N : Nat} {t : Table} (L : Lens N t) (G : Good t) (l : List Leg) : s66 N t l = some (isR t l) := by
  unfold s66
  rw [s59_eq L G, bind_some']
  unfold isR
  cases legsV t l <;> rfl
/-- What the specification's calculation says. -/
theorem tim_goes {t : Table} (G : Good t) {l : List Leg} (hr : legsV t l = true) (at' : Int) (th : Span) (o : Bool) (ho : isOp (ofc t (rF t l)) at' = o) :
    (if (tim t o o (ready t ⟨at', at'⟩) th l).1 then (2, 0) else if (tim t o o (ready t ⟨at', at'⟩) th l).2.1 then (1, 0) else (0, 0)) = ((goesV t at' l, 0) : Int × Int) := by
  obtain ⟨_, hlegs⟩ := legsV_legs hr
  unfold goesV
  rw [tim_su, ho]
  cases o with
  | false => rw [tim_no]; rfl
  | true =>
    rw [tim_pe]
    have e : (ready t ⟨at', at'⟩).high - t.load = at' := by show at' + t.load - t.load = at'; omega
    rw [e]
    cases hm : (mis t at' l).all fun b => !b with
    | true =>
      have := sure_arr l ⟨at', at'⟩ (fun x hx => (G.leg (hlegs x hx)).1.2.1) (Int.le_refl _) hm
      simp [this]
    | false => cases (arr t ⟨at', at'⟩ l).isSome <;> simp
theorem s17_eq {N : Nat} {t : Table} (L : Lens N t) (l : List Leg) (at' : Int) : s17 N t l at' = some (goesR t l at') := by
  unfold s17 goesR askV
  rw [s15_eq L, bind_some']
  cases hv : V t with
  | false => rfl
  | true =>
    have G := good_of hv
    have e : (!((0 : Int) == 0)) = false := rfl
    simp only [if_true, e, Bool.false_eq_true, if_false, s66_eq L G, bind_some']
    cases ha : askR t l at' with
    | false =>
      unfold askR at ha
      cases hi : isR t l with
      | false => rfl
      | true =>
        rw [hi, Bool.true_and] at ha
        simp only [Bool.not_true, Bool.false_eq_true, if_false, s67_eq, bind_some', ha]
        rfl
    | true =>
      obtain ⟨⟨h1, h2⟩, h3, h4⟩ := askR_iff ha
      have hm : amid at' 0 2879 = true := amid_iff.2 ⟨h3, h4⟩
      simp only [h1, Bool.not_true, Bool.false_eq_true, if_false, s67_eq, hm, bind_some', s68_eq L G h2 h3 h4, Bool.and_self, if_true]
      rw [← tim_goes G h2 at' ⟨0, 0⟩ _ rfl]
      cases (tim t (isOp (ofc t (rF t l)) at') (isOp (ofc t (rF t l)) at') (ready t ⟨at', at'⟩) ⟨0, 0⟩ l).1 <;>
        cases (tim t (isOp (ofc t (rF t l)) at') (isOp (ofc t (rF t l)) at') (ready t ⟨at', at'⟩) ⟨0, 0⟩ l).2.1 <;> rfl

/-! ## Missed -/
def mi (t : Table) : Nat → Int → List Leg → List Int
  | _, _, [] => []
  | k, a, x :: l => (if miss1 t a x then [(k : Int)] else []) ++ mi t (k + 1) ((sg t x).arrive + (tr t x).late.high) l
def missedR (t : Table) (l : List Leg) (at' : Int) : List Int × Int :=
  if V t && askR t l at' then (if isOp (ofc t (rF t l)) at' then (mi t 0 at' l, 0) else ([], 4)) else ([], askV t (askR t l at'))
theorem ap_ok {α : Type} {eb : Nat} {xs ys : List α} (h : (2 * (xs.length + ys.length) + 1024) * eb ≤ 2 ^ 48) : ap eb xs ys = some (xs ++ ys) := if_pos h
theorem ap8 {xs : List Int} {y : Int} (h : xs.length ≤ 1000000) : ap 8 xs [y] = some (xs ++ [y]) := ap_ok (by simp only [List.length_cons, List.length_nil]; omega)
theorem sl_all {α : Type} (xs : List α) : sl xs 0 (xs.length : Int) = some xs := by
  unfold sl
  rw [if_pos (by omega)]
  simp
theorem mi_len {t : Table} : ∀ (l : List Leg) (k : Nat) (a : Int), (mi t k a l).length ≤ l.length := by
  intro l
  induction l with
  | nil => intro k a; exact Nat.le_refl _
  | cons x l ih =>
    intro k a
    unfold mi
    have := ih (k + 1) ((sg t x).arrive + (tr t x).late.high)
    split <;> simp <;> omega
theorem s18_eq {N : Nat} {t : Table} (L : Lens N t) (l : List Leg) (at' : Int) : s18 N t l at' = some (missedR t l at') := by
  unfold s18 missedR askV
  rw [s64_eq L, bind_some']
  cases hv : V t with
  | false => rfl
  | true =>
    cases ha : askR t l at' with
    | false => rfl
    | true =>
      have G := good_of hv
      obtain ⟨⟨_, hr⟩, h0, h1⟩ := askR_iff ha
      obtain ⟨hl, hlegs⟩ := legsV_legs hr
      have hN := L.n4
      obtain ⟨hf0, hf1⟩ := G.from' hr
      obtain ⟨o1, o2, o3⟩ := G.ofc hf0 hf1
      have e : (!((0 : Int) == 0)) = false := rfl
      simp only [if_true, e, Bool.false_eq_true, if_false, s55_eq N hr, bind_some', s69_eq o1 o2 hN, Bool.and_self]
      cases ho : isOp (ofc t (rF t l)) at' with
      | false => rfl
      | true =>
        simp only [Bool.not_true, Bool.false_eq_true, if_false]
        have main := iter_list (f := s18_l16 N l at' (calcOf t, 0)) (S := List Leg × List Int) (fun s i => (s.2, i)) l (by unfold big; omega) (fun s r => s.1 ++ r = l ∧ s.2.length ≤ s.1.length)
          (fun s r => s.2 ++ mi t s.1.length (ld t at' s.1) r)
          (fun s _ => by
            unfold s18_l16
            have : decide (((l.length : Nat) : Int) < (l.length : Int)) = false := by simp
            simp only [this, mi, List.append_nil]
            rfl)
          (fun i x r s hd hi hlt hck hI => by
            obtain ⟨pre, out⟩ := s
            obtain ⟨hI, hlen⟩ := hI
            have hI' : pre ++ x :: r = l := hI
            have hlen' : out.length ≤ pre.length := hlen
            have hpi : pre.length = i := by
              have h1 := congrArg List.length hd
              have h2 := congrArg List.length hI'
              simp at h1 h2; omega
            subst hpi
            left
            unfold s18_l16
            simp only [hlt, decide_true, if_true, bind_some', hck, s70_eq G h0 h1 hI' hl.2 hlegs, mi]
            cases hm : miss1 t (ld t at' pre) x with
            | true =>
              refine ⟨(pre ++ [x], out ++ [(pre.length : Int)]), ?_, ⟨by simp only [List.append_assoc]; exact hI', by simp; omega⟩, ?_⟩
              · simp only [if_true, ap8 (xs := out) (y := (pre.length : Int)) (by omega), bind_some']
              · simp only [ld_snoc, if_true, List.append_assoc, List.length_append, List.length_cons, List.length_nil]
            | false =>
              refine ⟨(pre ++ [x], out), ?_, ⟨by simp only [List.append_assoc]; exact hI', by simp; omega⟩, ?_⟩
              · simp only [Bool.false_eq_true, if_false, bind_some']
              · simp only [ld_snoc, Bool.false_eq_true, if_false, List.nil_append, List.length_append, List.length_cons, List.length_nil])
          N (by omega) ([], []) ⟨rfl, Nat.le_refl _⟩
        have main' : iter (s18_l16 N l at' (calcOf t, 0)) N ([], 0) = some (mi t 0 at' l) := main
        rw [main', bind_some', sl_all, bind_some', if_pos trivial]
theorem s19_eq {N : Nat} {t : Table} (L : Lens N t) (l : List Leg) (at' : Int) : s19 N t l at' = some (missedR t l at') := by
  unfold s19 missedR askV
  rw [s15_eq L, bind_some']
  cases hv : V t with
  | false => rfl
  | true =>
    have G := good_of hv
    have e : (!((0 : Int) == 0)) = false := rfl
    simp only [if_true, e, Bool.false_eq_true, if_false, s66_eq L G, bind_some']
    cases ha : askR t l at' with
    | false =>
      unfold askR at ha
      cases hi : isR t l with
      | false => rfl
      | true =>
        rw [hi, Bool.true_and] at ha
        simp only [Bool.not_true, Bool.false_eq_true, if_false, s67_eq, bind_some', ha]
        rfl
    | true =>
      obtain ⟨⟨h1', hr⟩, h0, h1⟩ := askR_iff ha
      have hm : amid at' 0 2879 = true := amid_iff.2 ⟨h0, h1⟩
      obtain ⟨hl, hlegs⟩ := legsV_legs hr
      have hN := L.n4
      have ga0 := G.a0
      have ga1 := G.a1
      obtain ⟨hf0, hf1⟩ := G.from' hr
      obtain ⟨o1, o2, o3⟩ := G.ofc hf0 hf1
      simp only [h1', Bool.not_true, Bool.false_eq_true, if_false, s67_eq, hm, bind_some', s59_eq L G, hr, if_true, s71_eq o1 o2 hN, open_at o3 h1, Bool.and_self]
      cases ho : isOp (ofc t (rF t l)) at' with
      | false => rfl
      | true =>
        simp only [Bool.not_true, Bool.false_eq_true, if_false, ck_ok (n := at' + t.load) (by omega), bind_some', if_true]
        have main := iter_list (f := s19_l33 N t l) (S := Nat × List Int × Int) (fun s i => (s.2.1, s.2.2 + t.load, i)) l (by unfold big; omega)
          (fun s r => (s.1 + r.length = l.length ∧ s.2.1.length ≤ s.1) ∧ (∀ x ∈ r, LegV t x) ∧ 0 ≤ s.2.2 ∧ s.2.2 ≤ 3000)
          (fun s r => s.2.1 ++ mi t s.1 s.2.2 r)
          (fun s _ => by
            unfold s19_l33
            have : decide (((l.length : Nat) : Int) < (l.length : Int)) = false := by simp
            simp only [this, mi, List.append_nil]
            rfl)
          (fun i x r s hd hi hlt hck hI => by
            obtain ⟨k, out, a⟩ := s
            obtain ⟨⟨i1, i2⟩, i3, i4, i5⟩ := hI
            have i4' : 0 ≤ a := i4
            have i5' : a ≤ 3000 := i5
            have i2' : out.length ≤ k := i2
            have hk : k = i := by
              have h1 := congrArg List.length hd
              simp at h1 i1; omega
            subst hk
            have hx := i3 x List.mem_cons_self
            obtain ⟨⟨a1, a2, a3⟩, ⟨a4, a5⟩, a6, a7⟩ := G.leg hx
            left
            unfold s19_l33
            simp only [hlt, decide_true, if_true, hi, bind_some', hck, hx.s72, hx.s73, hx.s74, ck_ok (n := (sf t x).leave + (tr t x).late.low) (by omega), ck_ok (n := (sg t x).arrive + (tr t x).late.high) (by omega),
              ck_ok (n := (sg t x).arrive + (tr t x).late.high + t.load) (by omega), mi]
            have em : decide (a + t.load > (sf t x).leave + (tr t x).late.low) = miss1 t a x := rfl
            rw [em]
            have hk4 : (k : Int) < l.length := hlt
            have b0 : 0 ≤ (sg t x).arrive + (tr t x).late.high ∧ (sg t x).arrive + (tr t x).late.high ≤ 3000 := by omega
            cases hms : miss1 t a x with
            | true =>
              refine ⟨(k + 1, out ++ [(k : Int)], (sg t x).arrive + (tr t x).late.high), ?_, ⟨⟨by simp at i1 ⊢; omega, by simp; omega⟩, fun y hy => i3 y (List.mem_cons_of_mem _ hy), b0⟩, ?_⟩
              · simp only [if_true, ap8 (xs := out) (y := (k : Int)) (by omega), bind_some']
              · simp only [if_true, List.append_assoc]
            | false =>
              refine ⟨(k + 1, out, (sg t x).arrive + (tr t x).late.high), ?_, ⟨⟨by simp at i1 ⊢; omega, by simp; omega⟩, fun y hy => i3 y (List.mem_cons_of_mem _ hy), b0⟩, ?_⟩
              · simp only [Bool.false_eq_true, if_false, bind_some']
              · simp only [Bool.false_eq_true, if_false, List.nil_append])
          N (by omega) (0, [], at') ⟨⟨by simp, Nat.le_refl _⟩, hlegs, h0, by show at' ≤ 3000; omega⟩
        have main' : iter (s19_l33 N t l) N ([], at' + t.load, 0) = some (mi t 0 at' l) := main
        rw [main', bind_some']

/-! ## There -/
def whenV (t : Table) (l : List Leg) (s : Span) : Span := ⟨openR (ofc t (rT t l)) (s.low + t.load), openR (ofc t (rT t l)) (s.high + t.load)⟩
def thereR (t : Table) (l : List Leg) (at' : Int) : Span × Int :=
  if V t && askR t l at' then (if goesV t at' l == 0 then (⟨0, 0⟩, 4) else (whenV t l (spn (arr t ⟨at', at'⟩ l)).span, 0)) else (⟨0, 0⟩, askV t (askR t l at'))
theorem s75_eq {N : Nat} {t : Table} (L : Lens N t) (G : Good t) {l : List Leg} (hr : legsV t l = true) {at' : Int} (h0 : 0 ≤ at') (h1 : at' ≤ 2879) {s : Span} (hs : arr t ⟨at', at'⟩ l = some s) :
    s75 N (calcOf t) l at' = some (whenV t l s) := by
  obtain ⟨hl, hlegs⟩ := legsV_legs hr
  have hN := L.n4
  have ga0 := G.a0
  have ga1 := G.a1
  obtain ⟨ht0, ht1⟩ := G.to' hr
  obtain ⟨o1, o2, o3⟩ := G.ofc ht0 ht1
  obtain ⟨b1, b2, b3, b4⟩ := arr_in G l _ s hlegs hs (by show 0 ≤ at' ∧ at' ≤ 3000 ∧ 0 ≤ at' ∧ at' ≤ 3000; omega)
  unfold s75
  have ct : (calcOf t).t = t := rfl
  rw [s95_eq L G hr h0 h1, hs, bind_some']
  simp only [spn, s56_eq N hr, bind_some', ct, ck_ok (n := s.low + t.load) (by omega), ck_ok (n := s.high + t.load) (by omega), s98_eq o1 o2 o3 hN (m := s.low + t.load) (by omega) (by omega), s98_eq o1 o2 o3 hN (m := s.high + t.load) (by omega) (by omega)]
  rfl
theorem goesV_arr {t : Table} {l : List Leg} {at' : Int} (h : (goesV t at' l == 0) = false) : isOp (ofc t (rF t l)) at' = true ∧ ∃ s, arr t ⟨at', at'⟩ l = some s := by
  unfold goesV at h
  cases ho : isOp (ofc t (rF t l)) at' with
  | false => rw [ho] at h; simp at h
  | true =>
    cases ha : arr t ⟨at', at'⟩ l with
    | none => rw [ho, ha] at h; simp at h
    | some s => exact ⟨rfl, s, rfl⟩
theorem s21_eq {N : Nat} {t : Table} (L : Lens N t) (l : List Leg) (at' : Int) : s21 N t l at' = some (thereR t l at') := by
  unfold s21 thereR askV
  rw [s64_eq L, bind_some']
  cases hv : V t with
  | false => rfl
  | true =>
    cases ha : askR t l at' with
    | false => rfl
    | true =>
      have G := good_of hv
      obtain ⟨⟨_, hr⟩, h0, h1⟩ := askR_iff ha
      have e : (!((0 : Int) == 0)) = false := rfl
      simp only [if_true, e, Bool.false_eq_true, if_false, s65_eq L G hr h0 h1, bind_some', Bool.and_self]
      cases hg : goesV t at' l == 0 with
      | true => rfl
      | false =>
        obtain ⟨_, s, hs⟩ := goesV_arr hg
        simp only [Bool.false_eq_true, if_false, s75_eq L G hr h0 h1 hs, bind_some', hs, spn]
theorem s76_eq {N : Nat} {t : Table} (L : Lens N t) (G : Good t) {l : List Leg} (hr : legsV t l = true) {at' : Int} (h0 : 0 ≤ at') (h1 : at' ≤ 2879) {s : Span} (hs : arr t ⟨at', at'⟩ l = some s) :
    s76 N t l at' = some (whenV t l s) := by
  obtain ⟨hl, hlegs⟩ := legsV_legs hr
  have hN := L.n4
  have ga0 := G.a0
  have ga1 := G.a1
  obtain ⟨ht0, ht1⟩ := G.to' hr
  obtain ⟨o1, o2, o3⟩ := G.ofc ht0 ht1
  obtain ⟨b1, b2, b3, b4⟩ := arr_in G l _ s hlegs hs (by show 0 ≤ at' ∧ at' ≤ 3000 ∧ 0 ≤ at' ∧ at' ≤ 3000; omega)
  unfold s76
  rw [s68_eq L G hr h0 h1, bind_some']
  have eth := tim_th l (isOp (ofc t (rF t l)) at') (isOp (ofc t (rF t l)) at') ⟨at', at'⟩ s ⟨0, 0⟩ hs (fun h => by rw [h] at hl; simp at hl)
  simp only [eth, s59_eq L G, hr, if_true, bind_some', ck_ok (n := s.low + t.load) (by omega), ck_ok (n := s.high + t.load) (by omega), s71_eq o1 o2 hN, s46]
  rfl
theorem s22_eq {N : Nat} {t : Table} (L : Lens N t) (l : List Leg) (at' : Int) : s22 N t l at' = some (thereR t l at') := by
  unfold s22 thereR
  rw [s17_eq L, bind_some']
  unfold goesR askV
  cases hv : V t with
  | false => rfl
  | true =>
    cases ha : askR t l at' with
    | false => rfl
    | true =>
      have G := good_of hv
      obtain ⟨⟨_, hr⟩, h0, h1⟩ := askR_iff ha
      have e : (!((0 : Int) == 0)) = false := rfl
      simp only [if_true, e, Bool.false_eq_true, if_false, Bool.and_self]
      cases hg : goesV t at' l == 0 with
      | true => rfl
      | false =>
        obtain ⟨_, s, hs⟩ := goesV_arr hg
        simp only [Bool.false_eq_true, if_false, s76_eq L G hr h0 h1 hs, bind_some', hs, spn]
end Go.Abs.Tr
