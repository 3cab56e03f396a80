/- The plain law of TrainHarder: what is easier. Conditions: none. -/
import Derived.Test.YtdlofkamkiojlaaDoorXNg
import Derived.Test.YtdlofkamkiojlaaDoorXLg
import Derived.Test.YtdlofkamkiojlaaDoorXHa
import Derived.Test.YtdlofkamkiojlaaDoorXGja
namespace Go.Abs.Tr
open Go Go.Abs
set_option linter.unusedSimpArgs false
set_option linter.unusedVariables false

/-- By the first timetable all goes as well, at least, as by the second one. -/
structure Easy (y t : Table) : Prop where
  no : y.offices.length = t.offices.length
  nt : y.trains.length = t.trains.length
  st : ∀ x : Leg, (tr y x).stops = (tr t x).stops
  ll : ∀ x : Leg, (tr t x).late.low ≤ (tr y x).late.low
  lh : ∀ x : Leg, (tr y x).late.high ≤ (tr t x).late.high
  ld : y.load ≤ t.load
  op : ∀ (s m : Int), isOp (ofc t s) m = true → isOp (ofc y s) m = true
  opR : ∀ (s m : Int), openR (ofc y s) m ≤ openR (ofc t s) m
section easy
variable {y t : Table} (E : Easy y t)
include E
theorem Easy.e_sf (x : Leg) : Go.Abs.Tr.sf y x = Go.Abs.Tr.sf t x := by unfold Go.Abs.Tr.sf; rw [E.st]
theorem Easy.e_sg (x : Leg) : Go.Abs.Tr.sg y x = Go.Abs.Tr.sg t x := by unfold Go.Abs.Tr.sg; rw [E.st]
theorem Easy.legV (x : Leg) : LegV y x ↔ LegV t x :=
  ⟨fun h => ⟨h.t0, by rw [← E.nt]; exact h.t1, h.f0, h.f1, by rw [← E.st]; exact h.f2⟩, fun h => ⟨h.t0, by rw [E.nt]; exact h.t1, h.f0, h.f1, by rw [E.st]; exact h.f2⟩⟩
theorem Easy.chain : ∀ (l pre : List Leg), chainV y pre l = chainV t pre l := by
  intro l
  induction l with
  | nil => intro pre; rfl
  | cons x l ih =>
    intro pre
    simp only [chainV, ih, linkV, E.e_sf, E.e_sg]
    have : decide (LegV y x) = decide (LegV t x) := by
      rw [decide_eq_decide]; exact E.legV x
    rw [this]
theorem Easy.legs (l : List Leg) : legsV y l = legsV t l := by unfold legsV; rw [E.chain]
theorem Easy.e_rF (l : List Leg) : Go.Abs.Tr.rF y l = Go.Abs.Tr.rF t l := by unfold Go.Abs.Tr.rF; rw [E.e_sf]
theorem Easy.e_rT (l : List Leg) : Go.Abs.Tr.rT y l = Go.Abs.Tr.rT t l := by unfold Go.Abs.Tr.rT; rw [E.e_sg]
theorem Easy.e_isR (l : List Leg) : Go.Abs.Tr.isR y l = Go.Abs.Tr.isR t l := by unfold Go.Abs.Tr.isR; rw [E.legs, E.e_rF, E.e_rT]
theorem Easy.e_mis : ∀ (l : List Leg) (a a' : Int), a' ≤ a → ((Go.Abs.Tr.mis t a l).all fun b => !b) = true → ((Go.Abs.Tr.mis y a' l).all fun b => !b) = true := by
  intro l
  induction l with
  | nil => intro a a' _ _; rfl
  | cons x l ih =>
    intro a a' h hm
    have h1 := E.ll x
    have h2 := E.lh x
    have h3 := E.ld
    unfold Go.Abs.Tr.mis at hm ⊢
    simp only [List.all_cons, Bool.and_eq_true, Bool.not_eq_true', decide_eq_false_iff_not] at hm ⊢
    refine ⟨by rw [E.e_sf]; omega, ?_⟩
    exact ih _ _ (by rw [E.e_sg]; omega) hm.2
theorem Easy.e_rts {a b : Int} {r : List Leg} (h : r ∈ Go.Abs.Tr.rts t a b) : r ∈ Go.Abs.Tr.rts y a b := by
  obtain ⟨h1, h2, h3⟩ := rts_legs h
  have := mem_rts (t := y) (r := r) (by rw [E.legs]; exact h1)
  rwa [E.e_rF, E.e_rT, h2, h3] at this
end easy
theorem goes2m {t : Table} (G : Good t) {l : List Leg} (hr : legsV t l = true) {u : Int} : goesV t u l = 2 ↔ isOp (ofc t (rF t l)) u = true ∧ ((mis t u l).all fun b => !b) = true := by
  obtain ⟨_, hlegs⟩ := legsV_legs hr
  unfold goesV
  cases ho : isOp (ofc t (rF t l)) u with
  | false => simp
  | true =>
    cases hm : (mis t u l).all fun b => !b with
    | true =>
      have := sure_arr l ⟨u, u⟩ (fun x hx => (G.leg (hlegs x hx)).1.2.1) (Int.le_refl _) hm
      simp [this]
    | false => cases (arr t ⟨u, u⟩ l).isSome <;> simp
theorem Easy.goes {y t : Table} (E : Easy y t) (Gy : Good y) (Gt : Good t) {l : List Leg} (hr : legsV t l = true) {u : Int} (h : goesV t u l = 2) : goesV y u l = 2 := by
  obtain ⟨h1, h2⟩ := (goes2m Gt hr).1 h
  exact (goes2m Gy (by rw [E.legs]; exact hr)).2 ⟨by rw [E.e_rF]; exact E.op _ _ h1, E.e_mis l u u (Int.le_refl _) h2⟩
theorem Easy.high {y t : Table} (E : Easy y t) (Gy : Good y) (Gt : Good t) {l : List Leg} (hr : legsV t l = true) {u : Int} (h : goesV t u l = 2) : (whn y u l).high ≤ (whn t u l).high := by
  obtain ⟨_, p, hp⟩ := goesV_arr (two_ne h)
  obtain ⟨_, q, hq⟩ := goesV_arr (two_ne (E.goes Gy Gt hr h))
  have h1 := arr_high l _ _ hp
  have h2 := arr_high l _ _ hq
  obtain ⟨z, hz⟩ : ∃ z, l.getLast? = some z := by
    cases hl : l.getLast? with
    | none => rw [List.getLast?_eq_none_iff.1 hl] at hr; simp [legsV, amid] at hr
    | some z => exact ⟨z, rfl⟩
  rw [hz] at h1 h2
  have h1' : p.high = (sg t z).arrive + (tr t z).late.high := h1
  have h2' : q.high = (sg y z).arrive + (tr y z).late.high := h2
  rw [E.e_sg] at h2'
  have h3 := E.lh z
  have h4 := E.ld
  obtain ⟨ht0, ht1⟩ := Gt.to' hr
  obtain ⟨_, _, o3⟩ := Gt.ofc ht0 ht1
  unfold whn
  rw [hp, hq]
  show openR (ofc y (rT y l)) (q.high + y.load) ≤ openR (ofc t (rT t l)) (p.high + t.load)
  rw [E.e_rT]
  exact Int.le_trans (E.opR _ _) (open_mono _ 0 _ _ o3 (by omega))
theorem Easy.best {y t : Table} (E : Easy y t) (Gy : Good y) (Gt : Good t) {a b u : Int} (h : (bestV t a b u).til < 2880) : (bestV y a b u).til ≤ (bestV t a b u).til := by
  obtain ⟨q1, q2, q3⟩ := best_is h
  obtain ⟨q4, _, _⟩ := rts_legs q1
  have h1 := (best_min (E.e_rts q1) (E.goes Gy Gt q4 q2)).1
  have h2 := E.high Gy Gt q4 q2
  omega
theorem Easy.e_arr {y t : Table} (E : Easy y t) (hl : ∀ x : Leg, (tr y x).late = (tr t x).late) : ∀ (l : List Leg) (s s' : Span), s'.low + y.load ≤ s.low + t.load → (Go.Abs.Tr.arr t s l).isSome = true → (Go.Abs.Tr.arr y s' l).isSome = true := by
  intro l
  induction l with
  | nil => intro s s' _ _; rfl
  | cons x l ih =>
    intro s s' h hs
    unfold Go.Abs.Tr.arr at hs ⊢
    rw [E.e_sf, E.e_sg, hl x]
    have h0 := E.ld
    have h1 : mx (tr t x).late.low (s'.low + y.load - (sf t x).leave) ≤ mx (tr t x).late.low (s.low + t.load - (sf t x).leave) := by
      have := mx_ge (tr t x).late.low (s.low + t.load - (sf t x).leave)
      exact mx_le this.1 (by omega)
    split at hs
    · cases hs
    · rw [if_neg (by omega)]
      exact ih _ _ (by show (sg t x).arrive + _ + y.load ≤ (sg t x).arrive + _ + t.load; omega) hs
theorem Easy.goes_ge {y t : Table} (E : Easy y t) (hl : ∀ x : Leg, (tr y x).late = (tr t x).late) (u : Int) (l : List Leg) : goesV t u l ≤ goesV y u l := by
  unfold goesV
  rw [E.e_rF]
  have h0 := E.ld
  cases ho : isOp (ofc t (rF t l)) u with
  | false => simp only [Bool.false_and, Bool.false_eq_true, if_false]; split <;> (try split) <;> omega
  | true =>
    rw [E.op _ _ ho]
    cases ha : (Go.Abs.Tr.arr t ⟨u, u⟩ l).isSome with
    | false => simp only [Bool.true_and, Bool.false_eq_true, if_false]; split <;> (try split) <;> omega
    | true =>
      rw [E.e_arr hl l ⟨u, u⟩ ⟨u, u⟩ (by show u + y.load ≤ u + t.load; omega) ha]
      cases hm : (Go.Abs.Tr.mis t u l).all fun b => !b with
      | true => rw [E.e_mis l u u (Int.le_refl _) hm]; simp
      | false => cases ((Go.Abs.Tr.mis y u l).all fun b => !b) <;> simp
theorem Easy.refl (t : Table) : Easy t t := ⟨rfl, rfl, fun _ => rfl, fun _ => Int.le_refl _, fun _ => Int.le_refl _, Int.le_refl _, fun _ _ h => h, fun _ _ => Int.le_refl _⟩

/-! ## Trains that can be late by more -/
theorem tr_set {t : Table} {k : Nat} {x' : Train} (hk : k < t.trains.length) (x : Leg) : tr ⟨t.offices, t.trains.set k x', t.load⟩ x = if x.train.toNat = k then x' else tr t x := by
  unfold tr
  simp only [List.getElem?_set]
  by_cases h : k = x.train.toNat
  · rw [if_pos h, if_pos hk, if_pos h.symm]; rfl
  · rw [if_neg h, if_neg (fun e => h e.symm)]
theorem harder_x {t : Table} (hv : V t = true) {k : Nat} (hk : k < t.trains.length) {s : Span} (h0 : 0 ≤ s.low) (h1 : s.low ≤ t.trains[k].late.low) (h2 : t.trains[k].late.high ≤ s.high) (h3 : s.high ≤ 90) :
    V ⟨t.offices, t.trains.set k ⟨t.trains[k].stops, s⟩, t.load⟩ = true ∧ Easy t ⟨t.offices, t.trains.set k ⟨t.trains[k].stops, s⟩, t.load⟩ := by
  have G := good_of hv
  have gx := G.ts _ (List.getElem_mem hk)
  constructor
  · simp only [V, Bool.and_eq_true, List.all_eq_true, List.length_set] at hv ⊢
    refine ⟨hv.1, fun z hz => ?_⟩
    rcases List.mem_or_eq_of_mem_set hz with h | h
    · exact hv.2 z h
    · have := hv.2 _ (List.getElem_mem hk)
      subst h
      simp only [trainV, Bool.and_eq_true] at this ⊢
      have l1 := gx.l1
      exact ⟨⟨this.1.1, legal_iff.2 ⟨⟨h0, by omega⟩, h3⟩⟩, this.2⟩
  · have key : ∀ x : Leg, x.train.toNat = k → tr t x = t.trains[k] := fun x hx => by
      unfold tr
      rw [hx, List.getElem?_eq_getElem hk]; rfl
    refine ⟨rfl, by simp, fun x => ?_, fun x => ?_, fun x => ?_, Int.le_refl _, fun _ _ h => h, fun _ _ => Int.le_refl _⟩ <;> rw [tr_set hk] <;> split
    · next h => rw [key x h]
    · rfl
    · next h => rw [key x h]; exact h1
    · exact Int.le_refl _
    · next h => rw [key x h]; exact h2
    · exact Int.le_refl _

/-! ## An office that is open until later -/
theorem ext_ok : ∀ (l : List Span) (f : Int) (s : Span) (h : Int), l.getLast? = some s → s.high ≤ h → h ≤ 2879 → officeV f l = true →
    officeV f (l.set (l.length - 1) ⟨s.low, h⟩) = true ∧ (∀ m, isOp l m = true → isOp (l.set (l.length - 1) ⟨s.low, h⟩) m = true) ∧ ∀ m, openR (l.set (l.length - 1) ⟨s.low, h⟩) m ≤ openR l m := by
  intro l
  induction l with
  | nil => intro f s h e; cases e
  | cons x l ih =>
    intro f s h e h1 h2 hv
    cases l with
    | nil =>
      simp only [List.getLast?_singleton, Option.some.injEq] at e
      subst e
      have hv' := hv
      simp only [officeV, Bool.and_true, legal_iff] at hv'
      refine ⟨?_, fun m hm => ?_, fun m => ?_⟩
      · simp only [List.length_cons, List.length_nil, List.set_cons_zero, officeV, Bool.and_true, legal_iff, Nat.zero_add, Nat.sub_self]
        omega
      · simp only [List.length_cons, List.length_nil, List.set_cons_zero, isOp, List.any_cons, List.any_nil, Bool.or_false, amid_iff, Nat.zero_add, Nat.sub_self] at hm ⊢
        omega
      · simp only [List.length_cons, List.length_nil, List.set_cons_zero, Nat.zero_add, Nat.sub_self]
        rw [openR_cons, openR_cons]
        have e1 : openR [] m = 2880 := rfl
        rw [e1]
        by_cases h3 : m ≤ x.high
        · rw [if_pos h3, if_pos (by show m ≤ h; omega)]; exact Int.le_refl _
        · rw [if_neg h3]
          split
          · next h4 =>
            have h4' : m ≤ h := h4
            exact mx_le (by omega) (by show x.low ≤ 2880; omega)
          · exact Int.le_refl _
    | cons z l =>
      have e' : (z :: l).getLast? = some s := by rw [List.getLast?_cons_cons] at e; exact e
      simp only [officeV, Bool.and_eq_true] at hv
      obtain ⟨a, b, c⟩ := ih _ s h e' h1 h2 (by simp only [officeV, Bool.and_eq_true]; exact hv.2)
      have el : (x :: z :: l).set ((x :: z :: l).length - 1) ⟨s.low, h⟩ = x :: (z :: l).set ((z :: l).length - 1) ⟨s.low, h⟩ := by
        simp only [List.length_cons, Nat.add_sub_cancel]
        rfl
      rw [el]
      refine ⟨?_, fun m hm => ?_, fun m => ?_⟩
      · simp only [officeV, Bool.and_eq_true]
        exact ⟨hv.1, a⟩
      · unfold isOp at hm ⊢
        rw [List.any_cons] at hm ⊢
        rw [Bool.or_eq_true] at hm ⊢
        rcases hm with hm | hm
        · exact .inl hm
        · exact .inr (b m hm)
      · rw [openR_cons, openR_cons]
        split
        · exact Int.le_refl _
        · exact c m
theorem ofc_set {t : Table} {k : Nat} {l' : List Span} (hk : k < t.offices.length) (s : Int) : ofc ⟨t.offices.set k l', t.trains, t.load⟩ s = if s.toNat = k then l' else ofc t s := by
  unfold ofc
  simp only [List.getElem?_set]
  by_cases h : k = s.toNat
  · rw [if_pos h, if_pos hk, if_pos h.symm]; rfl
  · rw [if_neg h, if_neg (fun e => h e.symm)]
theorem easier_o {t : Table} (hv : V t = true) {k : Nat} (hk : k < t.offices.length) {l' : List Span} (hlen : l'.length = t.offices[k].length) (hov : officeV 0 l' = true) (hop : ∀ m, isOp t.offices[k] m = true → isOp l' m = true) (hoR : ∀ m, openR l' m ≤ openR t.offices[k] m) :
    V ⟨t.offices.set k l', t.trains, t.load⟩ = true ∧ Easy ⟨t.offices.set k l', t.trains, t.load⟩ t := by
  constructor
  · simp only [V, Bool.and_eq_true, List.all_eq_true, List.length_set] at hv ⊢
    refine ⟨⟨hv.1.1, fun z hz => ?_⟩, hv.2⟩
    rcases List.mem_or_eq_of_mem_set hz with h | h
    · exact hv.1.2 z h
    · have := hv.1.2 _ (List.getElem_mem hk)
      subst h
      exact ⟨by rw [hlen]; exact this.1, hov⟩
  · have key : ∀ s : Int, s.toNat = k → ofc t s = t.offices[k] := fun s hs => by
      unfold ofc
      rw [hs, List.getElem?_eq_getElem hk]; rfl
    refine ⟨by simp, rfl, fun _ => rfl, fun _ => Int.le_refl _, fun _ => Int.le_refl _, Int.le_refl _, fun s m h => ?_, fun s m => ?_⟩ <;> rw [ofc_set hk] <;> split
    · next e => rw [key s e] at h; exact hop m h
    · exact h
    · next e => rw [key s e]; exact hoR m
    · exact Int.le_refl _
theorem easier_l {t : Table} (hv : V t = true) {d : Int} (h0 : 0 ≤ d) (h1 : d ≤ t.load) : V ⟨t.offices, t.trains, d⟩ = true ∧ Easy ⟨t.offices, t.trains, d⟩ t := by
  have G := good_of hv
  have a1 := G.a1
  constructor
  · simp only [V, Bool.and_eq_true] at hv ⊢
    exact ⟨⟨⟨hv.1.1.1, amid_iff.2 (by omega)⟩, hv.1.2⟩, hv.2⟩
  · exact ⟨rfl, rfl, fun _ => rfl, fun _ => Int.le_refl _, fun _ => Int.le_refl _, h1, fun _ _ h => h, fun _ _ => Int.le_refl _⟩
end Go.Abs.Tr
