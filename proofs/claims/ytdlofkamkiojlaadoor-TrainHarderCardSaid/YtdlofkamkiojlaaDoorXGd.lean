/- The walk of 'opened': the map of legs by the station where they begin. Conditions: at most a hundred trains, each with at most a hundred stops. -/
import Derived.Test.YtdlofkamkiojlaaDoorXOq
import Derived.Test.YtdlofkamkiojlaaDoorXGa
set_option maxRecDepth 100000
set_option maxHeartbeats 4000000
set_option linter.unusedVariables false
namespace Go.Abs.Tr
open Go Go.Abs Go.Proofs

def cells0 : List AV := [.list 0 [] .full, .list 0 [] .full, .int .i64 0, .nilmap]
def cells1 (t : Table) : List AV := [lst eOffice t.offices .unk, lst eTrain t.trains .unk, .int .i64 t.load, .map 1]
def heapO (m : List (Int × List Leg)) : AH :=
  { n := 2 + m.length, g := fun i => if i = 0 then .cells cells0 else if i = 1 then .map (entriesFrom 2 m) else if i < 2 + m.length then .own else .gone }
def midLegs (k : Nat) (x : Train) (i : Nat) : List (Int × Leg) := ((x.stops.zipIdx.drop i).map fun p => (stopLegs k p.2 x.stops.length).map fun l => (p.1.station, l)).flatten
def outLegs (t : Table) (k : Nat) : List (Int × Leg) := ((t.trains.zipIdx.drop k).map fun p => trainLegs p.2 p.1).flatten
def inLegs (k i j n : Nat) (s : Int) : List (Int × Leg) := (List.range' j (n - j)).map fun (j : Nat) => (s, ⟨(k : Int), (i : Int), (j : Int)⟩)
def puts (m : List (Int × List Leg)) (l : List (Int × Leg)) : List (Int × List Leg) := l.foldl (fun m p => putLeg p.1 p.2 m) m
theorem out_cons {t : Table} {k : Nat} {x : Train} (h : t.trains[k]? = some x) : outLegs t k = trainLegs k x ++ outLegs t (k + 1) := by
  have hlt := (List.getElem?_eq_some_iff.1 h).1
  have hx := (List.getElem?_eq_some_iff.1 h).2
  unfold outLegs
  rw [List.drop_eq_getElem_cons (by simpa using hlt)]
  simp [hx]
theorem mid_cons {k : Nat} {x : Train} {i : Nat} {s : Stop} (h : x.stops[i]? = some s) : midLegs k x i = inLegs k i (i + 1) x.stops.length s.station ++ midLegs k x (i + 1) := by
  have hlt := (List.getElem?_eq_some_iff.1 h).1
  have hx := (List.getElem?_eq_some_iff.1 h).2
  unfold midLegs
  rw [List.drop_eq_getElem_cons (by simpa using hlt)]
  simp [hx, stopLegs, inLegs, Function.comp_def]
theorem in_cons {k i j n : Nat} {s : Int} (h : j < n) : inLegs k i j n s = (s, ⟨(k : Int), (i : Int), (j : Int)⟩) :: inLegs k i (j + 1) n s := by
  unfold inLegs
  rw [show n - j = (n - (j + 1)) + 1 by omega, List.range'_succ]
  rfl
theorem puts_app (m : List (Int × List Leg)) (a b : List (Int × Leg)) : puts m (a ++ b) = puts (puts m a) b := List.foldl_append ..

/-- What the lists of the map are while it is made. -/
def MapOk (c : Nat) (m : List (Int × List Leg)) : Prop := ∀ p ∈ m, 0 < p.2.length ∧ p.2.length ≤ c
theorem MapOk.put {c : Nat} {m : List (Int × List Leg)} (h : MapOk c m) (k : Int) (x : Leg) : MapOk (c + 1) (putLeg k x m) := by
  induction m with
  | nil => intro p hp; simp [putLeg] at hp; subst hp; simp
  | cons q m ih =>
    obtain ⟨a, l⟩ := q
    have h0 := h _ (List.mem_cons_self ..)
    have ih := ih fun p hp => h p (List.mem_cons_of_mem _ hp)
    intro p hp
    unfold putLeg at hp
    split at hp
    · rcases List.mem_cons.1 hp with rfl | hp
      · simp at h0 ⊢; omega
      · have := h p (List.mem_cons_of_mem _ hp); omega
    · rcases List.mem_cons.1 hp with rfl | hp
      · simp at h0 ⊢; omega
      · exact ih p hp
theorem MapOk.mono {c c' : Nat} {m : List (Int × List Leg)} (h : MapOk c m) (hc : c ≤ c') : MapOk c' m := fun p hp => by have := h p hp; omega

theorem entries_get {m : List (Int × List Leg)} {q j : Nat} {p : AV × AV} (h : (entriesFrom q m)[j]? = some p) : ∃ a l, m[j]? = some (a, l) ∧ p = (.int .i64 a, lst eLeg l (.tok (q + j))) := by
  induction m generalizing q j with
  | nil => simp [entriesFrom] at h
  | cons r m ih =>
    obtain ⟨a, l⟩ := r
    cases j with
    | zero => simp [entriesFrom] at h; exact ⟨a, l, rfl, by rw [← h]; rfl⟩
    | succ j =>
      obtain ⟨a', l', h1, h2⟩ := ih (q := q + 1) (j := j) (by simpa [entriesFrom] using h)
      exact ⟨a', l', by simpa using h1, by rw [h2, show q + 1 + j = q + (j + 1) by omega]⟩

/-- Numbers below stay. -/
def lowR (n : Nat) (i : Nat) : Option Nat := if i < n then some i else none
theorem lowR_lt {n i : Nat} (h : i < n) : lowR n i = some i := if_pos h
theorem lowR_some {n i j : Nat} (h : lowR n i = some j) : i = j ∧ i < n := by
  unfold lowR at h
  split at h
  · rename_i hi; injection h with h; exact ⟨h, hi⟩
  · cases h
theorem rnLegs (ρ : Nat → Option Nat) (l : List Leg) {i j : Nat} (h : ρ i = some j) : Rn ρ (lst eLeg l (.tok j)) (lst eLeg l (.tok i)) := by
  refine .list rfl (fun k a a' h1 h2 => ?_) (.inr (.inr ⟨i, j, rfl, rfl, h⟩))
  rw [h1] at h2; injection h2 with h2; subst h2
  obtain ⟨b, _, hb⟩ := List.mem_flatMap.1 (List.mem_of_getElem? h1)
  exact .pure (pLeg b _ hb)
theorem rn0 (ρ : Nat → Option Nat) : RnO ρ (.cells cells0) (.cells cells0) :=
  PureO.rn (.cells (pCons (.list pNil pFull) (pCons (.list pNil pFull) (pCons (.int _ _) (pCons .nilmap pNil)))))
theorem rnT (ρ : Nat → Option Nat) (t : Table) {j : Nat} (h : ρ 1 = some j) : Rn ρ (.ro [lst eOffice t.offices .unk, lst eTrain t.trains .unk, .int .i64 t.load, .map j]) (.ro (cells1 t)) := by
  have hp := pTable t
  cases hp with
  | agg hp =>
    refine .ro rfl fun i a a' h1 h2 => ?_
    rcases i with _ | _ | _ | _ | i
    · simp [cells1] at h1 h2; subst h1; subst h2; exact .pure (hp _ (by simp))
    · simp [cells1] at h1 h2; subst h1; subst h2; exact .pure (hp _ (by simp))
    · simp [cells1] at h1 h2; subst h1; subst h2; exact .pure (hp _ (by simp))
    · simp [cells1] at h1 h2; subst h1; subst h2; exact .map h
    · simp at h1
theorem rnHeap {n : Nat} {m : List (Int × List Leg)} (hn : 2 + m.length ≤ n) (i : Nat) (h : i < 2 + m.length) : RnO (lowR n) ((heapO m).g i) ((heapO m).g i) := by
  show RnO _ (if i = 0 then AObj.cells cells0 else if i = 1 then .map (entriesFrom 2 m) else if i < 2 + m.length then .own else .gone) (if i = 0 then AObj.cells cells0 else if i = 1 then .map (entriesFrom 2 m) else if i < 2 + m.length then .own else .gone)
  by_cases h0 : i = 0
  · rw [if_pos h0]; exact rn0 _
  · rw [if_neg h0]
    by_cases h1 : i = 1
    · rw [if_pos h1]
      refine .map rfl fun j p p' g1 g2 => ?_
      rw [g1] at g2; injection g2 with g2; subst g2
      obtain ⟨a, l, hm, rfl⟩ := entries_get g1
      have := (List.getElem?_eq_some_iff.1 hm).1
      exact ⟨.pure (.int _ _), rnLegs _ l (lowR_lt (by omega))⟩
    · rw [if_neg h1, if_pos h]; exact .own

/-- A variable that was just set is only read from here on. -/
theorem sub_top {C : Ctx} {F : Fr} {e : Env} {H : AH} {L : List (Nat × AV)} {m : List (Int × List Leg)} {t : Nat} {cs : List AV} (hm : F.m = 0) (hn : H.n = 2 + m.length + 1) (hg : ∀ i, i < 2 + m.length → H.g i = (heapO m).g i) (hX : H.g (2 + m.length) = .cells cs)
    (het : e t = some (.ptr (2 + m.length) 0)) (hp : ∀ a ∈ cs, Pure a) (hE : EnvRn (lowR (2 + m.length)) e L) : Sub C F (Env.ofList ((t, .ro cs) :: L)) (heapO m) e H := by
  obtain ⟨e2, he2⟩ : ∃ e2 : Env, ∀ i, e2 i = if i = t then some (.ro cs) else e i := ⟨_, fun _ => rfl⟩
  refine Sub.trans (e0 := e2) (H0 := H.set (2 + m.length) .gone) (Sub.freeze (fun i => decide (i = 2 + m.length)) (fun i hi => absurd hi (by omega)) (fun i v hv => ?_) rfl (fun i => ?_))
    (Sub.rename (lowR (2 + m.length)) (by rw [hm]; exact Nat.zero_le _) (fun i hi => absurd hi (by omega)) (fun i j hij => ?_) (fun i i' j h h' => ?_) (fun i v hv => ?_))
  · rw [he2] at hv
    by_cases hi : i = t
    · rw [if_pos hi] at hv
      injection hv with hv
      subst hv; subst hi
      refine ⟨_, het, .ptr (k := cs.length) (cs := cs) (by simp) hX (by omega) rfl fun j a a' h1 h2 => ?_⟩
      simp at h1
      rw [h1] at h2; injection h2 with h2; subst h2; exact .refl _
    · rw [if_neg hi] at hv
      exact ⟨v, hv, .refl _⟩
  · constructor
    · intro hi
      have : i = 2 + m.length := by simpa using hi
      simp [AH.set, this]
    · intro hi
      have : ¬ i = 2 + m.length := by simpa using hi
      left
      simp [AH.set, this]
  · obtain ⟨rfl, hi⟩ := lowR_some hij
    refine ⟨hi, ?_⟩
    have : (H.set (2 + m.length) .gone).g i = (heapO m).g i := by
      simp only [AH.set]
      rw [if_neg (by omega), hg i hi]
    rw [this]
    exact rnHeap (Nat.le_refl _) i hi
  · obtain ⟨rfl, _⟩ := lowR_some h
    obtain ⟨rfl, _⟩ := lowR_some h'
    rfl
  · unfold Env.ofList Env.set at hv
    by_cases hi : i = t
    · rw [if_pos hi] at hv
      injection hv with hv
      subst hv
      exact ⟨_, by rw [he2, if_pos hi], .pure (.ro hp)⟩
    · rw [if_neg hi] at hv
      obtain ⟨u, h1, h2⟩ := hE i v hv
      exact ⟨u, by rw [he2, if_neg hi]; exact h1, h2⟩
def okT (t : Table) : Bool := decide (t.trains.length ≤ 100) && t.trains.all fun x => decide (x.stops.length ≤ 100)
def s91 (N : Nat) (t : Table) : Option Calc := if okT t then some (calcOf t) else none

/-- The temporaries of the innermost loop. -/
def env3 (t : Table) (k i j : Nat) (x : Train) (y : Stop) : List (Nat × AV) :=
  [(7, .ro (eStop y)), (2, .ptr 0 0), (3, .ro (cells1 t)), (4, .int .i64 k), (5, .ro (eTrain x)), (6, .int .i64 i), (8, .int .i64 j), (13, lst eTrain t.trains .unk), (14, .int .i64 t.trains.length), (15, .int .i64 k), (21, lst eStop x.stops .unk), (22, .int .i64 x.stops.length), (23, .int .i64 i)]
/-- A whole variable turned. -/
theorem stW {P : AH → Prop} {C : Ctx} {N base M i : Nat} {S : List Nat} {all l : List Oper} {o : Oper} {e : Env} {H : AH} {R : Env → AH → Prop} {x y : Operand} {t : TypeId} {d : ATy} {id : Nat} {cs : List AV} {a : AV} (hM : M ≤ i) (hd : dstOk N o.dst = true) (hw : wantedA all e o = some true) (hop : o.op = .store t x y) (ht : C.T t = some d)
    (hx : evalA C e x = some (.ptr id 0)) (hy : evalA C e y = some a) (hc : a.cells.length = d.size) (ho : a.cells.all AV.one = true) (hg : H.g id = .cells cs) (hl : cs.length = d.size)
    (h : Wg P C N all base M S (i + 1) l (e.put o.dst (.tuple [])) (H.set id (.cells a.cells)) R) (hP : P H := by trivial) : Wg P C N all base M S i (o :: l) e H R := by
  refine Wg.heavy true hM hd hw (by unfold isHeavy; rw [hop]) ?_ h hP
  simp only [heavyA, hop, ht, hx, hy, hg]
  rw [if_pos ⟨hc, by omega, ho⟩]
  simp [List.drop_of_length_le (Nat.le_of_eq hl)]
def topH (m : List (Int × List Leg)) (z cs : List AV) : AH := ((heapO m).push (.cells z)).set (2 + m.length) (.cells cs)
theorem top_n (m : List (Int × List Leg)) (z cs : List AV) : (topH m z cs).n = 2 + m.length + 1 := rfl
theorem top_g (m : List (Int × List Leg)) (z cs : List AV) (i : Nat) (h : i < 2 + m.length) : (topH m z cs).g i = (heapO m).g i := by
  simp only [topH, AH.set, AH.push]
  rw [if_neg (by omega), if_neg (show ¬ i = (heapO m).n from fun e => by have : i = 2 + m.length := e; omega)]
theorem top_X (m : List (Int × List Leg)) (z cs : List AV) : (topH m z cs).g (2 + m.length) = .cells cs := by simp [topH, AH.set]
theorem push_X (m : List (Int × List Leg)) (z : List AV) : ((heapO m).push (.cells z)).g (2 + m.length) = .cells z := by
  show (if 2 + m.length = (heapO m).n then AObj.cells z else _) = _
  exact if_pos (show 2 + m.length = (heapO m).n from rfl)
theorem look_none {e : Env} {H : AH} {o : Oper} {x y : Operand} {id : Nat} {k : Int} {es : List (AV × AV)} (hop : o.op = .lookup 84 x y false) (hx : evalA ctx e x = some (.map id)) (hy : evalA ctx e y = some (.int .i64 k)) (hg : H.g id = .map es)
    (hf : findA ty3 (.int .i64 k) es = some none) : lightA ctx e H o = some (.list 0 [] .full) := by
  have h84 : ty84.shape = .map 3 [AV.list 0 [] Cap.full] false := rfl
  simp only [lightA, hop, T84, hx, hy, h84, mapA, hg, T3, hf]
  rfl
theorem look_some {e : Env} {H : AH} {o : Oper} {x y : Operand} {id : Nat} {k : Int} {es : List (AV × AV)} {v : AV} (hop : o.op = .lookup 84 x y false) (hx : evalA ctx e x = some (.map id)) (hy : evalA ctx e y = some (.int .i64 k)) (hg : H.g id = .map es)
    (hf : findA ty3 (.int .i64 k) es = some (some v)) : lightA ctx e H o = some v := by
  have h84 : ty84.shape = .map 3 [AV.list 0 [] Cap.full] false := rfl
  simp only [lightA, hop, T84, hx, hy, h84, mapA, hg, T3, hf]
  rfl
theorem upd_ok {e : Env} {H : AH} {o : Oper} {x y z : Operand} {id : Nat} {k : Int} {es es' : List (AV × AV)} {v : AV} (hop : o.op = .mapUpdate 84 x y z) (hx : evalA ctx e x = some (.map id)) (hy : evalA ctx e y = some (.int .i64 k)) (hz : evalA ctx e z = some v) (hg : H.g id = .map es)
    (hf : putA ty3 (.int .i64 k) v es = some es') : heavyA ctx true e H o = some (.tuple [], H.set id (.map es')) := by
  have h84 : ty84.shape = .map 3 [AV.list 0 [] Cap.full] false := rfl
  simp only [heavyA, hop, T84, hx, hy, hz, h84, hg, T3, hf]
  rfl
theorem heapO_1 (m : List (Int × List Leg)) : (heapO m).g 1 = .map (entriesFrom 2 m) := rfl
theorem heapO_own {m : List (Int × List Leg)} {i : Nat} (h : 2 ≤ i) (h2 : i < 2 + m.length) : (heapO m).g i = .own := by
  show (if i = 0 then AObj.cells cells0 else if i = 1 then .map (entriesFrom 2 m) else if i < 2 + m.length then .own else .gone) = _
  rw [if_neg (by omega), if_neg (by omega), if_pos h2]
theorem heap_new (m : List (Int × List Leg)) (k : Int) (x : Leg) : ((heapO m).push .own).set 1 (.map (entriesFrom 2 m ++ [(.int .i64 k, lst eLeg [x] (.tok (2 + m.length)))])) = heapO (m ++ [(k, [x])]) := by
  have hE : entriesFrom 2 (m ++ [(k, [x])]) = entriesFrom 2 m ++ [(.int .i64 k, lst eLeg [x] (.tok (2 + m.length)))] := by rw [entries_append]; rfl
  unfold heapO AH.push AH.set
  simp only [AH.mk.injEq, List.length_append, List.length_cons, List.length_nil]
  refine ⟨by omega, ?_⟩
  funext j
  by_cases h0 : j = 0
  · subst h0; simp; omega
  · by_cases h1 : j = 1
    · subst h1; simp [hE]
    · rw [if_neg h1]
      by_cases hn : j = 2 + m.length
      · rw [if_pos hn, if_neg h0, if_neg h1, if_pos (by omega)]
      · rw [if_neg hn, if_neg h0, if_neg h1, if_neg h0, if_neg h1]
        by_cases hlt : j < 2 + m.length
        · rw [if_pos hlt, if_pos (by omega)]
        · rw [if_neg hlt, if_neg (by omega)]
/-- One list of the map under another number. -/
def rhoS (p n : Nat) (i : Nat) : Option Nat := if i = p then some n else if i < n then some i else none
theorem sub_old {C : Ctx} {F : Fr} {e : Env} {H : AH} {L : List (Nat × AV)} {m1 m2 : List (Int × List Leg)} {k : Int} {l : List Leg} (hm : F.m = 0) (n : Nat) (hn : n = 2 + (m1.length + (m2.length + 1)))
    (h0 : H.g 0 = .cells cells0) (h1 : H.g 1 = .map (entriesFrom 2 m1 ++ (.int .i64 k, lst eLeg l (.tok n)) :: entriesFrom (2 + m1.length + 1) m2)) (hg : ∀ i, 2 ≤ i → i < n → i ≠ 2 + m1.length → H.g i = .own) (hX : H.g n = .own)
    (hE : EnvRn (rhoS (2 + m1.length) n) e L) : Sub C F (Env.ofList L) (heapO (m1 ++ (k, l) :: m2)) e H := by
  have hlen : (m1 ++ (k, l) :: m2).length = m1.length + (m2.length + 1) := by simp
  have hr : ∀ i j, rhoS (2 + m1.length) n i = some j → (i = 2 + m1.length ∧ j = n) ∨ (i ≠ 2 + m1.length ∧ i < n ∧ j = i) := by
    intro i j h
    unfold rhoS at h
    split at h
    · rename_i hi; injection h with h; exact .inl ⟨hi, h.symm⟩
    · rename_i hi
      split at h
      · rename_i hi2; injection h with h; exact .inr ⟨hi, hi2, h.symm⟩
      · cases h
  refine Sub.rename (rhoS (2 + m1.length) n) (by rw [hm]; exact Nat.zero_le _) (fun i hi => absurd hi (by omega)) (fun i j hij => ?_) (fun i i' j h h' => ?_) hE
  · have hlt : i < n := by rcases hr i j hij with ⟨rfl, _⟩ | ⟨_, h, _⟩ <;> omega
    refine ⟨by show i < 2 + (m1 ++ (k, l) :: m2).length; omega, ?_⟩
    rcases hr i j hij with ⟨rfl, rfl⟩ | ⟨hne, _, rfl⟩
    · rw [hX, heapO_own (by omega) (by omega)]; exact .own
    · by_cases c0 : j = 0
      · subst c0; rw [h0]; exact rn0 _
      · by_cases c1 : j = 1
        · subst c1
          rw [h1, heapO_1, entries_append]
          have hE2 : entriesFrom (2 + m1.length) ((k, l) :: m2) = (.int .i64 k, lst eLeg l (.tok (2 + m1.length))) :: entriesFrom (2 + m1.length + 1) m2 := rfl
          rw [hE2]
          refine .map (by simp) fun q p p' g1 g2 => ?_
          have hA := entries_len m1 2
          by_cases c : q < m1.length
          · rw [List.getElem?_append_left (by omega)] at g1 g2
            rw [g1] at g2; injection g2 with g2; subst g2
            obtain ⟨a, l', hm', rfl⟩ := entries_get g1
            refine ⟨.pure (.int _ _), rnLegs _ l' ?_⟩
            unfold rhoS
            rw [if_neg (by omega), if_pos (by omega)]
          · rw [List.getElem?_append_right (by omega), hA] at g1 g2
            cases hq : q - m1.length with
            | zero =>
              rw [hq] at g1 g2
              simp at g1 g2
              subst g1; subst g2
              refine ⟨.pure (.int _ _), rnLegs _ l ?_⟩
              unfold rhoS
              rw [if_pos rfl]
            | succ w =>
              rw [hq] at g1 g2
              simp only [List.getElem?_cons_succ] at g1 g2
              rw [g1] at g2; injection g2 with g2; subst g2
              obtain ⟨a, l', hm', rfl⟩ := entries_get g1
              have := (List.getElem?_eq_some_iff.1 hm').1
              refine ⟨.pure (.int _ _), rnLegs _ l' ?_⟩
              unfold rhoS
              rw [if_neg (by omega), if_pos (by omega)]
        · rw [hg j (by omega) hlt hne, heapO_own (by omega) (by omega)]; exact .own
  · rcases hr i j h with ⟨a1, a2⟩ | ⟨a1, a2, a3⟩ <;> rcases hr i' j h' with ⟨b1, b2⟩ | ⟨b1, b2, b3⟩ <;> omega
def oldH (m : List (Int × List Leg)) (p : Nat) (o : AObj) : AH := (((heapO m).set p .gone).push .own).set 1 o
theorem oldH_g (m : List (Int × List Leg)) (p : Nat) (o : AObj) (i : Nat) : (oldH m p o).g i = if i = 1 then o else if i = 2 + m.length then .own else if i = p then .gone else (heapO m).g i := rfl
abbrev F91 : Fr := { r := false, N := 55, m := 0 }
theorem at91 : ctx.P.funcs[91]? = some Tryd.f91 := by kernel_rfl

def rest2 (t : Table) (k : Nat) (x : Train) : List (Nat × AV) := [(2, .ptr 0 0), (3, .ro (cells1 t)), (4, .int .i64 k), (5, .ro (eTrain x)), (13, lst eTrain t.trains .unk), (14, .int .i64 t.trains.length), (15, .int .i64 k)]
def env1 (t : Table) (k : Nat) : List (Nat × AV) := [(2, .ptr 0 0), (3, .ro (cells1 t)), (13, lst eTrain t.trains .unk), (14, .int .i64 t.trains.length), (15, .int .i64 k)]
def env2 (t : Table) (k i : Nat) (x : Train) : List (Nat × AV) := (21, lst eStop x.stops .unk) :: (22, .int .i64 x.stops.length) :: (23, .int .i64 i) :: rest2 t k x
theorem rn3 {n : Nat} (t : Table) (h : 1 < n) : Rn (lowR n) (.ro (cells1 t)) (.ro (cells1 t)) := rnT (lowR n) t (lowR_lt h)
theorem s91_ev {N : Nat} {t : Table} {r : Calc} (h : s91 N t = some r) : ∀ H, Ev ctx (.call 91 [.agg (eTable t)] H (.agg (eCalc r)) H) := by
  have hok : okT t = true ∧ calcOf t = r := by
    unfold s91 at h
    split at h
    · rename_i hc; injection h with h; exact ⟨hc, h⟩
    · cases h
  obtain ⟨hok, rfl⟩ := hok
  simp only [okT, Bool.and_eq_true, decide_eq_true_eq, List.all_eq_true] at hok
  obtain ⟨hT, hS⟩ := hok
  refine Ev.of_pure at91 rfl rfl (Nat.le_of_ble_eq_true rfl) (pCons (pv (pTab _)) pNil) (pv (pCalcs _)) ?_
  repeat refine Wp.seq ?_
  refine Wp.reg rfl ?_
  refine Wg.box rfl rfl rfl rfl ?_
  refine Wg.alloc rfl rfl rfl rfl ?_
  refine Wg.nil ⟨fun _ => ?_, fun h => absurd rfl h⟩
  repeat refine Wp.seq ?_
  refine Wp.reg rfl ?_
  refine Wg.li rfl rfl rfl rfl (fun _ => rfl) ?_
  refine Wg.heavy true (Nat.le_of_ble_eq_true rfl) rfl rfl rfl rfl ?_
  refine Wg.li rfl rfl rfl rfl (fun _ => rfl) ?_
  refine Wg.alloc rfl rfl rfl rfl ?_
  refine Wg.heavy true (Nat.le_of_ble_eq_true rfl) rfl rfl rfl rfl ?_
  refine Wg.nil ⟨fun _ => ?_, fun h => absurd rfl h⟩
  -- the variable is only read from here on; the map is the second object
  refine Sub.trans (e0 := Env.ofList [(1, .ro (eTable t)), (2, .ptr 0 0), (3, .ro [lst eOffice t.offices .unk, lst eTrain t.trains .unk, .int .i64 t.load, .map 2])]) (H0 := { n := 3, g := fun i => if i = 0 then .cells cells0 else if i = 2 then .map [] else .gone }) (e2 := Env.ofList [(1, .ro (eTable t)), (2, .ptr 0 0), (3, .ro (cells1 t))]) (H2 := heapO [])
    ?_ ?_ _ _ ?_
  · refine Sub.freeze (fun i => decide (i = 1)) (fun i hi => absurd hi (Nat.not_lt_zero _)) (fun i v hv => ?_) rfl (fun i => ?_)
    · unfold Env.ofList Env.set at hv
      by_cases h1 : i = 1
      · subst h1; simp at hv; subst hv; exact ⟨_, rfl, .refl _⟩
      · rw [if_neg h1] at hv
        unfold Env.ofList Env.set at hv
        by_cases h2 : i = 2
        · subst h2; simp at hv; subst hv; exact ⟨_, rfl, .refl _⟩
        · rw [if_neg h2] at hv
          unfold Env.ofList Env.set at hv
          by_cases h3 : i = 3
          · subst h3
            simp at hv
            subst hv
            refine ⟨_, rfl, .ptr (k := 4) (cs := [lst eOffice t.offices .unk, lst eTrain t.trains .unk, .int .i64 t.load, .map 2]) rfl rfl (by simp) rfl fun j a a' h1 h2 => ?_⟩
            simp at h1
            rw [h1] at h2; injection h2 with h2; subst h2; exact .refl _
          · rw [if_neg h3] at hv; cases hv
    · constructor
      · intro hi
        have : i = 1 := by simpa using hi
        subst this
        rfl
      · intro hi
        have h1 : ¬ i = 1 := by simpa using hi
        left
        rcases i with _ | _ | _ | i
        · rfl
        · exact absurd rfl h1
        · rfl
        · simp [AH.push, AH.set, AH.nil]
          exact fun h => by have h2 : i + 1 + 1 + 1 = 1 := h; omega
  · refine Sub.rename (fun i => if i = 0 then some 0 else if i = 1 then some 2 else none) (Nat.zero_le _) (fun i hi => absurd hi (Nat.not_lt_zero _)) (fun i j hij => ?_) (fun i i' j h h' => ?_) (fun i v hv => ?_)
    · split at hij
      · rename_i h0; injection hij with hij; subst hij; subst h0
        exact ⟨by show 0 < 2 + 0; omega, rn0 _⟩
      · split at hij
        · rename_i h0 h1; injection hij with hij; subst hij; subst h1
          exact ⟨by show 1 < 2 + 0; omega, .map rfl fun j p p' h => by cases h⟩
        · cases hij
    · split at h
      · split at h'
        · omega
        · split at h'
          · injection h with h; injection h' with h'; omega
          · cases h'
      · split at h
        · split at h'
          · injection h with h; injection h' with h'; omega
          · split at h'
            · omega
            · cases h'
        · cases h
    · unfold Env.ofList Env.set at hv
      by_cases h1 : i = 1
      · subst h1; simp at hv; subst hv; exact ⟨_, rfl, .pure (.ro (pTab _))⟩
      · rw [if_neg h1] at hv
        unfold Env.ofList Env.set at hv
        by_cases h2 : i = 2
        · subst h2; simp at hv; subst hv; exact ⟨_, rfl, .ptr rfl⟩
        · rw [if_neg h2] at hv
          unfold Env.ofList Env.set at hv
          by_cases h3 : i = 3
          · subst h3; simp at hv; subst hv; exact ⟨_, rfl, rnT _ t rfl⟩
          · rw [if_neg h3] at hv; cases hv
  repeat refine Wp.seq ?_
  refine Wp.reg rfl ?_
  iterate 4 refine Wg.li rfl rfl rfl rfl (fun _ => rfl) ?_
  refine Wg.nil ⟨fun _ => ?_, fun h => absurd rfl h⟩
  repeat refine Wp.seq ?_
  refine Wp.block ?_
  refine Sub.le (e0 := Env.ofList (env1 t 0)) (Env.le_cons rfl (Env.le_cons rfl (Env.le_cons rfl (Env.le_cons rfl (Env.le_cons rfl Env.le_nil))))) _ _ ?_
  refine Wp.loopS (α := Nat × List (Int × List Leg)) (fun s => t.trains.length - s.1) (fun s => s.1 ≤ t.trains.length ∧ MapOk (10000 * s.1) s.2 ∧ legsMap (allLegs t) = puts s.2 (outLegs t s.1))
    (fun s => Env.ofList (env1 t s.1)) (fun s => heapO s.2) ?_ (0, []) ⟨Nat.zero_le _, (fun p hp => by cases hp), by simp [legsMap, puts, outLegs, allLegs]⟩
  rintro ⟨k, m⟩ ⟨hk, hmb, hinv⟩
  simp only at hk hmb hinv ⊢
  repeat refine Wp.seq ?_
  refine Wp.reg rfl ?_
  refine Wg.li rfl rfl rfl rfl (fun _ => rfl) ?_
  refine Wg.nil ⟨fun _ => ?_, fun h => absurd rfl h⟩
  repeat refine Wp.seq ?_
  refine Wp.cond (decide ((k : Int) < (t.trains.length : Int))) rfl (fun hb => ?_) (fun hb => ?_)
  · have hlt : k < t.trains.length := by simpa using hb
    obtain ⟨x, hget⟩ : ∃ x, t.trains[k]? = some x := ⟨_, List.getElem?_eq_getElem hlt⟩
    have hx := hS x (List.mem_of_getElem? hget)
    refine Wp.skip ⟨fun _ => ?_, fun h => absurd rfl h⟩
    repeat refine Wp.seq ?_
    refine Wp.block ?_
    repeat refine Wp.seq ?_
    refine Wp.reg rfl ?_
    refine Wg.li rfl rfl rfl rfl (fun _ => rfl) ?_
    refine Wg.idx (f := eTrain) (xs := t.trains) (c := .unk) (j := (k : Int)) (a := x) rfl rfl rfl rfl rfl rfl rfl lTrain (by decide) (by unfold ix; rw [if_pos (by omega)]; simpa using hget) ?_
    refine Wg.li rfl rfl rfl rfl (fun _ => rfl) ?_
    refine Wg.alloc rfl rfl rfl rfl ?_
    refine Wg.li rfl rfl rfl rfl (fun _ => rfl) ?_
    refine stW (id := 2 + m.length) (a := .agg (eTrain x)) (cs := ty73.zero) (Nat.le_of_ble_eq_true rfl) rfl rfl rfl rfl rfl rfl rfl rfl (push_X m _) rfl ?_
    refine Wg.nil ⟨fun _ => ?_, fun h => absurd rfl h⟩
    refine sub_top (m := m) (t := 5) (cs := eTrain x) (L := (4, .int .i64 k) :: env1 t k) rfl (top_n m _ _) (top_g m _ _) (top_X m _ _) rfl (pTrain x)
      (.pure rfl (.int _ _) (.ptr rfl (lowR_lt (by omega)) (.cons rfl (rn3 t (by omega)) (.pure rfl (.lst pTrain _ pUnk) (.pure rfl (.int _ _) (.pure rfl (.int _ _) .nil)))))) _ _ ?_
    repeat refine Wp.seq ?_
    refine Wp.reg rfl ?_
    iterate 4 refine Wg.li rfl rfl rfl rfl (fun _ => rfl) ?_
    refine Wg.nil ⟨fun _ => ?_, fun h => absurd rfl h⟩
    repeat refine Wp.seq ?_
    refine Wp.block ?_
    refine Sub.le (e0 := Env.ofList (env2 t k 0 x)) (Env.le_cons rfl (Env.le_cons rfl (Env.le_cons rfl (Env.le_cons rfl (Env.le_cons rfl (Env.le_cons rfl (Env.le_cons rfl (Env.le_cons rfl (Env.le_cons rfl (Env.le_cons rfl Env.le_nil)))))))))) _ _ ?_
    have hinv2 : legsMap (allLegs t) = puts (puts m (midLegs k x 0)) (outLegs t (k + 1)) := by rw [hinv, out_cons hget, puts_app]; rfl
    refine Wp.loopS (α := Nat × List (Int × List Leg)) (fun s => x.stops.length - s.1) (fun s => s.1 ≤ x.stops.length ∧ MapOk (10000 * k + 100 * s.1) s.2 ∧ legsMap (allLegs t) = puts (puts s.2 (midLegs k x s.1)) (outLegs t (k + 1)))
      (fun s => Env.ofList (env2 t k s.1 x)) (fun s => heapO s.2) ?_ (0, m) ⟨Nat.zero_le _, by simpa using hmb, hinv2⟩
    rintro ⟨i, m⟩ ⟨hi, hmb, hinv⟩
    simp only at hi hmb hinv ⊢
    repeat refine Wp.seq ?_
    refine Wp.reg rfl ?_
    refine Wg.li rfl rfl rfl rfl (fun _ => rfl) ?_
    refine Wg.nil ⟨fun _ => ?_, fun h => absurd rfl h⟩
    repeat refine Wp.seq ?_
    refine Wp.cond (decide ((i : Int) < (x.stops.length : Int))) rfl (fun hb => ?_) (fun hb => ?_)
    · have hlt2 : i < x.stops.length := by simpa using hb
      obtain ⟨y, hget2⟩ : ∃ y, x.stops[i]? = some y := ⟨_, List.getElem?_eq_getElem hlt2⟩
      refine Wp.skip ⟨fun _ => ?_, fun h => absurd rfl h⟩
      repeat refine Wp.seq ?_
      refine Wp.block ?_
      repeat refine Wp.seq ?_
      refine Wp.reg rfl ?_
      refine Wg.li rfl rfl rfl rfl (fun _ => rfl) ?_
      refine Wg.idx (f := eStop) (xs := x.stops) (c := .unk) (j := (i : Int)) (a := y) rfl rfl rfl rfl rfl rfl rfl lStop (by decide) (by unfold ix; rw [if_pos (by omega)]; simpa using hget2) ?_
      refine Wg.li rfl rfl rfl rfl (fun _ => rfl) ?_
      refine Wg.alloc rfl rfl rfl rfl ?_
      refine Wg.li rfl rfl rfl rfl (fun _ => rfl) ?_
      refine stW (id := 2 + m.length) (a := .agg (eStop y)) (cs := ty78.zero) (Nat.le_of_ble_eq_true rfl) rfl rfl rfl rfl rfl rfl rfl rfl (push_X m _) rfl ?_
      refine Wg.nil ⟨fun _ => ?_, fun h => absurd rfl h⟩
      refine sub_top (m := m) (t := 7) (cs := eStop y) (L := (6, .int .i64 i) :: env2 t k i x) rfl (top_n m _ _) (top_g m _ _) (top_X m _ _) rfl (pStop y)
        (.pure rfl (.int _ _) (.pure rfl (.lst pStop _ pUnk) (.pure rfl (.int _ _) (.pure rfl (.int _ _) (.ptr rfl (lowR_lt (by omega)) (.cons rfl (rn3 t (by omega)) (.pure rfl (.int _ _) (.pure rfl (.ro (pTrain x)) (.pure rfl (.lst pTrain _ pUnk) (.pure rfl (.int _ _) (.pure rfl (.int _ _) .nil))))))))))) _ _ ?_
      repeat refine Wp.seq ?_
      refine Wp.reg rfl ?_
      refine Wg.li rfl rfl rfl rfl (fun _ => rfl) ?_
      refine Wg.bin (k := .i64) (k2 := .i64) (a := i) (b := 1) rfl rfl rfl rfl rfl (bAdd (ck_ok (by omega))) ?_
      refine Wg.li rfl rfl rfl rfl (fun _ => rfl) ?_
      refine Wg.nil ⟨fun _ => ?_, fun h => absurd (by decide) h⟩
      refine Wp.block ?_
      refine Sub.le (e0 := Env.ofList (env3 t k i (i + 1) x y)) (Env.le_cons rfl (Env.le_cons rfl (Env.le_cons rfl (Env.le_cons rfl (Env.le_cons rfl (Env.le_cons rfl (Env.le_cons rfl (Env.le_cons rfl (Env.le_cons rfl (Env.le_cons rfl (Env.le_cons rfl (Env.le_cons rfl (Env.le_cons rfl Env.le_nil))))))))))))) _ _ ?_
      have hinv3 : legsMap (allLegs t) = puts (puts (puts m (inLegs k i (i + 1) x.stops.length y.station)) (midLegs k x (i + 1))) (outLegs t (k + 1)) := by rw [hinv, mid_cons hget2, puts_app]
      refine Wp.loopS (α := Nat × List (Int × List Leg)) (fun s => x.stops.length - s.1) (fun s => s.1 ≤ x.stops.length ∧ MapOk (10000 * k + 100 * i + s.1) s.2 ∧ legsMap (allLegs t) = puts (puts (puts s.2 (inLegs k i s.1 x.stops.length y.station)) (midLegs k x (i + 1))) (outLegs t (k + 1)))
        (fun s => Env.ofList (env3 t k i s.1 x y)) (fun s => heapO s.2) ?_ (i + 1, m) ⟨hlt2, hmb.mono (by simp only; omega), hinv3⟩
      rintro ⟨j, m⟩ ⟨hj, hmb, hinv⟩
      simp only at hj hmb hinv ⊢
      repeat refine Wp.seq ?_
      refine Wp.reg rfl ?_
      iterate 5 refine Wg.li rfl rfl rfl rfl (fun _ => rfl) ?_
      refine Wg.nil ⟨fun _ => ?_, fun h => absurd rfl h⟩
      repeat refine Wp.seq ?_
      refine Wp.cond (decide ((j : Int) < (x.stops.length : Int))) rfl (fun hb => ?_) (fun hb => ?_)
      · have hlt3 : j < x.stops.length := by simpa using hb
        refine Wp.skip ⟨fun _ => ?_, fun h => absurd rfl h⟩
        repeat refine Wp.seq ?_
        refine Wp.block ?_
        repeat refine Wp.seq ?_
        refine Wp.after (Q' := fun z e' H' => z = .normal ∧ Sub ctx F91 (Env.ofList (env3 t k i j x y)) (heapO (putLeg y.station ⟨k, i, j⟩ m)) e' H') ?_ ?_
        · refine Wp.drw _ [1, 3, 5, 7] rfl (by kernel_rfl) (Nat.le_refl _) ?_
          iterate 8 refine Wg.li rfl rfl rfl rfl (fun _ => rfl) ?_
          rcases split_key y.station m with hnew | ⟨m1, l, m2, rfl, hm1⟩
          · refine Wg.ld rfl rfl rfl rfl (look_none (k := y.station) rfl rfl rfl (heapO_1 m) (find_new _ m 2 hnew)) rfl ?_
            iterate 5 refine Wg.li rfl rfl rfl rfl (fun _ => rfl) ?_
            refine Wg.appF (f := eLeg) (xs := []) (ys := [⟨k, i, j⟩]) (zs := [⟨k, i, j⟩]) (c2 := .full) (Nat.le_of_ble_eq_true rfl) rfl rfl rfl rfl rfl rfl rfl rfl rfl lLeg (by decide) (by decide) (by simp) rfl ?_
            refine Wg.heavy true (Nat.le_of_ble_eq_true rfl) rfl rfl rfl (upd_ok (k := y.station) rfl rfl rfl rfl ((push_lt (heapO m) _ (show 1 < 2 + m.length by omega)).trans (heapO_1 m)) (put_new _ _ m 2 hnew)) ?_
            refine Wg.nil ⟨rfl, ?_⟩
            rw [putLeg_new _ _ m hnew]
            have hh := heap_new m y.station ⟨k, i, j⟩
            show Sub ctx F91 _ _ _ (((heapO m).push .own).set 1 (.map (entriesFrom 2 m ++ [(.int .i64 y.station, lst eLeg [⟨k, i, j⟩] (.tok (2 + m.length)))])))
            rw [hh]
            exact Sub.le (Env.le_cons rfl (Env.le_cons rfl (Env.le_cons rfl (Env.le_cons rfl (Env.le_cons rfl (Env.le_cons rfl (Env.le_cons rfl (Env.le_cons rfl (Env.le_cons rfl (Env.le_cons rfl (Env.le_cons rfl (Env.le_cons rfl (Env.le_cons rfl Env.le_nil)))))))))))))
          · have hl := hmb (y.station, l) (by simp)
            simp only at hl
            refine Wg.ld rfl rfl rfl rfl (look_some (k := y.station) rfl rfl rfl (heapO_1 _) (find_old _ l m2 m1 2 hm1)) rfl ?_
            iterate 5 refine Wg.li rfl rfl rfl rfl (fun _ => rfl) ?_
            refine Wg.appG (k := 2 + m1.length) (f := eLeg) (xs := l) (ys := [⟨k, i, j⟩]) (zs := l ++ [⟨k, i, j⟩]) (c2 := .full) (Nat.le_of_ble_eq_true rfl) rfl rfl rfl rfl rfl rfl rfl (by rw [capT_pos hl.1]; rfl) rfl lLeg (by decide) (by decide) (by simp) (by rw [ownT_pos hl.1]; exact heapO_own (by omega) (by simp)) (by unfold ap; rw [if_pos]; simp; omega) ?_
            rw [capT_pos (by simp), ownT_pos (by simp)]
            refine Wg.heavy true (Nat.le_of_ble_eq_true rfl) rfl rfl rfl (upd_ok (k := y.station) rfl rfl rfl rfl ((push_lt ((heapO (m1 ++ (y.station, l) :: m2)).set (2 + m1.length) .gone) _ (show 1 < 2 + (m1 ++ (y.station, l) :: m2).length by omega)).trans (by simp only [AH.set]; rw [if_neg (by omega)]; exact heapO_1 _)) (put_old _ _ l m2 m1 2 hm1)) ?_
            refine Wg.nil ⟨rfl, ?_⟩
            rw [putLeg_old _ _ l m2 m1 hm1]
            have hN : (heapO (m1 ++ (y.station, l) :: m2)).n = 2 + (m1.length + (m2.length + 1)) := by show 2 + (m1 ++ (y.station, l) :: m2).length = _; simp
            have hr1 : rhoS (2 + m1.length) (2 + (m1.length + (m2.length + 1))) 1 = some 1 := by unfold rhoS; rw [if_neg (by omega), if_pos (by omega)]
            have hr0 : rhoS (2 + m1.length) (2 + (m1.length + (m2.length + 1))) 0 = some 0 := by unfold rhoS; rw [if_neg (by omega), if_pos (by omega)]
            refine sub_old rfl (2 + (m1.length + (m2.length + 1))) rfl ?_ ?_ (fun q h2 hq hne => ?_) ?_ ?_
            · refine (oldH_g _ _ _ 0).trans ?_
              rw [if_neg (by omega), if_neg (by omega), if_neg (by omega)]; rfl
            · refine (oldH_g _ _ _ 1).trans ?_
              rw [if_pos rfl, hN]
            · refine (oldH_g _ _ _ q).trans ?_
              rw [if_neg (by omega), if_neg (by simp; omega), if_neg (by omega)]; exact heapO_own h2 (by simp; omega)
            · refine (oldH_g _ _ _ _).trans ?_
              rw [if_neg (by omega), if_pos (by simp)]
            · exact (.pure rfl (.ro (pStop y)) (.ptr rfl hr0 (.cons rfl (rnT _ t hr1) (.pure rfl (.int _ _) (.pure rfl (.ro (pTrain x)) (.pure rfl (.int _ _) (.pure rfl (.int _ _) (.pure rfl (.lst pTrain _ pUnk) (.pure rfl (.int _ _) (.pure rfl (.int _ _) (.pure rfl (.lst pStop _ pUnk) (.pure rfl (.int _ _) (.pure rfl (.int _ _) .nil)))))))))))))
        · rintro z e' H' ⟨rfl, hs⟩
          refine ⟨fun _ => ?_, fun h => absurd (by decide) h⟩
          refine hs _ _ ?_
          refine Wp.reg rfl ?_
          refine Wg.li rfl rfl rfl rfl (fun _ => rfl) ?_
          refine Wg.bin (k := .i64) (k2 := .i64) (a := j) (b := 1) rfl rfl rfl rfl rfl (bAdd (ck_ok (by omega))) ?_
          refine Wg.li rfl rfl rfl rfl (fun _ => rfl) ?_
          refine Wg.nil (.inl ⟨rfl, (j + 1, putLeg y.station ⟨k, i, j⟩ m), by simp only; omega, ⟨hlt3, hmb.put _ _, by rw [hinv, in_cons hlt3]; rfl⟩, ?_⟩)
          exact Sub.le (Env.le_cons rfl (Env.le_cons rfl (Env.le_cons rfl (Env.le_cons rfl (Env.le_cons rfl (Env.le_cons rfl (Env.le_cons rfl (Env.le_cons rfl (Env.le_cons rfl (Env.le_cons rfl (Env.le_cons rfl (Env.le_cons rfl (Env.le_cons rfl Env.le_nil)))))))))))))
      · have hge : x.stops.length ≤ j := by simpa using hb
        refine Wp.exit ⟨fun h => absurd h (by decide), fun _ => .inr ⟨by decide, ?_⟩⟩
        refine ⟨fun _ => ?_, fun h => absurd (by decide) h⟩
        refine Wp.reg rfl ?_
        refine Wg.bin (k := .i64) (k2 := .i64) (a := i) (b := 1) rfl rfl rfl rfl rfl (bAdd (ck_ok (by omega))) ?_
        refine Wg.li rfl rfl rfl rfl (fun _ => rfl) ?_
        have hin : inLegs k i j x.stops.length y.station = [] := by unfold inLegs; rw [show x.stops.length - j = 0 by omega]; rfl
        refine Wg.nil (.inl ⟨rfl, (i + 1, m), by simp only; omega, ⟨hlt2, hmb.mono (by simp only; omega), by rw [hinv, hin]; rfl⟩, ?_⟩)
        exact Sub.le (Env.le_cons rfl (Env.le_cons rfl (Env.le_cons rfl (Env.le_cons rfl (Env.le_cons rfl (Env.le_cons rfl (Env.le_cons rfl (Env.le_cons rfl (Env.le_cons rfl (Env.le_cons rfl Env.le_nil))))))))))
    · have hge : x.stops.length ≤ i := by simpa using hb
      refine Wp.exit ⟨fun h => absurd h (by decide), fun _ => .inr ⟨by decide, ?_⟩⟩
      refine ⟨fun _ => ?_, fun h => absurd (by decide) h⟩
      refine Wp.reg rfl ?_
      refine Wg.bin (k := .i64) (k2 := .i64) (a := k) (b := 1) rfl rfl rfl rfl rfl (bAdd (ck_ok (by omega))) ?_
      refine Wg.li rfl rfl rfl rfl (fun _ => rfl) ?_
      have hmid : midLegs k x i = [] := by unfold midLegs; rw [List.drop_of_length_le (by simpa using hge)]; rfl
      refine Wg.nil (.inl ⟨rfl, (k + 1, m), by simp only; omega, ⟨hlt, hmb.mono (by simp only; omega), by rw [hinv, hmid]; rfl⟩, ?_⟩)
      exact Sub.le (Env.le_cons rfl (Env.le_cons rfl (Env.le_cons rfl (Env.le_cons rfl (Env.le_cons rfl Env.le_nil)))))
  · have hge : t.trains.length ≤ k := by simpa using hb
    have hout : outLegs t k = [] := by unfold outLegs; rw [List.drop_of_length_le (by simpa using hge)]; rfl
    rw [hout] at hinv
    refine Wp.exit ⟨fun h => absurd h (by decide), fun _ => .inr ⟨by decide, ?_⟩⟩
    refine ⟨fun _ => ?_, fun h => absurd (by decide) h⟩
    repeat refine Wp.seq ?_
    refine Wp.reg rfl ?_
    refine Wg.li rfl rfl rfl rfl (fun _ => rfl) ?_
    refine stW (id := 0) (a := .agg (cells1 t)) (cs := cells0) (Nat.le_of_ble_eq_true rfl) rfl rfl rfl rfl rfl rfl rfl rfl rfl rfl ?_
    refine Wg.nil ⟨fun _ => ?_, fun h => absurd (by decide) h⟩
    have hc : calcOf t = ⟨t, m⟩ := by unfold calcOf; rw [hinv]; rfl
    rw [hc]
    refine Sub.freeze (e0 := Env.ofList [(2, .ptr 0 0)]) (H0 := { n := 2 + m.length, g := fun i => if i = 0 then .cells (eCalc ⟨t, m⟩) else if i = 1 then .gone else (heapO m).g i }) (fun i => decide (i = 1)) ?_ (fun i v hv => ?_) ?_ (fun i => ?_) _ _ ?_
    · exact fun i hi => absurd hi (Nat.not_lt_zero _)
    · unfold Env.ofList Env.set at hv
      by_cases h2 : i = 2
      · subst h2; simp at hv; subst hv; exact ⟨_, rfl, .refl _⟩
      · rw [if_neg h2] at hv; cases hv
    · rfl
    · constructor
      · intro hi
        have : i = 1 := by simpa using hi
        subst this
        rfl
      · intro hi
        have h1 : ¬ i = 1 := by simpa using hi
        by_cases h0 : i = 0
        · subst h0
          refine .inr ⟨cells1 t, eCalc ⟨t, m⟩, rfl, rfl, rfl, fun q a a' g1 g2 => ?_⟩
          rcases q with _ | _ | _ | _ | q
          · simp [cells1, eCalc, eTable] at g1 g2; subst g1; subst g2; exact .refl _
          · simp [cells1, eCalc, eTable] at g1 g2; subst g1; subst g2; exact .refl _
          · simp [cells1, eCalc, eTable] at g1 g2; subst g1; subst g2; exact .refl _
          · simp [cells1, eCalc, eTable] at g1 g2
            subst g1; subst g2
            refine .map (by rfl) (es := entriesFrom 2 m) rfl (by simp [eLegs, entries_len]) (fun w p p' k1 k2 => ?_) (fun w p p' k1 k2 => ?_)
            · obtain ⟨a, l, hm', rfl⟩ := entries_get k1
              simp [eLegs, hm'] at k2
              subst k2
              exact .refl _
            · obtain ⟨a, l, hm', rfl⟩ := entries_get k1
              simp [eLegs, hm'] at k2
              subst k2
              exact .list rfl (fun w a a' q1 q2 => by rw [q1] at q2; injection q2 with q2; subst q2; exact .refl _) (.inr rfl)
          · simp [cells1] at g1
        · left
          show (if i = 0 then AObj.cells (eCalc ⟨t, m⟩) else if i = 1 then .gone else (heapO m).g i) = if i = 0 then _ else (heapO m).g i
          rw [if_neg h0, if_neg h1, if_neg h0]
    · exact Wp.ret ⟨.inr rfl, _, rfl, rfl⟩
end Go.Abs.Tr
