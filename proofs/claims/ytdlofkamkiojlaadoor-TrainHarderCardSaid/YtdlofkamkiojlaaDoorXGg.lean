/- Rules for a range over a function: what is yielded to is a piece of code on few objects. Conditions: none (lemmas). -/
import Derived.Test.YtdlofkamkiojlaaDoorXGf
set_option linter.unusedVariables false
set_option linter.unusedSimpArgs false
namespace Go.Abs
open Go
section
variable {C : Ctx} {F : Fr} {e e0 e1 : Env} {H H1 : AH} {Q : AX → Env → AH → Prop}
def lowE (n : Nat) (i : Nat) : Option Nat := if i < n then some i else none
theorem lowE_lt {n i : Nat} (h : i < n) : lowE n i = some i := if_pos h
theorem lowE_some {n i j : Nat} (h : lowE n i = some j) : i = j ∧ i < n := by
  unfold lowE at h
  split at h
  · rename_i hi; injection h with h; exact ⟨h, hi⟩
  · cases h
/-- A range over a function. -/
theorem Wp.rangeF {f : Operand} {params : Array Tmp} {assign body : Code} {fv v : AV} {R : ALoop} (hr : F.r = false) (hf : evalA C e f = some fv)
    (hev : Ev C (.app fv [.yieldf H.n] (H.push (.loop { st := .ready, pend := .normal, N := F.N, tmps := e, params := params.toList, assign, body })) v H1))
    (hg : H1.g H.n = .loop R) (hst : R.st ≠ .busy) (h : Q R.pend e (H1.set H.n (.loop { R with st := .exhausted }))) : Wp C F (.rangeFunc f params assign body) e H Q :=
  ⟨_, _, _, .rangeFunc hr hf hev hg hst, h⟩
theorem Wp.rangeN {f : Operand} {params : Array Tmp} {assign body : Code} {fv v : AV} {R : ALoop} (hr : F.r = false) (hf : evalA C e f = some fv)
    (hev : Ev C (.app fv [.yieldf H.n] (H.push (.loop { st := .ready, pend := .normal, N := F.N, tmps := e, params := params.toList, assign, body })) v H1))
    (hg : H1.g H.n = .loop R) (hst : R.st = .ready) (hp : R.pend = .normal) (h : Q .normal e (H1.set H.n (.loop { R with st := .exhausted }))) : Wp C F (.rangeFunc f params assign body) e H Q :=
  have h2 : ∀ x : AX, x = .normal → Q x e (H1.set H.n (.loop { R with st := .exhausted })) := fun x hx => hx.symm ▸ h
  Wp.rangeF hr hf hev hg (by rw [hst]; decide) (h2 _ hp)
/-- A round, on the objects that were there when the range began. -/
theorem yield_wp {l : Nat} {a : AV} {s0 s1 : AH} {R : ALoop} {x : AX} (hg : s0.g l = .loop R) (hst : R.st = .ready) (hl : [a].length = R.params.length) (hp : (R.params.all fun p => decide (p < R.N)) = true)
    (h : Wp C { r := true, N := R.N, m := s0.n } R.assign (R.tmps.sets (R.params.zip [a])) s0 fun x1 e1 H1 => x1 = .normal ∧ H1.g l = .loop R ∧ Wp C { r := true, N := R.N, m := s0.n } R.body e1 (H1.set l (.loop { R with st := .busy })) fun x2 e2 H2 =>
      x2 = x ∧ H2.g l = .loop { R with st := .busy } ∧ ∀ i, i < s0.n → i ≠ l → H2.g i = s1.g i) (hl1 : s1.g l = .loop { R with st := (if x = .normal then .ready else .done), pend := x }) :
    ∃ H2, (∀ i, i < s0.n → H2.g i = s1.g i) ∧ Ev C (.app (.yieldf l) [a] s0 (.bool (x = .normal)) H2) := by
  obtain ⟨x1, e1, H1, hev1, rfl, hg1, x2, e2, H2, hev2, rfl, hg2, hlow⟩ := h
  refine ⟨_, fun i hi => ?_, .yield hg hst hl hp hev1 hg1 hst hev2 hg2⟩
  by_cases hil : i = l
  · subst hil
    rw [hl1]
    simp [AH.set]
  · simp only [AH.set]
    rw [if_neg hil]
    exact hlow i hi hil
/-- What holds on few objects holds among many. -/
theorem yield_frame {L l : Nat} {a : AV} {b : Bool} {s0 s1 H2 : AH} (hn : s0.n = L) (hl : l < L) (hne : ∀ i, i < L → s0.g i ≠ .gone) (hR0 : ∀ i, i < L → RnO (lowE L) (s0.g i) (s0.g i)) (hR1 : ∀ i, i < L → RnO (lowE L) (s1.g i) (s1.g i)) (ha : Pure a)
    (h2 : ∀ i, i < s0.n → H2.g i = s1.g i) (hev : Ev C (.app (.yieldf l) [a] s0 (.bool b) H2)) (hH : ∀ i, i < L → H.g i = s0.g i) (hLn : L ≤ H.n) :
    ∃ H', (∀ i, i < L → H'.g i = s1.g i) ∧ (∀ i, L ≤ i → H'.g i = H.g i) ∧ H'.n = H.n ∧ Ev C (.app (.yieldf l) [a] H (.bool b) H') := by
  refine ⟨{ n := H.n, g := fun i => if i < L then s1.g i else H.g i }, fun i hi => if_pos hi, fun i hi => if_neg (by omega), rfl, ?_⟩
  refine .framed (lowE L) (lowE L) hev (fun i j => ⟨fun h => ?_, fun h => ?_⟩) (fun i j h => ?_) (.yieldf (lowE_lt hl)) rfl (fun k c c' h1 h2 => by rw [h1] at h2; injection h2 with h2; subst h2; cases k with | zero => simp at h1; subst h1; exact .pure ha | succ k => simp at h1) (.bool b) rfl (fun j hj => ?_)
  · obtain ⟨rfl, hi⟩ := lowE_some h; exact lowE_lt hi
  · obtain ⟨rfl, hi⟩ := lowE_some h; exact lowE_lt hi
  · obtain ⟨rfl, hi⟩ := lowE_some h
    have e1 : (if i < L then s1.g i else H.g i) = s1.g i := if_pos hi
    refine ⟨by omega, by omega, hne i hi, by rw [hH i hi]; exact hR0 i hi, ?_, fun he => ?_⟩
    · show RnO _ _ (if i < L then s1.g i else H.g i)
      rw [e1, h2 i (by omega)]; exact hR1 i hi
    · show (if i < L then s1.g i else H.g i) = _
      rw [e1, ← h2 i (by omega), he, hH i hi]
  · have : ¬ j < L := fun hlt => by rw [lowE_lt hlt] at hj; cases hj
    exact if_neg this
/-- Behind the range: what was made since is forgotten. -/
theorem Sub.lowTo {l : Nat} {L : List (Nat × AV)} {Ls : List AObj} (hm : F.m = 0) (hl : Ls.length = l) (hg : ∀ i, i < l → H.g i = (hp Ls).g i) (hR : ∀ i, i < l → RnO (lowE l) ((hp Ls).g i) ((hp Ls).g i))
    (hE : ∀ t v, Env.ofList L t = some v → e t = some v ∧ Rn (lowE l) v v) : Sub C F (Env.ofList L) (hp Ls) e H := by
  refine Sub.rename (lowE l) (by rw [hm]; exact Nat.zero_le _) (fun i hi => absurd hi (by omega)) (fun i j hij => ?_) (fun i i' j h h' => ?_) (fun t v h => ⟨v, hE t v h⟩)
  · obtain ⟨rfl, hi⟩ := lowE_some hij
    refine ⟨by show i < Ls.length; omega, ?_⟩
    rw [hg i hi]
    exact hR i hi
  · obtain ⟨rfl, _⟩ := lowE_some h
    obtain ⟨rfl, _⟩ := lowE_some h'
    rfl
/-- Temporaries under the same numbers. -/
def EnvId (ρ : Nat → Option Nat) (L : List (Nat × AV)) : Prop := ∀ t v, Env.ofList L t = some v → Rn ρ v v
theorem EnvId.nil {ρ : Nat → Option Nat} : EnvId ρ [] := fun t v h => by cases h
theorem EnvId.add {ρ : Nat → Option Nat} {t : Nat} {v : AV} {L : List (Nat × AV)} (h : Rn ρ v v) (k : EnvId ρ L) : EnvId ρ ((t, v) :: L) := by
  intro j w hj
  unfold Env.ofList Env.set at hj
  by_cases hji : j = t
  · rw [if_pos hji] at hj
    injection hj with hj
    subst hj
    exact h
  · rw [if_neg hji] at hj
    exact k j w hj
theorem EnvId.pure {ρ : Nat → Option Nat} {t : Nat} {v : AV} {L : List (Nat × AV)} (hp : Pure v) (k : EnvId ρ L) : EnvId ρ ((t, v) :: L) := .add (.pure hp) k
theorem EnvId.ptr {ρ : Nat → Option Nat} {t i off : Nat} {L : List (Nat × AV)} (h : ρ i = some i) (k : EnvId ρ L) : EnvId ρ ((t, .ptr i off) :: L) := .add (.ptr h) k
theorem EnvId.ms {ρ : Nat → Option Nat} {t i off n : Nat} {c : Option Nat} {L : List (Nat × AV)} (h : ρ i = some i) (k : EnvId ρ L) : EnvId ρ ((t, .ms i off n c) :: L) := .add (.ms h) k
theorem RnO.idLoop {ρ : Nat → Option Nat} {R : ALoop} {L : List (Nat × AV)} (ht : R.tmps = Env.ofList L) (h : EnvId ρ L) : RnO ρ (.loop R) (.loop R) :=
  .loop rfl rfl rfl rfl rfl rfl (fun t v' hv => ⟨v', hv, h t v' (by rw [← ht]; exact hv)⟩)
theorem ObjCv.loop {ρ : Nat → Option Nat} {o : AObj} {R : ALoop} {L : List (Nat × AV)} (h : o = .loop R) (ht : R.tmps = Env.ofList L) (hE : EnvId ρ L) : ObjCv ρ H o (.loop R) := by
  subst h
  exact ⟨_, .inl rfl, .idLoop ht hE⟩
/-- The same state under other numbers; the objects of the frames below stay. -/
theorem Sub.canonM (m : Nat) (r : List (Option Nat)) (L : List AObj) (E : List (Nat × AV)) (hm : F.m = m) (hmL : m ≤ L.length) (hnd : (r.filterMap id).Nodup) (hlow : ∀ i, i < m → rhoF r i = some i ∧ (hp L).g i = H.g i ∧ RnO (rhoF r) (H.g i) (H.g i)) (hO : ObjsCv (rhoF r) H (r.drop m) (L.drop m)) (hE : EnvCv (rhoF r) H e E) : Sub C F (Env.ofList E) (hp L) e H := by
  obtain ⟨hlen, hO⟩ := hO.at
  have hr : ∀ i j, rhoF r i = some j → r[i]? = some (some j) := by
    intro i j h
    unfold rhoF at h
    cases hr : r[i]? with
    | none => rw [hr] at h; cases h
    | some b => rw [hr] at h; simp at h; rw [h]
  have hjm' : ∀ i j, m ≤ i → rhoF r i = some j → m ≤ j := fun i j hi h => by
    by_cases hj : j < m
    · have := rho_inj hnd _ _ _ h (hlow j hj).1; omega
    · omega
  have hij' : ∀ i j, rhoF r i = some j → m ≤ j → m ≤ i := fun i j h hj => by
    by_cases hi : i < m
    · have := (hlow i hi).1; rw [h] at this; injection this with this; omega
    · omega
  have hO' : ∀ i j, rhoF r i = some j → m ≤ j → ObjCv (rhoF r) H (H.g j) (L.getD i .gone) := fun i j h hj => by
    have hi := hij' i j h hj
    have h1 := hO (i - m) j (by rw [List.getElem?_drop, show m + (i - m) = i by omega]; exact hr i j h)
    have h2 : (L.drop m).getD (i - m) .gone = L.getD i .gone := by simp only [List.getD_eq_getElem?_getD, List.getElem?_drop]; rw [show m + (i - m) = i by omega]
    rw [h2] at h1
    exact h1
  intro c Q hw
  obtain ⟨mo, hmo⟩ : ∃ mo : Nat → AObj, ∀ j, (j < m → mo j = H.g j) ∧ ((∃ i, rhoF r i = some j) → FzO (fun _ => false) H (H.g j) (mo j)) ∧ (¬ (∃ i, rhoF r i = some j) → mo j = H.g j) ∧ ∀ i, rhoF r i = some j → m ≤ j → RnO (rhoF r) (mo j) (L.getD i .gone) := by
    refine Classical.axiomOfChoice (r := fun j o => (j < m → o = H.g j) ∧ ((∃ i, rhoF r i = some j) → FzO (fun _ => false) H (H.g j) o) ∧ (¬ (∃ i, rhoF r i = some j) → o = H.g j) ∧ ∀ i, rhoF r i = some j → m ≤ j → RnO (rhoF r) o (L.getD i .gone)) fun j => ?_
    by_cases hjm : j < m
    · exact ⟨H.g j, fun _ => rfl, fun _ => .inl rfl, fun _ => rfl, fun i hi h => by omega⟩
    · by_cases hex : ∃ i, rhoF r i = some j
      · obtain ⟨i, hi⟩ := hex
        obtain ⟨mm, h1, h2⟩ := hO' i j hi (by omega)
        refine ⟨mm, fun h => absurd h hjm, fun _ => h1, fun h => absurd ⟨i, hi⟩ h, fun i' hi' _ => ?_⟩
        rw [rho_inj hnd _ _ _ hi' hi]
        exact h2
      · exact ⟨H.g j, fun _ => rfl, fun h => absurd h hex, fun _ => rfl, fun i hi => absurd ⟨i, hi⟩ hex⟩
  let H2 : AH := { n := H.n, g := mo }
  obtain ⟨e2, he⟩ : ∃ e2 : Env, ∀ t, (∀ v, e2 t = some v → ∃ u, e t = some u ∧ Fz (fun _ => false) H u v) ∧ ∀ v', Env.ofList E t = some v' → ∃ v, e2 t = some v ∧ Rn (rhoF r) v v' := by
    refine Classical.axiomOfChoice (r := fun t (o : Option AV) => (∀ v, o = some v → ∃ u, e t = some u ∧ Fz (fun _ => false) H u v) ∧ ∀ v', Env.ofList E t = some v' → ∃ v, o = some v ∧ Rn (rhoF r) v v') fun t => ?_
    cases hv : Env.ofList E t with
    | none => refine ⟨none, ?_, ?_⟩ <;> (intro v h; cases h)
    | some v' =>
      obtain ⟨u, v, h1, h2, h3⟩ := hE t v' hv
      refine ⟨some v, ?_, ?_⟩ <;> (intro w h; injection h with h; subst h)
      · exact ⟨u, h1, h2⟩
      · exact ⟨v, rfl, h3⟩
  have s1 : Sub C F e2 H2 e H := by
    refine Sub.freeze (fun _ => false) (fun i hi => ⟨rfl, (hmo i).1 (by omega)⟩) (fun t v h => (he t).1 v h) rfl (fun i => ⟨fun h => absurd h (by decide), fun _ => ?_⟩)
    by_cases hex : ∃ k, rhoF r k = some i
    · exact (hmo i).2.1 hex
    · exact .inl ((hmo i).2.2.1 hex)
  have s2 : Sub C F (Env.ofList E) (hp L) e2 H2 := by
    refine Sub.rename (rhoF r) (by rw [hm]; exact hmL) (fun i hi => ⟨(hlow i (by omega)).1, (hlow i (by omega)).2.1.trans ((hmo i).1 (by omega)).symm⟩) (fun i j hij => ⟨?_, ?_⟩) (rho_inj hnd) (fun t => (he t).2)
    · have := (List.getElem?_eq_some_iff.1 (hr i j hij)).1
      show i < L.length
      have hlen' : r.length - m = L.length - m := by simpa using hlen
      omega
    · by_cases hjm : j < m
      · have hii : i = j := rho_inj hnd i j j hij (hlow j hjm).1
        subst hii
        show RnO (rhoF r) (mo i) (L.getD i .gone)
        have hL : L.getD i .gone = H.g i := (hlow i hjm).2.1
        rw [(hmo i).1 hjm, hL]
        exact (hlow i hjm).2.2
      · exact (hmo j).2.2.2 i hij (by omega)
  exact s1 c Q (s2 c Q hw)
theorem ne_cells {o : AObj} {cs : List AV} (h : o = .cells cs) : o ≠ .gone := by rw [h]; intro h; cases h
theorem ne_loop {o : AObj} {R : ALoop} (h : o = .loop R) : o ≠ .gone := by rw [h]; intro h; cases h
theorem rn_cells {ρ : Nat → Option Nat} {o : AObj} {cs : List AV} (h : o = .cells cs) (hp : ∀ a ∈ cs, Pure a) : RnO ρ o o := by rw [h]; exact PureO.rn (.cells hp)
theorem rn_loop {ρ : Nat → Option Nat} {o : AObj} {R : ALoop} {L : List (Nat × AV)} (h : o = .loop R) (ht : R.tmps = Env.ofList L) (hE : EnvId ρ L) : RnO ρ o o := by rw [h]; exact .idLoop ht hE
theorem mapT {T : Type} {o : Option T} {s : T} {b : Bool} (h : o.map (fun s => (s, true)) = some (s, b)) : o = some s ∧ b = true := by
  cases o with
  | none => cases h
  | some t => injection h with h; injection h with h1 h2; exact ⟨by rw [h1], h2.symm⟩
/-- The ranges over functions of a piece of code. -/
def rfs : Code → List (Array Tmp × Code × Code)
  | .seq a b => rfs a ++ rfs b
  | .cond _ a b => rfs a ++ rfs b
  | .block _ c => rfs c
  | .scope c => rfs c
  | .loop c => rfs c
  | .rangeFunc _ p a b => [(p, a, b)]
  | _ => []
def rfP (c : Option Code) (k : Nat) : Array Tmp × Code × Code := match c with
  | some c => (rfs c).getD k (#[], .skip, .skip)
  | none => (#[], .skip, .skip)
theorem range_low {l : Nat} {H2 : AH} {Ls : List AObj} {o o' : AObj} (hl : Ls.length = l) (h1 : ∀ i, i < l + 1 → H2.g i = ((hp Ls).push o).g i) : ∀ i, i < l → (H2.set l o').g i = (hp Ls).g i := by
  intro i hi
  have h := h1 i (by omega)
  simp only [AH.set]
  rw [if_neg (by omega), h]
  simp only [AH.push]
  rw [if_neg (by show ¬ i = Ls.length; omega)]
theorem range_at {l : Nat} {H2 : AH} {Ls : List AObj} {o : AObj} (hl : Ls.length = l) (h1 : ∀ i, i < l + 1 → H2.g i = ((hp Ls).push o).g i) : H2.g l = o := by
  rw [h1 l (by omega)]
  simp only [AH.push]
  rw [if_pos (by show l = Ls.length; omega)]

/-! ### Slices that were made, handed back -/
variable {P : AH → Prop} {N base M i : Nat} {S : List Nat} {all l : List Oper} {o : Oper} {v : AV} {R : Env → AH → Prop}
def posC (n : Nat) : Option Unit := if 0 < n then some () else none
theorem Wg.slM {x hi mx : Operand} {t : TypeId} {d : ATy} {id n esz eb : Nat} {ez : List AV} {u : Unit} (hd : dstOk N o.dst = true) (hw : wantedA all e o = some true) (hop : o.op = .slice t x none (some hi) (some mx)) (ht : C.T t = some d) (hsh : d.shape = .slice esz eb ez)
    (hx : evalA C e x = some (.ms id 0 n (some n))) (hh : evalA C e hi = some (.int .i64 (n : Int))) (hm : evalA C e mx = some (.int .i64 (n : Int))) (hn : posC n = some u)
    (h : Wg P C N all base M S (i + 1) l (e.put o.dst (.ms id 0 n (some n))) H R) : Wg P C N all base M S i (o :: l) e H R := by
  have hn0 : 0 < n := by
    unfold posC at hn
    split at hn
    · assumption
    · cases hn
  refine Wg.li hd hw (by unfold isHeavy; rw [hop]) (by unfold isAlloc; rw [hop]) (fun H' => ?_) h
  simp only [lightA, hop, ht, hx, Option.map_none, Option.map_some, hh, hm, Option.join_none, Option.join_some, sliceA, hsh, boundsA, AV.asNat]
  have h0 : (0 : Int) ≤ (n : Int) := by omega
  simp only [if_pos h0, Int.toNat_natCast, Nat.le_refl, if_true, Option.getD_some, Nat.zero_le, and_self]
  rw [if_neg (by omega)]
  simp
/-- What is handed back is written no more. -/
theorem Sub.retMs {α : Type} {f : α → List AV} {xs : List α} {n id t : Nat} {L : List (Nat × AV)} (hm : F.m = 0) (het : e t = some (.ms id 0 n (some n))) (hg : H.g id = .cells (eAr f xs)) (hl : xs.length = n) (hf : ∀ a, (f a).length = 1) (hpu : ∀ a, ∀ x ∈ f a, Pure x)
    (hL : ∀ i v, Env.ofList L i = some v → e i = some v ∧ Pure v) : Sub C F (Env.ofList ((t, lst f xs .unk) :: L)) (hp []) e H := by
  obtain ⟨e2, he2⟩ : ∃ e2 : Env, ∀ i, e2 i = if i = t then some (lst f xs .full) else e i := ⟨_, fun _ => rfl⟩
  have hlen := eAr_len hf xs
  refine Sub.trans (e0 := e2) (H0 := H.set id .gone) ?_ ?_
  · refine Sub.freeze (fun i => decide (i = id)) (fun i hi => absurd hi (by omega)) (fun i v hv => ?_) rfl (fun i => ?_)
    · rw [he2] at hv
      by_cases hi : i = t
      · rw [if_pos hi] at hv
        injection hv with hv
        subst hv; subst hi
        refine ⟨_, het, ?_⟩
        have := Fz.ms (S := fun i => decide (i = id)) (H := H) (id := id) (off := 0) (n := n) (k := n) (cap := some n) (cs := eAr f xs) (cs' := eAr f xs) (by simp) hg (by omega) (by omega) (fun j a a' h1 h2 => by
          rw [List.drop_zero, List.take_of_length_le (by omega)] at h1
          rw [h1] at h2; injection h2 with h2; subst h2; exact .refl _)
        rw [if_pos rfl] at this
        show Fz _ _ _ (.list xs.length (eAr f xs) .full)
        rw [hl]
        exact this
      · rw [if_neg hi] at hv
        exact ⟨v, hv, .refl _⟩
    · constructor
      · intro hi
        have : i = id := by simpa using hi
        simp [AH.set, this]
      · intro hi
        have : ¬ i = id := by simpa using hi
        left
        simp [AH.set, this]
  · refine Sub.canon [] [] _ hm (by decide) trivial (fun i v hv => ?_)
    unfold Env.ofList Env.set at hv
    by_cases hi : i = t
    · rw [if_pos hi] at hv
      injection hv with hv
      subst hv; subst hi
      exact ⟨lst f xs .full, _, by rw [he2, if_pos rfl], Wk.fz (.unk (.refl _)), .pure (Pure.lst hpu xs (fun _ h => by cases h))⟩
    · rw [if_neg hi] at hv
      obtain ⟨h1, h2⟩ := hL i v hv
      exact ⟨v, v, by rw [he2, if_neg hi]; exact h1, .refl _, .pure h2⟩
def EnvPu (e : Env) (L : List (Nat × AV)) : Prop := ∀ i v, Env.ofList L i = some v → e i = some v ∧ Pure v
theorem EnvPu.nil : EnvPu e [] := fun t v h => by cases h
theorem EnvPu.add {t : Nat} {v : AV} {L : List (Nat × AV)} (h : e t = some v) (hp : Pure v) (k : EnvPu e L) : EnvPu e ((t, v) :: L) := by
  intro j w hj
  unfold Env.ofList Env.set at hj
  by_cases hji : j = t
  · rw [if_pos hji] at hj
    injection hj with hj
    subst hj; subst hji
    exact ⟨h, hp⟩
  · rw [if_neg hji] at hj
    exact k j w hj
end
end Go.Abs
