/- More light operations, and all of them together: what the abstract step says, the machine does. Conditions: the table of types fits the program. -/
import Derived.Test.YtdlofkamkiojlaaDoorXLtb
set_option linter.unusedVariables false
set_option linter.unusedSimpArgs false
namespace Go.Abs
open Go Go.RowKit

theorem run_mapM_list {α β : Type} {P : Program} {w : World} (f : α → Sem β) : ∀ (xs : List α) (ys : List β), xs.length = ys.length → (∀ (j : Nat) x y, xs[j]? = some x → ys[j]? = some y → (f x).run P w = .ok y w) →
    (xs.mapM f).run P w = .ok ys w := by
  intro xs
  induction xs with
  | nil => intro ys h _; have : ys = [] := by simpa using h.symm
           subst this; rfl
  | cons x xs ih =>
    intro ys h hf
    cases ys with
    | nil => simp at h
    | cons y ys =>
      rw [List.mapM_cons]
      simp only [Sem.run_bind, hf 0 x y rfl rfl, Result.andThen_ok]
      rw [ih ys (by simpa using h) (fun j a b ha hb => hf (j + 1) a b (by simpa using ha) (by simpa using hb))]
      rfl
theorem run_mapM_array {α β : Type} {P : Program} {w : World} (f : α → Sem β) (xs : Array α) (ys : List β) (h : xs.toList.length = ys.length) (hf : ∀ (j : Nat) x y, xs[j]? = some x → ys[j]? = some y → (f x).run P w = .ok y w) :
    (xs.mapM f).run P w = .ok ys.toArray w := by
  rw [Array.mapM_eq_mapM_toList]
  simp only [Sem.run_map]
  rw [run_mapM_list f xs.toList ys h (fun j x y hx hy => hf j x y (by simpa using hx) hy)]
  rfl

section ev
variable {C : Ctx} {K : Kr} {H : AH} {D : List Nat} {w : World} {N : Nat} {e : Env} {a : Act}

theorem build_sound (hC : CtxOk C) (hs : Sat C K H D w) (he : RepE K N e a.tmps) {t : TypeId} {d : ATy} (ht : C.T t = some d) {ps : Array (Nat × Operand)} {vs : List (Nat × AV)} (hp : partsA C e ps.toList = some vs) {v : AV}
    (h : (match d.shape with
      | .struct fs => (fillA (fun i => (fs[i]?).map fun f => (f.1, f.2.1)) d.zero vs).map .agg
      | .array _ esz _ => (fillA (fun i => some (i * esz, esz)) d.zero vs).map .agg
      | _ => none) = some v) :
    ∃ u, (Instr.build t (ps.map fun (i, x) => (i, a.eval x))).run C.P w = .ok u w ∧ RepV K v u := by
  obtain ⟨by', u, hi, hu, hsp⟩ := (hC.ty t d ht).i
  obtain ⟨z, hz, hzb, hz1, hz2⟩ := hi.zeroValue w
  obtain ⟨hzr, hzo⟩ := zeroB_rep K hzb
  obtain ⟨hp1, hp2⟩ := partsA_sound hs he hp
  have hpl : (ps.map fun (i, x) => (i, a.eval x)).toList = ps.toList.map fun p => (p.1, a.eval p.2) := by simp
  split at h
  · rename_i fs hsh
    rw [hsh] at hsp
    obtain ⟨fields, rfl, hlen, hf⟩ := hsp
    simp only [Option.map_eq_some_iff] at h
    obtain ⟨r, hr, rfl⟩ := h
    have hm : (fields.mapM fun f => (do pure (f.offset, ← sizeOf f.type) : Sem (Nat × Nat))).run C.P w = .ok (fs.map fun f => (f.1, f.2.1)).toArray w := by
      refine run_mapM_array _ _ _ (by simpa using hlen) (fun j x y hx hy => ?_)
      simp only [List.getElem?_map, Option.map_eq_some_iff] at hy
      obtain ⟨f, hfj, rfl⟩ := hy
      obtain ⟨ho, b, z', u', hio, _⟩ := hf j f x hfj hx
      simp [hio.sizeOf, ho]
    obtain ⟨r', hr', hrr, hro, _⟩ := fill_sound (K := K) (place' := fun i => (fs.map fun f => (f.1, f.2.1)).toArray[i]?) (cells' := z.cells.toList) (fun i => by simp) (by simpa using hp1) hp2 hzr hzo hr
    refine ⟨.agg r', ?_, by simpa using RepV.agg r'.toList hrr.1 hro hrr.2⟩
    simp only [Instr.build, Sem.run_bind, hz, Result.andThen_ok, run_underlying' hi.un, hm, hpl]
    have hr'' : Instr.fill (fun x => (fs.map fun f => (f.1, f.2.1)).toArray[x]?) z.cells (ps.toList.map fun p => (p.1, a.eval p.2)) = some r' := by simpa using hr'
    rw [hr'']
    rfl
  · rename_i len esz ea hsh
    rw [hsh] at hsp
    obtain ⟨el, b, z', u', rfl, hie, _⟩ := hsp
    simp only [Option.map_eq_some_iff] at h
    obtain ⟨r, hr, rfl⟩ := h
    obtain ⟨r', hr', hrr, hro, _⟩ := fill_sound (K := K) (place' := fun i => some (i * esz, esz)) (cells' := z.cells.toList) (fun i => rfl) (by simpa using hp1) hp2 hzr hzo hr
    refine ⟨.agg r', ?_, by simpa using RepV.agg r'.toList hrr.1 hro hrr.2⟩
    simp only [Instr.build, Sem.run_bind, hz, Result.andThen_ok, run_underlying' hi.un, hie.sizeOf, hpl]
    have hr'' : Instr.fill (fun i => some (i * esz, esz)) z.cells (ps.toList.map fun p => (p.1, a.eval p.2)) = some r' := by simpa using hr'
    rw [hr'']
    rfl
  · cases h

theorem asNat_inv {v : AV} {vv : Value} {n : Nat} (hv : RepV K v vv) (h : v.asNat = some n) : ∃ k i, vv = .int k i ∧ 0 ≤ i ∧ i.toNat = n := by
  unfold AV.asNat at h
  split at h
  · split at h
    · injection h with h
      exact ⟨_, _, hv.int_inv, ‹_›, h⟩
    · cases h
  · cases h
theorem run_sliceBound {P : Program} {w : World} {v : AV} {vv : Value} {n y : Nat} (hv : RepV K v vv) (h : v.asNat = some n) (hy : n ≤ y) (c : BoundsCode) : (Instr.sliceBound vv y c).run P w = .ok n w := by
  obtain ⟨k, i, rfl, h0, h1⟩ := asNat_inv hv h
  simp [Instr.sliceBound, asIntOf, h0, show i ≤ (y : Int) by omega, h1]

/-- An operand that may be left out. -/
def RepO (K : Kr) (x : Option AV) (v : Option Value) : Prop := match x, v with
  | none, none => True
  | some x, some v => RepV K x v
  | _, _ => False

theorem bounds_sound {P : Program} {w : World} {n cap : Nat} {lo hi mx : Option AV} {lo' hi' mx' : Option Value} (h1 : RepO K lo lo') (h2 : RepO K hi hi') (h3 : RepO K mx mx') {l h : Nat} {m : Option Nat} (hn : n ≤ cap)
    (hb : boundsA n lo hi mx = some (l, h, m)) : (Instr.sliceBounds true n cap lo' hi' mx').run P w = .ok (l, h, m.getD cap) w ∧ l ≤ h ∧ h ≤ n ∧ h ≤ m.getD cap ∧ (mx = none → m = none) := by
  have hN : ∀ {v : AV} {k : Nat} {y : Nat}, (match v.asNat with | some k => if k ≤ y then some k else none | none => none) = some k → v.asNat = some k ∧ k ≤ y := by
    intro v k y hk
    split at hk
    · split at hk
      · injection hk with hk; subst hk; exact ⟨‹_›, ‹_›⟩
      · cases hk
    · cases hk
  have hM : ∀ {v : AV} {k : Option Nat} {y : Nat}, (match v.asNat with | some k => if k ≤ y then some (some k) else none | none => none) = some k → ∃ k', k = some k' ∧ v.asNat = some k' ∧ k' ≤ y := by
    intro v k y hk
    split at hk
    · split at hk
      · injection hk with hk; exact ⟨_, hk.symm, ‹_›, ‹_›⟩
      · cases hk
    · cases hk
  unfold boundsA at hb
  dsimp only at hb
  split at hb
  · rename_i l' h' m' hl hh hm
    split at hb
    · rename_i hc
      simp only [Option.some.injEq, Prod.mk.injEq] at hb
      obtain ⟨rfl, rfl, rfl⟩ := hb
      obtain ⟨hc1, hc2⟩ := hc
      cases mx with
      | none =>
        cases mx' with
        | some v => exact h3.elim
        | none =>
          simp only [Option.some.injEq] at hm
          subst hm
          cases hi with
          | none =>
            cases hi' with
            | some v => exact h2.elim
            | none =>
              simp only [Option.some.injEq] at hh
              subst hh
              refine ⟨?_, hc1, Nat.le_refl _, by simpa using hn, fun _ => rfl⟩
              cases lo with
              | none =>
                cases lo' with
                | some v => exact h1.elim
                | none => simp only [Option.some.injEq] at hl; subst hl; rfl
              | some x =>
                cases lo' with
                | none => exact h1.elim
                | some v =>
                  simp only [Instr.sliceBounds, Sem.run_bind, Sem.run_pure, Result.andThen_ok, run_sliceBound h1 hl hc1]
                  rfl
          | some y =>
            cases hi' with
            | none => exact h2.elim
            | some u =>
              obtain ⟨hy, hyn⟩ := hN hh
              refine ⟨?_, hc1, hyn, by simp; omega, fun _ => rfl⟩
              cases lo with
              | none =>
                cases lo' with
                | some v => exact h1.elim
                | none =>
                  simp only [Option.some.injEq] at hl; subst hl
                  simp only [Instr.sliceBounds, Sem.run_bind, Sem.run_pure, Result.andThen_ok, run_sliceBound h2 hy (Nat.le_trans hyn hn)]
                  rfl
              | some x =>
                cases lo' with
                | none => exact h1.elim
                | some v =>
                  simp only [Instr.sliceBounds, Sem.run_bind, Sem.run_pure, Result.andThen_ok, run_sliceBound h2 hy (Nat.le_trans hyn hn), run_sliceBound h1 hl hc1]
                  rfl
      | some z =>
        cases mx' with
        | none => exact h3.elim
        | some zv =>
          obtain ⟨mk, rfl, hz, hzn⟩ := hM hm
          simp only [Option.getD_some] at hc2 ⊢
          cases hi with
          | none => cases hh
          | some y =>
            cases hi' with
            | none => exact h2.elim
            | some u =>
              obtain ⟨hy, hyn⟩ := hN hh
              refine ⟨?_, hc1, hyn, hc2, fun h => by cases h⟩
              cases lo with
              | none =>
                cases lo' with
                | some v => exact h1.elim
                | none =>
                  simp only [Option.some.injEq] at hl; subst hl
                  simp only [Instr.sliceBounds, Sem.run_bind, Sem.run_pure, Result.andThen_ok, run_sliceBound h3 hz (Nat.le_trans hzn hn), run_sliceBound h2 hy hc2]
              | some x =>
                cases lo' with
                | none => exact h1.elim
                | some v =>
                  simp only [Instr.sliceBounds, Sem.run_bind, Sem.run_pure, Result.andThen_ok, run_sliceBound h3 hz (Nat.le_trans hzn hn), run_sliceBound h2 hy hc2, run_sliceBound h1 hl hc1]
    · cases hb
  · cases hb

theorem slice_sound (hC : CtxOk C) {t : TypeId} {d : ATy} (ht : C.T t = some d) {x v : AV} {xv : Value} (hx : RepV K x xv) {lo hi mx : Option AV} {lo' hi' mx' : Option Value} (h1 : RepO K lo lo') (h2 : RepO K hi hi') (h3 : RepO K mx mx')
    (h : sliceA d x lo hi mx = some v) : ∃ u, (Instr.sliceAt t xv lo' hi' mx').run C.P w = .ok u w ∧ RepV K v u := by
  obtain ⟨by', u, hty, hu, hsp⟩ := (hC.ty t d ht).i
  unfold sliceA at h
  split at h
  · rename_i esz eb ez n cs c hsh
    rw [hsh] at hsp
    obtain ⟨el, u', rfl, hie⟩ := hsp
    split at h
    · rename_i hcs
      obtain ⟨hcs, hesz⟩ := hcs
      split at h
      · rename_i l hh m hb
        injection h with h
        subst h
        cases hx with
        | list vs hl hc ho hr hn hcap =>
          rename_i cap A
          obtain ⟨hrun, b1, b2, b3, b4⟩ := bounds_sound (P := C.P) (w := w) h1 h2 h3 hn hb
          refine ⟨.slice (if m.getD cap = l then A else A.map (·.add (l * esz))) (hh - l) (m.getD cap - l), ?_, ?_⟩
          · simp only [Instr.sliceAt, Sem.run_bind, run_underlying' hty.un, Result.andThen_ok, Instr.slice, hrun, hie.sizeOf, Sem.run_pure]
          · refine .list ((vs.drop (l * esz)).take ((hh - l) * esz)) (by simp [hl]) ?_ (fun a ha => ho a (List.mem_of_mem_drop (List.mem_of_mem_take ha))) ?_ (by omega) ?_
            · by_cases hlt : l < hh
              · right
                rcases hc with hc | ⟨b, o, rfl, hc⟩
                · exfalso
                  rw [hc] at hcs
                  have h00 : n * esz = 0 := hcs.symm
                  rcases Nat.mul_eq_zero.1 h00 with h0 | h0
                  · omega
                  · omega
                · refine ⟨b, o + l * esz, ?_, fun j v hv => ?_⟩
                  · rw [if_neg (by omega)]; simp [add_at]
                  · rw [List.getElem?_take] at hv
                    split at hv
                    · rw [List.getElem?_drop] at hv
                      have := hc _ v hv
                      rw [show o + l * esz + j = o + (l * esz + j) by omega]
                      exact this
                    · cases hv
              · left
                rw [show hh - l = 0 by omega]
                simp
            · exact fun j a v ha hv => (RepL.take (RepL.drop ⟨hl, hr⟩ _) _).2 j a v ha hv
            · cases m with
              | some m =>
                by_cases hm : m = hh
                · simp only [hm, if_true, CapOk, Option.getD_some]
                · simp only [hm, if_false]; trivial
              | none =>
                by_cases hf : c = .full ∧ hh = n
                · obtain ⟨rfl, rfl⟩ := hf
                  simp only [and_self, if_true, CapOk, Option.getD_none]
                  simp only [CapOk] at hcap
                  omega
                · simp only [hf, if_false]; trivial
      · cases h
    · cases h
  · rename_i esz eb ez id off n cap hsh
    rw [hsh] at hsp
    obtain ⟨el, u', rfl, hie⟩ := hsp
    split at h
    · rename_i l hh m hb
      split at h
      · cases h
      · rename_i hne
        injection h with h
        subst h
        cases hx with
        | ms hbk hn hcp =>
          rename_i cap' b
          have hcp' := hcp cap rfl
          subst hcp'
          obtain ⟨hrun, b1, b2, b3, b4⟩ := bounds_sound (P := C.P) (w := w) h1 h2 h3 hn hb
          refine ⟨.slice (some ⟨b, off + l * esz, none⟩) (hh - l) (m.getD cap' - l), ?_, .ms hbk (by omega) (fun k hk => by injection hk with hk)⟩
          simp only [Instr.sliceAt, Sem.run_bind, run_underlying' hty.un, Result.andThen_ok, Instr.slice, hrun, hie.sizeOf, Sem.run_pure]
          rw [if_neg hne]
          simp [add_at]
    · cases h
  · cases h
end ev
end Go.Abs
