/- What is written no more can be told by what it holds; and a call that is handed no address runs as on an empty heap. Conditions: none (lemmas). -/
import Derived.Test.YtdlofkamkiojlaaDoorXSnd
set_option linter.unusedVariables false
set_option linter.unusedSimpArgs false
namespace Go.Abs
open Go Go.RowKit

section fz
variable {C : Ctx} {K : Kr} {H H0 : AH} {D : List Nat} {w : World} {S : Nat → Bool}

open Classical in
noncomputable def Kr.freeze (K : Kr) (S : Nat → Bool) (H : AH) (w : World) : Kr := { K with
  G := fun b o => if ∃ i cs, S i = true ∧ K.β i = some b ∧ H.g i = .cells cs then w.cell? ⟨b, o, none⟩ else K.G b o
  M := fun b => if ∃ i es, S i = true ∧ K.β i = some b ∧ H.g i = .map es then (match w.heap[b]? with | some (.map cs _) => some cs.toList | _ => none) else K.M b }

theorem Kr.freeze_G {b : Nat} (h : ∃ i cs, S i = true ∧ K.β i = some b ∧ H.g i = .cells cs) (o : Nat) : (K.freeze S H w).G b o = w.cell? ⟨b, o, none⟩ := if_pos h
theorem Kr.freeze_G' {b : Nat} (h : ¬ ∃ i cs, S i = true ∧ K.β i = some b ∧ H.g i = .cells cs) (o : Nat) : (K.freeze S H w).G b o = K.G b o := if_neg h
theorem Kr.freeze_M {b : Nat} (h : ∃ i es, S i = true ∧ K.β i = some b ∧ H.g i = .map es) : (K.freeze S H w).M b = (match w.heap[b]? with | some (.map cs _) => some cs.toList | _ => none) := if_pos h
theorem Kr.freeze_M' {b : Nat} (h : ¬ ∃ i es, S i = true ∧ K.β i = some b ∧ H.g i = .map es) : (K.freeze S H w).M b = K.M b := if_neg h

theorem Kr.freeze_le (hs : Sat C K H D w) : K.le (K.freeze S H w) := by
  refine ⟨rfl, fun b o v h => ?_, fun _ _ h => h, fun _ _ _ => rfl, fun b cs h => ?_, fun b hb => ⟨fun o => ?_, ?_⟩⟩
  · rw [Kr.freeze_G']
    · exact h
    · rintro ⟨i, cs, _, hi, hg⟩
      obtain ⟨_, _, _, h4⟩ := hs.obj i b hi
      rw [hg] at h4
      obtain ⟨vs, us, ty, _, _, _, hG⟩ := h4
      rw [hG] at h; cases h
  · rw [Kr.freeze_M']
    · exact h
    · rintro ⟨i, es, _, hi, hg⟩
      obtain ⟨_, _, _, h4⟩ := hs.obj i b hi
      rw [hg] at h4
      obtain ⟨cs', clk, _, _, _, _, hM⟩ := h4
      rw [hM] at h; cases h
  · rw [Kr.freeze_G']
    rintro ⟨i, cs, _, hi, hg⟩
    have := (hs.obj i b hi).1
    rw [this] at hb; cases hb
  · rw [Kr.freeze_M']
    rintro ⟨i, es, _, hi, hg⟩
    have := (hs.obj i b hi).1
    rw [this] at hb; cases hb

theorem Fz.one {a a' : AV} (h : Fz S H a a') : a'.one = a.one := by cases h <;> rfl

theorem ones_fz {cs cs' : List AV} (hl : cs'.length = cs.length) (hf : ∀ (j : Nat) a a', cs[j]? = some a → cs'[j]? = some a' → Fz S H a a') (ho : ∀ a ∈ cs, a.one = true) : ∀ a ∈ cs', a.one = true := by
  intro a ha
  obtain ⟨j, hj⟩ := List.mem_iff_getElem?.1 ha
  have hlt := (List.getElem?_eq_some_iff.1 hj).1
  have hc : cs[j]? = some (cs[j]'(by omega)) := List.getElem?_eq_getElem _
  rw [(hf j _ _ hc hj).one]
  exact ho _ (List.getElem_mem _)

theorem fz_sound (hs : Sat C K H D w) {a a' : AV} (h : Fz S H a a') : ∀ {v : Value}, RepV K a v → RepV (K.freeze S H w) a' v := by
  have hle := Kr.freeze_le (S := S) hs
  induction h with
  | refl a => intro v hv; exact hv.mono hle
  | @ptr id off k cs cs' hS hg hl hl' hf ih =>
    intro v hv
    cases hv with
    | ptr hb =>
      rename_i b
      obtain ⟨o1, o2, o3, o4⟩ := hs.obj id b hb
      rw [hg] at o4
      obtain ⟨vs, us, ty, hh, hr, ho, hG⟩ := o4
      have hrs := (hr.drop off).take k
      have hlen : ((vs.drop off).take k).length = k := by have := hr.1; simp; omega
      have hlc : ((cs.drop off).take k).length = k := by simp; omega
      refine .ro ((vs.drop off).take k) (by rw [hlen, hl']) (fun j v hj => ?_) (ones_fz (by omega) hf (fun x hx => ho x (List.mem_of_mem_drop (List.mem_of_mem_take hx)))) (fun j a v ha hv => ?_)
      · rw [Kr.freeze_G ⟨id, cs, hS, hb, hg⟩, cell_of hh]
        rw [List.getElem?_take] at hj
        split at hj
        · rw [List.getElem?_drop] at hj
          have hlt := (List.getElem?_eq_some_iff.1 hj).1
          rw [List.getElem?_toArray, List.getElem?_append_left hlt]
          exact hj
        · cases hj
      · have hlt := (List.getElem?_eq_some_iff.1 ha).1
        have hc : ((cs.drop off).take k)[j]? = some (((cs.drop off).take k)[j]'(by omega)) := List.getElem?_eq_getElem _
        exact ih j _ _ hc ha (hrs.2 j _ v hc hv)
  | @ms id off n k cap cs cs' hS hg hl hl' hf ih =>
    intro v hv
    cases hv with
    | ms hb hn hc =>
      rename_i cp b
      obtain ⟨o1, o2, o3, o4⟩ := hs.obj id b hb
      rw [hg] at o4
      obtain ⟨vs, us, ty, hh, hr, ho, hG⟩ := o4
      have hrs := (hr.drop off).take k
      have hlen : ((vs.drop off).take k).length = k := by have := hr.1; simp; omega
      have hlc : ((cs.drop off).take k).length = k := by simp; omega
      refine .list ((vs.drop off).take k) (by rw [hlen, hl']) (.inr ⟨b, off, rfl, fun j v hj => ?_⟩) (ones_fz (by omega) hf (fun x hx => ho x (List.mem_of_mem_drop (List.mem_of_mem_take hx)))) (fun j a v ha hv => ?_) hn ?_
      · rw [Kr.freeze_G ⟨id, cs, hS, hb, hg⟩, cell_of hh]
        rw [List.getElem?_take] at hj
        split at hj
        · rw [List.getElem?_drop] at hj
          have hlt := (List.getElem?_eq_some_iff.1 hj).1
          rw [List.getElem?_toArray, List.getElem?_append_left hlt]
          exact hj
        · cases hj
      · have hlt := (List.getElem?_eq_some_iff.1 ha).1
        have hc : ((cs.drop off).take k)[j]? = some (((cs.drop off).take k)[j]'(by omega)) := List.getElem?_eq_getElem _
        exact ih j _ _ hc ha (hrs.2 j _ v hc hv)
      · split
        · rename_i hcap; exact hc _ hcap
        · trivial
  | @map id es es' hS hg hl hf1 hf2 ih1 ih2 =>
    intro v hv
    cases hv with
    | map hb =>
      rename_i b
      obtain ⟨o1, o2, o3, o4⟩ := hs.obj id b hb
      rw [hg] at o4
      obtain ⟨cs, clk, hh, hcl, hp, hG, hM⟩ := o4
      have get : ∀ (j : Nat) p', es'[j]? = some p' → ∃ p, es[j]? = some p := fun j p' hj => ⟨_, List.getElem?_eq_getElem (by have := (List.getElem?_eq_some_iff.1 hj).1; omega)⟩
      refine .romap cs (by rw [Kr.freeze_M ⟨id, es, hS, hb, hg⟩, hh]) (by omega) (fun j p' c hp' hc' => ?_) (fun j p' c hp' hc' => ?_)
      · obtain ⟨p, hpj⟩ := get j p' hp'
        exact ih1 j p p' hpj hp' (hp j p c hpj hc').1
      · obtain ⟨p, hpj⟩ := get j p' hp'
        exact ih2 j p p' hpj hp' (hp j p c hpj hc').2
  | @ro cs cs' hl hf ih =>
    intro v hv
    cases hv with
    | ro vs hvl hh ho hp =>
      refine .ro vs (by omega) (hh.mono hle) (ones_fz hl hf ho) (fun j a v ha hv => ?_)
      have hlt := (List.getElem?_eq_some_iff.1 ha).1
      have hc : cs[j]? = some (cs[j]'(by omega)) := List.getElem?_eq_getElem _
      exact ih j _ _ hc ha (hp j _ v hc hv)
  | nilmap => intro v hv; cases hv with | nilmap => exact .romap0
  | @list n cs cs' c c' hl hf hc' ih =>
    intro v hv
    cases hv with
    | list vs hvl hh ho hp hn hcap =>
      refine .list vs (by omega) ?_ (ones_fz hl hf ho) (fun j a v ha hv => ?_) hn ?_
      · rcases hh with hh | ⟨b, o, hA, hh⟩
        · exact .inl (by rw [hh] at hl; simpa using hl)
        · exact .inr ⟨b, o, hA, hh.mono hle⟩
      · have hlt := (List.getElem?_eq_some_iff.1 ha).1
        have hcc : cs[j]? = some (cs[j]'(by omega)) := List.getElem?_eq_getElem _
        exact ih j _ _ hcc ha (hp j _ v hcc hv)
      · rcases hc' with rfl | rfl
        · rw [hl]; exact hcap.mono hle
        · trivial
  | @agg cs cs' hl hf ih =>
    intro v hv
    cases hv with
    | agg vs hvl ho hp =>
      refine .agg vs (by omega) (ones_fz hl hf ho) (fun j a v ha hv => ?_)
      have hlt := (List.getElem?_eq_some_iff.1 ha).1
      have hc : cs[j]? = some (cs[j]'(by omega)) := List.getElem?_eq_getElem _
      exact ih j _ _ hc ha (hp j _ v hc hv)
  | @tuple cs cs' hl hf ih =>
    intro v hv
    cases hv with
    | tuple vs hvl hp =>
      refine .tuple vs (by omega) (fun j a v ha hv => ?_)
      have hlt := (List.getElem?_eq_some_iff.1 ha).1
      have hc : cs[j]? = some (cs[j]'(by omega)) := List.getElem?_eq_getElem _
      exact ih j _ _ hc ha (hp j _ v hc hv)

theorem Sat.freeze (hs : Sat C K H D w) (hn : H0.n = H.n) (hO : ∀ i, (S i = true → H0.g i = .gone) ∧ (S i = false → FzO S H (H.g i) (H0.g i))) : Sat C (K.freeze S H w) H0 D w := by
  have hle := Kr.freeze_le (S := S) hs
  have live : ∀ i, (H0.g i).live = true → S i = false ∧ (H.g i).live = true := by
    intro i hi
    cases hS : S i with
    | true => rw [(hO i).1 hS] at hi; cases hi
    | false =>
      refine ⟨rfl, ?_⟩
      rcases (hO i).2 hS with h | ⟨cs, cs', h1, h2, _⟩
      · rw [← h]; exact hi
      · rw [h1]; rfl
  refine ⟨hs.base, fun b o v hv => ?_, fun id b hb => ?_, fun i j b hi hj li lj => ?_, hs.defs, hs.nodup, fun g cs hg => (hs.glob g cs hg).mono hle, fun b cs hb => ?_⟩
  · by_cases hc : ∃ i cs, S i = true ∧ K.β i = some b ∧ H.g i = .cells cs
    · rw [Kr.freeze_G hc] at hv; exact hv
    · rw [Kr.freeze_G' hc] at hv; exact hs.g b o v hv
  · obtain ⟨o1, o2, o3, o4⟩ := hs.obj id b hb
    refine ⟨o1, o2, by omega, ?_⟩
    by_cases hlive : (H0.g id).live = true
    · obtain ⟨hS, hl⟩ := live id hlive
      have nG : ¬ ∃ i cs, S i = true ∧ K.β i = some b ∧ H.g i = .cells cs := by
        rintro ⟨i, cs, hSi, hi, hg⟩
        have := hs.inj i id b hi hb (by rw [hg]; rfl) hl
        rw [this, hS] at hSi; cases hSi
      have nM : ¬ ∃ i es, S i = true ∧ K.β i = some b ∧ H.g i = .map es := by
        rintro ⟨i, es, hSi, hi, hg⟩
        have := hs.inj i id b hi hb (by rw [hg]; rfl) hl
        rw [this, hS] at hSi; cases hSi
      rcases (hO id).2 hS with h | ⟨cs, cs', h1, h2, h3, h4⟩
      · rw [h]
        exact o4.mono hle rfl (fun o => Kr.freeze_G' nG o) (Kr.freeze_M' nM)
      · rw [h1] at o4
        rw [h2]
        obtain ⟨vs, us, ty, hh, hr, ho, hG⟩ := o4
        refine ⟨vs, us, ty, hh, ⟨by have := hr.1; omega, fun j a v ha hv => ?_⟩, ones_fz h3 h4 ho, fun o => (Kr.freeze_G' nG o).trans (hG o)⟩
        have hlt := (List.getElem?_eq_some_iff.1 ha).1
        have hc : cs[j]? = some (cs[j]'(by omega)) := List.getElem?_eq_getElem _
        exact fz_sound hs (h4 j _ _ hc ha) (hr.2 j _ v hc hv)
    · cases hg : H0.g id with
      | gone => trivial
      | _ => rw [hg] at hlive; exact absurd rfl hlive
  · exact hs.inj i j b hi hj (live i li).2 (live j lj).2
  · by_cases hc : ∃ i es, S i = true ∧ K.β i = some b ∧ H.g i = .map es
    · rw [Kr.freeze_M hc] at hb
      split at hb
      · rename_i cs' clk hh
        injection hb with hb
        subst hb
        exact ⟨clk, by rw [hh]⟩
      · cases hb
    · rw [Kr.freeze_M' hc] at hb; exact hs.m b cs hb

/-! ### A call that is handed no address -/
theorem Pure.rep {K K' : Kr} (hG : ∀ b o v, K.G b o = some v → K'.G b o = some v) (hM : ∀ b cs, K.M b = some cs → K'.M b = some cs) {a : AV} (h : Pure a) : ∀ {v : Value}, RepV K a v → RepV K' a v := by
  induction h with
  | bool b => intro v hv; cases hv; exact .bool _
  | int k n => intro v hv; cases hv; exact .int _ _
  | nilmap => intro v hv; cases hv; exact .nilmap
  | nilFunc => intro v hv; cases hv; exact .nilFunc
  | ro hp ih =>
    intro v hv
    cases hv with
    | ro vs hl hh ho hr => exact .ro vs hl (fun j v hj => hG _ _ _ (hh j v hj)) ho (fun j a v ha hv => ih a (List.mem_of_getElem? ha) (hr j a v ha hv))
  | list hp hc ih =>
    intro v hv
    cases hv with
    | list vs hl hh ho hr hn hcap =>
      refine .list vs hl (hh.imp id fun ⟨b, o, e, x⟩ => ⟨b, o, e, fun j v hj => hG _ _ _ (x j v hj)⟩) ho (fun j a v ha hv => ih a (List.mem_of_getElem? ha) (hr j a v ha hv)) hn ?_
      rename_i c _ _
      cases c with
      | full => exact hcap
      | unk => trivial
      | tok id => exact absurd rfl (hc id)
  | romap hp1 hp2 ih1 ih2 =>
    intro v hv
    cases hv with
    | romap cs hb hl i1 i2 => exact .romap cs (hM _ _ hb) hl (fun j p c hp hc => ih1 p (List.mem_of_getElem? hp) (i1 j p c hp hc)) (fun j p c hp hc => ih2 p (List.mem_of_getElem? hp) (i2 j p c hp hc))
    | romap0 => exact .romap0
  | func hp1 hp2 ih1 ih2 =>
    intro v hv
    cases hv with
    | func xs ys h1 h2 i1 i2 => exact .func xs ys h1 h2 (fun j a v ha hv => ih1 a (List.mem_of_getElem? ha) (i1 j a v ha hv)) (fun j a v ha hv => ih2 a (List.mem_of_getElem? ha) (i2 j a v ha hv))
  | agg hp ih =>
    intro v hv
    cases hv with
    | agg vs hl ho hr => exact .agg vs hl ho (fun j a v ha hv => ih a (List.mem_of_getElem? ha) (hr j a v ha hv))
  | tuple hp ih =>
    intro v hv
    cases hv with
    | tuple vs hl hr => exact .tuple vs hl (fun j a v ha hv => ih a (List.mem_of_getElem? ha) (hr j a v ha hv))

theorem frame_sound (hC : CtxOk C) (hg : ∀ g cs, C.glob g = some cs → Pure (.ro cs)) {f : FuncId} {args : List AV} {v : AV} {H1 : AH} (h : SCall C f args AH.nil v H1) (ha : ∀ a ∈ args, Pure a) (hv : Pure v) : SCall C f args H v H := by
  refine ⟨h.1, fun K D w argsC cs hs hargs => ?_⟩
  obtain ⟨Kz, hKz⟩ : ∃ Kz : Kr, Kz = { w0 := ⟨w, fun b => decide (b < w.heap.size)⟩, G := K.G, β := fun _ => none, tk := K.tk, M := K.M } := ⟨_, rfl⟩
  have sz : Sat C Kz AH.nil [] w := by
    rw [hKz]
    refine ⟨⟨rfl, rfl, rfl, Nat.le_refl _, fun _ _ => rfl, fun k hk => by simpa using hk⟩, hs.g, fun id b hb => (by cases hb), fun i j b hi => (by cases hi), fun b hb => (by cases hb), List.nodup_nil, fun g cs hgc => (hg g cs hgc).rep (K := K) (K' := { w0 := ⟨w, fun b => decide (b < w.heap.size)⟩, G := K.G, β := fun _ => none, tk := K.tk, M := K.M }) (fun _ _ _ h => h) (fun _ _ h => h) (hs.glob g cs hgc), hs.m⟩
  have rz : RepL Kz args argsC.toList := ⟨hargs.1, fun j a v hj hv => (ha a (List.mem_of_getElem? hj)).rep (by rw [hKz]; exact fun _ _ _ h => h) (by rw [hKz]; exact fun _ _ h => h) (hargs.2 j a v hj hv)⟩
  obtain ⟨K1, w', fr, vc, st, hfn, hlv, hle, hfz, s1, r1⟩ := h.2 Kz [] w argsC cs sz rz
  have hw0 : K1.w0 = ⟨w, fun b => decide (b < w.heap.size)⟩ := by rw [hle.w0, hKz]
  have hb1 : BelowP (fun b => decide (b < w.heap.size)) w w' := by have := s1.base; rw [hw0] at this; exact this
  have hold : ∀ b, b < w.heap.size → (∀ o, K1.G b o = K.G b o) ∧ K1.M b = K.M b := by
    intro b hb
    have := hle.old b (by rw [hKz]; simpa using hb)
    rw [hKz] at this
    exact this
  have hlt : ∀ b, K.w0.P b = true → b < w.heap.size := fun b hb => by have := hs.base.lt b hb; have := hs.base.size; omega
  refine ⟨{ w0 := K.w0, G := K1.G, β := K.β, tk := K.tk, M := K1.M }, w', fr, vc, st, hfn, hlv, ?_, ?_, ?_, ?_⟩
  · refine ⟨rfl, fun b o v h => hle.G b o v (by rw [hKz]; exact h), fun _ _ h => h, fun _ _ _ => rfl, fun b cs h => hle.M b cs (by rw [hKz]; exact h), fun b hb => hold b (hlt b hb)⟩
  · exact ⟨Nat.le_refl _, fun i _ hb => ⟨hb, rfl⟩⟩
  · refine ⟨?_, s1.g, fun id b hb => ?_, hs.inj, fun b hb => ?_, hs.nodup, fun g cs hgc => (hg g cs hgc).rep (K := K1) (K' := { w0 := K.w0, G := K1.G, β := K.β, tk := K.tk, M := K1.M }) (fun _ _ _ h => h) (fun _ _ h => h) (s1.glob g cs hgc), s1.m⟩
    · exact hs.base.trans ⟨hb1.os, hb1.tape, hb1.output, hb1.size, fun k hk => hb1.block k (by simpa using hlt k hk), hlt⟩
    · obtain ⟨o1, o2, o3, o4⟩ := hs.obj id b hb
      have hG := hold b o2
      have hw := hb1.block b (by simpa using o2)
      refine ⟨o1, by have := hb1.size; omega, o3, ?_⟩
      have hle2 : K.le { w0 := K.w0, G := K1.G, β := K.β, tk := K.tk, M := K1.M } := ⟨rfl, fun b o v h => hle.G b o v (by rw [hKz]; exact h), fun _ _ h => h, fun _ _ _ => rfl, fun b cs h => hle.M b cs (by rw [hKz]; exact h), fun b hb => hold b (hlt b hb)⟩
      exact o4.mono hle2 hw hG.1 hG.2
    · obtain ⟨d1, d2⟩ := hs.defs b hb
      exact ⟨d1, by rw [hb1.block b (by simpa using lt_of_heap d2)]; exact d2⟩
  · exact hv.rep (K := K1) (K' := { w0 := K.w0, G := K1.G, β := K.β, tk := K.tk, M := K1.M }) (fun _ _ _ h => h) (fun _ _ h => h) r1

/-! ### The objects under other numbers -/
def Kr.ren (K : Kr) (ρ : Nat → Option Nat) : Kr := { K with β := fun i => (ρ i).bind K.β, tk := fun i => match ρ i with | some j => K.tk j | none => (0, 0) }
theorem Kr.ren_β {ρ : Nat → Option Nat} {i j b : Nat} (h : ρ i = some j) (hb : K.β j = some b) : (K.ren ρ).β i = some b := by simp [Kr.ren, h, hb]
theorem Kr.ren_tk {ρ : Nat → Option Nat} {i j : Nat} (h : ρ i = some j) : (K.ren ρ).tk i = K.tk j := by simp [Kr.ren, h]
theorem Rn.one {ρ : Nat → Option Nat} {a a' : AV} (h : Rn ρ a a') : a'.one = a.one := by cases h <;> rfl
theorem ones_rn {ρ : Nat → Option Nat} {cs cs' : List AV} (hl : cs'.length = cs.length) (hf : ∀ (j : Nat) a a', cs[j]? = some a → cs'[j]? = some a' → Rn ρ a a') (ho : ∀ a ∈ cs, a.one = true) : ∀ a ∈ cs', a.one = true := by
  intro a ha
  obtain ⟨j, hj⟩ := List.mem_iff_getElem?.1 ha
  have hlt := (List.getElem?_eq_some_iff.1 hj).1
  have hc : cs[j]? = some (cs[j]'(by omega)) := List.getElem?_eq_getElem _
  rw [(hf j _ _ hc hj).one]
  exact ho _ (List.getElem_mem _)
theorem rn_sound {ρ : Nat → Option Nat} {a a' : AV} (h : Rn ρ a a') : ∀ {v : Value}, RepV K a v → RepV (K.ren ρ) a' v := by
  have sub : ∀ {cs cs' : List AV} (hl : cs'.length = cs.length) (ih : ∀ (j : Nat) a a', cs[j]? = some a → cs'[j]? = some a' → ∀ {v : Value}, RepV K a v → RepV (K.ren ρ) a' v) {vs : List Value}
      (hp : ∀ (j : Nat) a v, cs[j]? = some a → vs[j]? = some v → RepV K a v), ∀ (j : Nat) a v, cs'[j]? = some a → vs[j]? = some v → RepV (K.ren ρ) a v := by
    intro cs cs' hl ih vs hp j a v ha hv
    have hlt := (List.getElem?_eq_some_iff.1 ha).1
    have hc : cs[j]? = some (cs[j]'(by omega)) := List.getElem?_eq_getElem _
    exact ih j _ _ hc ha (hp j _ v hc hv)
  induction h with
  | pure hp => intro v hv; exact hp.rep (K := K) (K' := K.ren ρ) (fun _ _ _ h => h) (fun _ _ h => h) hv
  | ptr hρ => intro v hv; cases hv with | ptr hb => exact .ptr (Kr.ren_β hρ hb)
  | ms hρ => intro v hv; cases hv with | ms hb hn hc => exact .ms (Kr.ren_β hρ hb) hn hc
  | map hρ => intro v hv; cases hv with | map hb => exact .map (Kr.ren_β hρ hb)
  | yieldf hρ => intro v hv; cases hv with | yieldf hb => exact .yieldf (Kr.ren_β hρ hb)
  | ro hl hf ih => intro v hv; cases hv with | ro vs hvl hh ho hp => exact .ro vs (by omega) hh (ones_rn hl hf ho) (sub hl ih hp)
  | list hl hf hc ih =>
    intro v hv
    cases hv with
    | list vs hvl hh ho hp hn hcap =>
      refine .list vs (by omega) ?_ (ones_rn hl hf ho) (sub hl ih hp) hn ?_
      · rcases hh with hh | hh
        · exact .inl (by rw [hh] at hl; simpa using hl)
        · exact .inr hh
      · rcases hc with rfl | ⟨rfl, rfl⟩ | ⟨i, j, rfl, rfl, hρ⟩
        · trivial
        · exact hcap
        · obtain ⟨b, sz, h1, h2, h3, h4, h5⟩ := hcap
          exact ⟨b, sz, h1, Kr.ren_β hρ h2, h3, by omega, by rw [Kr.ren_tk hρ]; exact h5⟩
  | func h1 h2 hf1 hf2 ih1 ih2 => intro v hv; cases hv with | func xs ys l1 l2 p1 p2 => exact .func xs ys (by omega) (by omega) (sub h1 ih1 p1) (sub h2 ih2 p2)
  | agg hl hf ih => intro v hv; cases hv with | agg vs hvl ho hp => exact .agg vs (by omega) (ones_rn hl hf ho) (sub hl ih hp)
  | tuple hl hf ih => intro v hv; cases hv with | tuple vs hvl hp => exact .tuple vs (by omega) (sub hl ih hp)

theorem Sat.ren (hs : Sat C K H D w) (hg : ∀ g cs, C.glob g = some cs → Pure (.ro cs)) {ρ : Nat → Option Nat} (hO : ∀ i j, ρ i = some j → i < H0.n ∧ RnO ρ (H.g j) (H0.g i)) (hinj : ∀ i i' j, ρ i = some j → ρ i' = some j → i = i') : Sat C (K.ren ρ) H0 D w := by
  have back : ∀ {i b}, (K.ren ρ).β i = some b → ∃ j, ρ i = some j ∧ K.β j = some b := by
    intro i b h
    cases hρ : ρ i with
    | none => simp [Kr.ren, hρ] at h
    | some j => exact ⟨j, rfl, by simpa [Kr.ren, hρ] using h⟩
  refine ⟨hs.base, hs.g, fun i b hb => ?_, fun i i' b hi hi' li li' => ?_, hs.defs, hs.nodup, fun g cs hgc => (hg g cs hgc).rep (K := K) (K' := K.ren ρ) (fun _ _ _ h => h) (fun _ _ h => h) (hs.glob g cs hgc), hs.m⟩
  · obtain ⟨j, hρ, hj⟩ := back hb
    obtain ⟨o1, o2, o3, o4⟩ := hs.obj j b hj
    obtain ⟨hlt, hr⟩ := hO i j hρ
    refine ⟨o1, o2, hlt, ?_⟩
    generalize hx : H.g j = x at hr o4
    generalize hy : H0.g i = y at hr
    cases hr with
    | cells hl hf =>
      obtain ⟨vs, us, ty, hh, hr, ho, hG⟩ := o4
      refine ⟨vs, us, ty, hh, ⟨by have := hr.1; omega, fun k a v ha hv => ?_⟩, ones_rn hl hf ho, hG⟩
      have hlt := (List.getElem?_eq_some_iff.1 ha).1
      rename_i cs cs'
      have hc : cs[k]? = some (cs[k]'(by omega)) := List.getElem?_eq_getElem _
      exact rn_sound (hf k _ _ hc ha) (hr.2 k _ v hc hv)
    | map hl hf =>
      obtain ⟨cs, clk, hh, hcl, hp, hG⟩ := o4
      refine ⟨cs, clk, hh, by omega, fun k p c hpk hck => ?_, hG⟩
      have hlt := (List.getElem?_eq_some_iff.1 hpk).1
      rename_i es es'
      have hc : es[k]? = some (es[k]'(by omega)) := List.getElem?_eq_getElem _
      obtain ⟨f1, f2⟩ := hf k _ _ hc hpk
      obtain ⟨p1, p2⟩ := hp k _ c hc hck
      exact ⟨rn_sound f1 p1, rn_sound f2 p2⟩
    | own =>
      obtain ⟨vs, ty, lo, hi, h1, h0, h2, h3, h4, h5⟩ := o4
      exact ⟨vs, ty, lo, hi, h1, Kr.ren_β hρ h0, by rw [Kr.ren_tk hρ]; exact h2, h3, h4, h5⟩
    | loop q1 q2 q3 q4 q5 q6 hf =>
      obtain ⟨l, h1, h2, h3, h4, h5, h6, h7, h8⟩ := o4
      refine ⟨l, h1, by rw [q1]; exact h2, by rw [q2]; exact h3, ⟨by rw [q3]; exact h4.1, fun t v' ht => ?_⟩, by rw [q4]; exact h5, by rw [q5]; exact h6, by rw [q6]; exact h7, h8⟩
      obtain ⟨v, hv, hrn⟩ := hf t v' ht
      obtain ⟨u, hu, hur⟩ := h4.2 t v hv
      exact ⟨u, hu, rn_sound hrn hur⟩
    | gone => trivial
  · obtain ⟨j, hρ, hj⟩ := back hi
    obtain ⟨j', hρ', hj'⟩ := back hi'
    have lv : ∀ {i j}, ρ i = some j → (H0.g i).live = true → (H.g j).live = true := by
      intro i j hρ hl
      obtain ⟨_, hr⟩ := hO i j hρ
      generalize H.g j = x at hr
      generalize H0.g i = y at hr hl
      cases hr <;> first | rfl | cases hl
    have := hs.inj j j' b hj hj' (lv hρ li) (lv hρ' li')
    subst this
    exact hinj i i' j hρ hρ'
theorem RnO.live {ρ : Nat → Option Nat} {o o' : AObj} (h : RnO ρ o o') (hl : o'.live = true) : o.live = true := by
  cases h <;> first | rfl | cases hl
theorem ObjOk.ren {ρ : Nat → Option Nat} {i j b : Nat} {o o' : AObj} (hr : RnO ρ o o') (hij : ρ i = some j) (h : ObjOk K j o b w) : ObjOk (K.ren ρ) i o' b w := by
  cases hr with
  | cells hl hf =>
    obtain ⟨vs, us, ty, hh, hr, ho, hG⟩ := h
    refine ⟨vs, us, ty, hh, ⟨by have := hr.1; omega, fun k a v ha hv => ?_⟩, ones_rn hl hf ho, hG⟩
    have hlt := (List.getElem?_eq_some_iff.1 ha).1
    rename_i cs cs'
    have hc : cs[k]? = some (cs[k]'(by omega)) := List.getElem?_eq_getElem _
    exact rn_sound (hf k _ _ hc ha) (hr.2 k _ v hc hv)
  | map hl hf =>
    obtain ⟨cs, clk, hh, hcl, hp, hG⟩ := h
    refine ⟨cs, clk, hh, by omega, fun k p c hpk hck => ?_, hG⟩
    have hlt := (List.getElem?_eq_some_iff.1 hpk).1
    rename_i es es'
    have hc : es[k]? = some (es[k]'(by omega)) := List.getElem?_eq_getElem _
    obtain ⟨f1, f2⟩ := hf k _ _ hc hpk
    obtain ⟨p1, p2⟩ := hp k _ c hc hck
    exact ⟨rn_sound f1 p1, rn_sound f2 p2⟩
  | own =>
    obtain ⟨vs, ty, lo, hi, h1, h0, h2, h3, h4, h5⟩ := h
    exact ⟨vs, ty, lo, hi, h1, Kr.ren_β hij h0, by rw [Kr.ren_tk hij]; exact h2, h3, h4, h5⟩
  | loop q1 q2 q3 q4 q5 q6 hf =>
    obtain ⟨l, h1, h2, h3, h4, h5, h6, h7, h8⟩ := h
    refine ⟨l, h1, by rw [q1]; exact h2, by rw [q2]; exact h3, ⟨by rw [q3]; exact h4.1, fun t v' ht => ?_⟩, by rw [q4]; exact h5, by rw [q5]; exact h6, by rw [q6]; exact h7, h8⟩
    obtain ⟨v, hv, hrn⟩ := hf t v' ht
    obtain ⟨u, hu, hur⟩ := h4.2 t v hv
    exact ⟨u, hu, rn_sound hrn hur⟩
  | gone => trivial

/-- What is known of values does not hang on the blocks that are left alone. -/
theorem Kr.sb_base (K : Kr) (b : Bas) : K.sb { K with w0 := b } := ⟨fun _ _ _ h => h, fun _ _ h => h, fun _ _ _ => rfl, fun _ _ h => h⟩

theorem framed_sound (hg : ∀ g cs, C.glob g = some cs → Pure (.ro cs)) {fv fv0 v : AV} {args args0 : List AV} {H0' H' : AH} {ρ ρ' : Nat → Option Nat} (h : SApp C fv0 args0 H0 v H0') (hρ : ∀ i j, ρ i = some j ↔ ρ' j = some i)
    (hO : ∀ i j, ρ i = some j → i < H0.n ∧ j < H.n ∧ H0.g i ≠ .gone ∧ RnO ρ (H.g j) (H0.g i) ∧ RnO ρ' (H0'.g i) (H'.g j) ∧ (H0'.g i = H0.g i → H'.g j = H.g j))
    (hfr : Rn ρ fv fv0) (hal : args0.length = args.length) (har : ∀ (k : Nat) a a', args[k]? = some a → args0[k]? = some a' → Rn ρ a a') (hv : Pure v) (hn : H'.n = H.n) (hrest : ∀ j, ρ' j = none → H'.g j = H.g j) : SApp C fv args H v H' := by
  intro K D w fvC argsC hs hfv hargs
  have hinj : ∀ i i' j, ρ i = some j → ρ i' = some j → i = i' := fun i i' j h1 h2 => by
    have a := (hρ i j).1 h1
    have b := (hρ i' j).1 h2
    rw [a] at b; injection b
  have sr := hs.ren (H0 := H0) hg (fun i j hij => ⟨(hO i j hij).1, (hO i j hij).2.2.2.1⟩) hinj
  obtain ⟨foot, hfoot⟩ : ∃ foot : Nat → Prop, ∀ b, foot b ↔ ∃ i j, ρ i = some j ∧ K.β j = some b := ⟨_, fun _ => Iff.rfl⟩
  obtain ⟨Pz, hPz⟩ : ∃ Pz : Nat → Bool, ∀ b, Pz b = true ↔ (b < w.heap.size ∧ ¬ foot b) := by
    classical
    exact ⟨fun b => decide (b < w.heap.size ∧ ¬ foot b), fun b => by simp⟩
  have hPf : ∀ b, foot b → Pz b = false := fun b hb => by
    cases hp : Pz b with
    | false => rfl
    | true => exact absurd hb ((hPz b).1 hp).2
  obtain ⟨Kz, hKz⟩ : ∃ Kz : Kr, Kz = { K.ren ρ with w0 := ⟨w, Pz⟩ } := ⟨_, rfl⟩
  have hsb : (K.ren ρ).sb Kz := by rw [hKz]; exact Kr.sb_base _ _
  have back : ∀ {i b}, Kz.β i = some b → ∃ j, ρ i = some j ∧ K.β j = some b := by
    intro i b h
    rw [hKz] at h
    cases hρi : ρ i with
    | none => simp [Kr.ren, hρi] at h
    | some j => exact ⟨j, rfl, by simpa [Kr.ren, hρi] using h⟩
  have hlive : ∀ i j, ρ i = some j → (H.g j).live = true := by
    intro i j hij
    obtain ⟨_, _, hne, hr, _⟩ := hO i j hij
    refine hr.live ?_
    cases hx : H0.g i with
    | gone => exact absurd hx hne
    | _ => rfl
  have sz : Sat C Kz H0 [] w := by
    refine ⟨?_, ?_, fun i b hb => ?_, fun i j b hi hj => ?_, fun b hb => (by cases hb), List.nodup_nil, fun g cs hgc => (sr.glob g cs hgc).sb hsb, ?_⟩
    · rw [hKz]; exact ⟨rfl, rfl, rfl, Nat.le_refl _, fun _ _ => rfl, fun k hk => ((hPz k).1 hk).1⟩
    · rw [hKz]; exact hs.g
    · obtain ⟨j, hij, hj⟩ := back hb
      obtain ⟨o1, o2, o3, o4⟩ := sr.obj i b (Kr.ren_β hij hj)
      refine ⟨by rw [hKz]; exact hPf b ((hfoot b).2 ⟨i, j, hij, hj⟩), o2, o3, o4.sb hsb (fun o => by rw [hKz]) (by rw [hKz]) (fun _ => by rw [hKz]; exact ⟨rfl, rfl⟩)⟩
    · obtain ⟨i1, hi1, hi2⟩ := back hi
      obtain ⟨j1, hj1, hj2⟩ := back hj
      exact sr.inj i j b (Kr.ren_β hi1 hi2) (Kr.ren_β hj1 hj2)
    · rw [hKz]; exact hs.m
  have rf : RepV Kz fv0 fvC := (rn_sound hfr hfv).sb hsb
  have ra : RepL Kz args0 argsC.toList := by
    refine ⟨by have := hargs.1; omega, fun k a' u ha hu => ?_⟩
    have hlt := (List.getElem?_eq_some_iff.1 ha).1
    have hc : args[k]? = some (args[k]'(by omega)) := List.getElem?_eq_getElem _
    exact (rn_sound (har k _ _ hc ha) (hargs.2 k _ u hc hu)).sb hsb
  obtain ⟨d, nx, hd, hi, hgo⟩ := h Kz [] w fvC argsC sz rf ra
  refine ⟨d, nx, hd, hi, fun c cs => ?_⟩
  obtain ⟨fr0, hfr0, K1, w', vc, st, hle, hfz, s1, r1⟩ := hgo c cs
  have hw0 : K1.w0 = ⟨w, Pz⟩ := by rw [hle.w0, hKz]
  have hb1 : BelowP Pz w w' := by have := s1.base; rw [hw0] at this; exact this
  have hold : ∀ b, Pz b = true → (∀ o, K1.G b o = K.G b o) ∧ K1.M b = K.M b := by
    intro b hb
    have := hle.old b (by rw [hKz]; exact hb)
    rw [hKz] at this
    exact this
  have hPP : ∀ b, K.w0.P b = true → Pz b = true := by
    intro b hb
    refine (hPz b).2 ⟨by have := hs.base.lt b hb; have := hs.base.size; omega, fun hf => ?_⟩
    obtain ⟨i, j, hij, hj⟩ := (hfoot b).1 hf
    have := (hs.obj j b hj).1
    rw [hb] at this; cases this
  have hKG : ∀ b o v, K.G b o = some v → K1.G b o = some v := fun b o v hv => hle.G b o v (by rw [hKz]; exact hv)
  have hKM : ∀ b cs, K.M b = some cs → K1.M b = some cs := fun b cs hv => hle.M b cs (by rw [hKz]; exact hv)
  obtain ⟨K', hK'⟩ : ∃ K' : Kr, K' = { w0 := K.w0, G := K1.G, β := K.β, tk := K.tk, M := K1.M } := ⟨_, rfl⟩
  have hleK : K.le K' := by
    rw [hK']
    exact ⟨rfl, hKG, fun _ _ h => h, fun _ _ _ => rfl, hKM, fun b hb => hold b (hPP b hb)⟩
  have hGM : (∀ b o v, K1.G b o = some v → K'.G b o = some v) ∧ ∀ b cs, K1.M b = some cs → K'.M b = some cs := by rw [hK']; exact ⟨fun _ _ _ h => h, fun _ _ h => h⟩
  -- what the callee knows of its objects, under their numbers here
  have hβ1 : ∀ i j b, ρ i = some j → K1.β i = some b → K.β j = some b ∧ K1.tk i = K.tk j := by
    intro i j b hij hb
    cases hj : K.β j with
    | none =>
      have hz : Kz.β i = none := by rw [hKz]; simp [Kr.ren, hij, hj]
      have := (hfz.2 i (hO i j hij).1 hz).1
      rw [this] at hb; cases hb
    | some b2 =>
      have hz : Kz.β i = some b2 := by rw [hKz]; exact Kr.ren_β hij hj
      have h1 := hle.β i b2 hz
      rw [h1] at hb
      refine ⟨hb, ?_⟩
      rw [hle.tk i b2 hz, hKz]
      exact Kr.ren_tk hij
  have hsb1 : (K1.ren ρ').sb K' := by
    refine ⟨hGM.1, fun j b hb => ?_, fun j b hb => ?_, hGM.2⟩
    · cases hj : ρ' j with
      | none => simp [Kr.ren, hj] at hb
      | some i =>
        have hb' : K1.β i = some b := by simpa [Kr.ren, hj] using hb
        rw [hK']
        exact (hβ1 i j b ((hρ i j).2 hj) hb').1
    · cases hj : ρ' j with
      | none => simp [Kr.ren, hj] at hb
      | some i =>
        have hb' : K1.β i = some b := by simpa [Kr.ren, hj] using hb
        rw [Kr.ren_tk hj, hK']
        exact (hβ1 i j b ((hρ i j).2 hj) hb').2.symm
  refine ⟨fr0, hfr0, K', w', vc, st, hleK, ⟨by omega, fun j hj hb => ?_⟩, ?_, hv.rep hGM.1 hGM.2 r1⟩
  · refine ⟨by rw [hK']; exact hb, ?_⟩
    cases hρj : ρ' j with
    | none => exact hrest j hρj
    | some i =>
      have hij := (hρ i j).2 hρj
      obtain ⟨q1, q2, q3, q4, q5, q6⟩ := hO i j hij
      have hz : Kz.β i = none := by rw [hKz]; simp [Kr.ren, hij, hb]
      exact q6 (hfz.2 i q1 hz).2
  · refine ⟨?_, ?_, fun id b hb => ?_, fun i j b hi hj li lj => ?_, fun b hb => ?_, hs.nodup, fun g cs hgc => (hg g cs hgc).rep hGM.1 hGM.2 (s1.glob g cs hgc), ?_⟩
    · rw [hK']
      exact hs.base.trans ⟨hb1.os, hb1.tape, hb1.output, hb1.size, fun k hk => hb1.block k (hPP k hk), fun k hk => by have := hs.base.lt k hk; have := hs.base.size; omega⟩
    · rw [hK']; exact s1.g
    · have hb : K.β id = some b := by rw [hK'] at hb; exact hb
      obtain ⟨o1, o2, o3, o4⟩ := hs.obj id b hb
      refine ⟨by rw [hK']; exact o1, by have := hb1.size; omega, by omega, ?_⟩
      cases hρj : ρ' id with
      | some i =>
        have hij := (hρ i id).2 hρj
        obtain ⟨q1, q2, q3, q4, q5, q6⟩ := hO i id hij
        have hz : K1.β i = some b := hle.β i b (by rw [hKz]; exact Kr.ren_β hij hb)
        have hob := ObjOk.ren q5 hρj (s1.obj i b hz).2.2.2
        refine hob.sb hsb1 (fun o => by rw [hK']; rfl) (by rw [hK']; rfl) (fun _ => ?_)
        rw [Kr.ren_tk hρj, Kr.ren_β hρj hz, hK']
        exact ⟨hb, (hβ1 i id b hij hz).2.symm⟩
      | none =>
        rw [hrest id hρj]
        cases hl : (H.g id).live with
        | false =>
          cases hx : H.g id with
          | gone => trivial
          | _ => rw [hx] at hl; cases hl
        | true =>
          have hp : Pz b = true := by
            refine (hPz b).2 ⟨o2, fun hf => ?_⟩
            obtain ⟨i, j, hij, hj⟩ := (hfoot b).1 hf
            have := hs.inj id j b hb hj hl (hlive i j hij)
            subst this
            rw [(hρ i id).1 hij] at hρj; cases hρj
          obtain ⟨g1, g2⟩ := hold b hp
          exact o4.mono hleK (hb1.block b hp) (by rw [hK']; exact g1) (by rw [hK']; exact g2)
    · have lv : ∀ k, (H'.g k).live = true → (H.g k).live = true := by
        intro k hk
        cases hρk : ρ' k with
        | none => rw [hrest k hρk] at hk; exact hk
        | some i0 => exact hlive i0 k ((hρ i0 k).2 hρk)
      rw [hK'] at hi hj
      exact hs.inj i j b hi hj (lv i li) (lv j lj)
    · obtain ⟨d1, d2⟩ := hs.defs b hb
      refine ⟨by rw [hK']; exact d1, ?_⟩
      have hp : Pz b = true := by
        refine (hPz b).2 ⟨lt_of_heap d2, fun hf => ?_⟩
        obtain ⟨i, j, hij, hj⟩ := (hfoot b).1 hf
        have hl := hlive i j hij
        obtain ⟨_, _, _, o4⟩ := hs.obj j b hj
        cases hx : H.g j with
        | cells cs => rw [hx] at o4; obtain ⟨vs, us, ty, hh, _⟩ := o4; rw [d2] at hh; cases hh
        | map es => rw [hx] at o4; obtain ⟨cs, clk, hh, _⟩ := o4; rw [d2] at hh; cases hh
        | own => rw [hx] at o4; obtain ⟨vs, ty, lo, hi, hh, _⟩ := o4; rw [d2] at hh; cases hh
        | loop r => rw [hx] at o4; obtain ⟨l, hh, _⟩ := o4; rw [d2] at hh; cases hh
        | gone => rw [hx] at hl; cases hl
      rw [hb1.block b hp]
      exact d2
    · rw [hK']; exact s1.m
end fz
end Go.Abs
