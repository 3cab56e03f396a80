/- The row of the statement TrainMissed, out of its walk and its plain law. Conditions: none. -/
import Derived.Test.YtdlofkamkiojlaaDoorXGj7
import Derived.Test.YtdlofkamkiojlaaDoorXHc
import Derived.Test.YtdlofkamkiojlaaDoorTie
import Derived.Test.YtdlofkamkiojlaaDoorCards
import Derived.SevenTiedAt
namespace Go.Abs.Tr
open Go Go.Abs Go.Proofs Go.Proofs.YtdlofkamkiojlaaDoor Go.ChangeShapes Go.WideShapes Go.ChangeAt Go.RowKit
set_option linter.unusedVariables false
/-- THE PLAIN LAW of TrainMissed. -/
def Plain7 : Prop := ∀ (x0 : Table) (x1 : List Int) (x2 : Int) (x3 : List Int), OkTable x0 → OkInts x1 → W64 x2 → OkInts x3 → ∃ N, s7 N x0 x1 x2 x3 = some true
set_option maxRecDepth 100000 in
theorem lifted7 (plain : Plain7) (os : Os) (started : os.Started) (H : Type) (enc : TypeId × Value → H) :
    ReturnsInHanded {} Tryd.checked os 7 .any (fun w args => (Rows.trainMissedSpec.pre enc Tryd.prog Tryd.f7 [] false w args ∧ laidMetH Tryd.prog laidL w) ∧ sizedMet enc Tryd.prog Tryd.f7 (OpenSpec.ofChange Rows.trainMissedSpec) false w args)
      (Rows.trainMissedSpec.post enc Tryd.prog Tryd.f7 false true false false) := by
  refine returnsInHanded_of_change_and (C := Tryd.checked) (X := fun w _ => laidMetH Tryd.prog laidL w) (fun _ _ _ hh h => h.of_heap hh) ownK started (by kernel_rfl) Tryd.func7
    (ChangeSpec.witness_shaped (enc := enc) (C := Tryd.checked) (os := os) (X := fun w _ => laidMetH Tryd.prog laidL w) false (World.doorLaid Tryd.prog 600 os) #[.agg #[.slice none 0 0, .slice none 0 0, .int .i64 0], .slice none 0 0, .int .i64 0, .slice none 0 0] 8 rfl (World.shaped_of_RefB (by kernel_rfl) (by kernel_rfl)) (by kernel_rfl) (by kernel_rfl) (by kernel_rfl) (door_met os _)) ?_
  intro W base args ds gs before hval0 hW _ _ hL _
  have hval : ∀ (j : Nat) t v, Tryd.f7.params[j]? = some t → args[j]? = some v → Value.okWide Tryd.prog W .any base t v := hval0
  have hW' := hW
  obtain ⟨p, q, hA0, hV, rfl, hfz, hnd⟩ := hW
  have hA : DataW.TrodAll enc Tryd.prog W 0 (fun _ => true) true Tryd.f7.params.toList args.toList ds p := hA0
  rw [Tryd.params7] at hA hval
  obtain ⟨v0, vs0, d0, ds0, p0, q0, hargs, rfl, rfl, h0, r0⟩ := trodAll_cons hA
  obtain ⟨v1, vs1, d1, ds1, p1, q1, rfl, rfl, rfl, h1, r1⟩ := trodAll_cons r0
  obtain ⟨v2, vs2, d2, ds2, p2, q2, rfl, rfl, rfl, h2, r2⟩ := trodAll_cons r1
  obtain ⟨v3, vs3, d3, ds3, p3, q3, rfl, rfl, rfl, h3, r3⟩ := trodAll_cons r2
  obtain ⟨rfl, rfl, rfl⟩ := trodAll_nil r3
  obtain rfl : args = #[v0, v1, v2, v3] := by cases args; simp_all
  obtain ⟨rfl, rfl⟩ := trodVars_none hV
  have k0 := h0
  have lt0 : ∀ x ∈ p0, x.block < W.heap.size := by obtain ⟨m, hm⟩ := k0; exact DataW.trod_lt m _ _ _ hm
  have g0 : ∃ y0 : Table, RepV (K0 W) (.agg (eTable y0)) v0 ∧ OkTable y0 := by
    obtain ⟨cs, e, _⟩ := okWide_struct Tryd.underlying25 (hval 0 25 v0 rfl rfl)
    exact dTable.agg ⟨cs, e⟩ h0
  obtain ⟨y0, rep0, ok0⟩ := g0
  have k1 := h1
  have lt1 : ∀ x ∈ p1, x.block < W.heap.size := by obtain ⟨m, hm⟩ := k1; exact DataW.trod_lt m _ _ _ hm
  have g1 : ∃ y1 : List Int, RepV (K0 W) (lst eInt y1 .unk) v1 ∧ OkInts y1 := by
    obtain ⟨a, l, c, e⟩ := okWide_slice Tryd.underlying34 (hval 1 34 v1 rfl rfl)
    exact Dec.cell (e := fun y => lst eInt y .unk) dInts (fun cs h => by rw [e] at h; cases h) h1
  obtain ⟨y1, rep1, ok1⟩ := g1
  have k2 := h2
  have lt2 : ∀ x ∈ p2, x.block < W.heap.size := by obtain ⟨m, hm⟩ := k2; exact DataW.trod_lt m _ _ _ hm
  have g2 : ∃ y2 : Int, RepV (K0 W) (.int .i64 y2) v2 ∧ W64 y2 := by
    obtain ⟨y, e, _, _, w⟩ := open_int Tryd.underlying3 (hval 2 3 v2 rfl rfl) h2
    exact ⟨y, by rw [e]; exact .int _ _, w⟩
  obtain ⟨y2, rep2, ok2⟩ := g2
  have k3 := h3
  have lt3 : ∀ x ∈ p3, x.block < W.heap.size := by obtain ⟨m, hm⟩ := k3; exact DataW.trod_lt m _ _ _ hm
  have g3 : ∃ y3 : List Int, RepV (K0 W) (lst eInt y3 .unk) v3 ∧ OkInts y3 := by
    obtain ⟨a, l, c, e⟩ := okWide_slice Tryd.underlying34 (hval 3 34 v3 rfl rfl)
    exact Dec.cell (e := fun y => lst eInt y .unk) dInts (fun cs h => by rw [e] at h; cases h) h3
  obtain ⟨y3, rep3, ok3⟩ := g3
  obtain ⟨N, hN⟩ := plain y0 y1 y2 y3 ok0 ok1 ok2 ok3
  have glob := of_laid hL
  clear hA0 hval0
  refine (calls_of ctx_ok glob_pure (s7_ev hN .nil) (RepL.cons rep0 (RepL.cons rep1 (RepL.cons rep2 (RepL.cons rep3 (RepL.nil _))))) glob (r := .bool true) (fun K u h => by cases h; rfl)).mono fun e W' ⟨he, bel⟩ => ?_
  subst he
  exact ⟨_, rfl, _, _, _, [], _, [], hW', trodAll_mk1 (shut_bool Tryd.underlying4 _), (trodAll_cons_mk (Below.trod laidOut (by kernel_rfl) (of_decide_eq_true (by kernel_rfl)) k0 bel lt0) (trodAll_cons_mk (Below.trod laidOut (by kernel_rfl) (of_decide_eq_true (by kernel_rfl)) k1 bel lt1) (trodAll_cons_mk (Below.trod laidOut (by kernel_rfl) (of_decide_eq_true (by kernel_rfl)) k2 bel lt2) (trodAll_cons_mk (Below.trod laidOut (by kernel_rfl) (of_decide_eq_true (by kernel_rfl)) k3 bel lt3) trodAll_mk0)))), rfl, bel.frame _, fun h => by cases h⟩
theorem row7 (plain : Plain7) : Rows.TrainMissedSaid :=
  OpenClaim.holds_of_wide 7 Tryd.f7 rfl rfl rfl rfl rfl rfl rfl ⟨rfl, rfl, rfl, rfl, rfl⟩ rfl rfl rfl rfl rfl (by kernel_rfl) Tryd.func7 (by kernel_rfl)
    (of_decide_eq_true (by kernel_rfl)) (by unfold Func.isWrapper; first | (rw [if_pos (by decide +kernel)]; kernel_rfl) | (rw [if_neg (by decide +kernel)]; exact ⟨rfl, rfl⟩))
    (fun os started H enc _ => lifted7 plain os started H enc)
theorem card7 (plain : Plain7) : Rows.TrainMissedCardSaid :=
  Claim7.holds_tied_plain_at .later [] [.funcs] true (true, "82d268d68b2b17a201eb723d6a2cca164b37ea834ec9bfa431c1bdd1600c54dd") false
    (row7 plain) (fun _ h => by cases h) (by kernel_rfl) (fun _ h => by cases h) trainMissed_row_tie rfl ⟨rfl, rfl⟩ (by kernel_rfl) rfl
    (fun f fn hf hfn => by
      obtain rfl : f = 7 := Option.some.inj ((show Tryd.prog.funcNamed "bioscope/bioscopelaw03.TrainMissed" = some 7 by kernel_rfl).symm.trans hf) |>.symm
      obtain rfl : fn = Tryd.f7 := (Option.some.inj (Tryd.func7.symm.trans hfn)).symm
      exact ⟨by kernel_rfl, fun j t ht => by
        rw [Tryd.params7] at ht
        have hm : t ∈ [25, 34, 3, 34] := by simpa using Array.mem_of_getElem? ht
        have hall : ([25, 34, 3, 34].all fun u => !Tryd.prog.wantsStandIn u) = true := by kernel_rfl
        exact (show Tryd.prog.wantsStandIn t = false by simpa using List.all_eq_true.1 hall t hm)⟩)
    (by kernel_rfl)
end Go.Abs.Tr
