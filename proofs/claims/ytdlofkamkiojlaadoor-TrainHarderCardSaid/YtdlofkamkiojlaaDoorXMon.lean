/- What the operations compute stays where more temporaries are known. Conditions: none (lemmas). -/
import Derived.Test.YtdlofkamkiojlaaDoorXEnc
set_option linter.unusedVariables false
set_option linter.unusedSimpArgs false
namespace Go.Abs
open Go

section mono
variable {C : Ctx} {e0 e : Env} {H : AH}
theorem Env.le_refl (e : Env) : Env.le e e := fun _ _ h => h
theorem Env.le_trans {a b c : Env} (h : Env.le a b) (k : Env.le b c) : Env.le a c := fun i v x => k i v (h i v x)
theorem evalA_mono (h : Env.le e0 e) {x : Operand} {v : AV} (hx : evalA C e0 x = some v) : evalA C e x = some v := by
  cases x with
  | tmp t => exact h _ _ hx
  | _ => exact hx
theorem evalsA_mono (h : Env.le e0 e) : ∀ {xs : List Operand} {vs : List AV}, evalsA C e0 xs = some vs → evalsA C e xs = some vs := by
  intro xs
  induction xs with
  | nil => intro vs hx; exact hx
  | cons x xs ih =>
    intro vs hx
    simp only [evalsA] at hx ⊢
    split at hx
    · rename_i v us h1 h2
      rw [evalA_mono h h1, ih h2]
      exact hx
    · cases hx
theorem partsA_mono (h : Env.le e0 e) : ∀ {xs : List (Nat × Operand)} {vs : List (Nat × AV)}, partsA C e0 xs = some vs → partsA C e xs = some vs := by
  intro xs
  induction xs with
  | nil => intro vs hx; exact hx
  | cons x xs ih =>
    obtain ⟨i, x⟩ := x
    intro vs hx
    simp only [partsA] at hx ⊢
    split at hx
    · rename_i v us h1 h2
      rw [evalA_mono h h1, ih h2]
      exact hx
    · cases hx
theorem wantedA_mono (h : Env.le e0 e) {all : List Oper} {o : Oper} {b : Bool} (hx : wantedA all e0 o = some b) : wantedA all e o = some b := by
  unfold wantedA at hx ⊢
  cases hg : o.guard with
  | none => rw [hg] at hx; exact hx
  | some g =>
    obtain ⟨j, want⟩ := g
    rw [hg] at hx
    dsimp only at hx ⊢
    cases hd : (all[j]?).bind (·.dst) with
    | none => rw [hd] at hx; cases hx
    | some d =>
      rw [hd] at hx
      dsimp only at hx ⊢
      cases he : e0 d with
      | none => rw [he] at hx; cases hx
      | some v => rw [he] at hx; rw [h d v he]; exact hx
theorem lightA_mono (hle : Env.le e0 e) {o : Oper} {v : AV} (h : lightA C e0 H o = some v) : lightA C e H o = some v := by
  obtain ⟨dst, op, type, pos, after, guard⟩ := o
  have m : ∀ {x : Operand} {v : AV}, evalA C e0 x = some v → evalA C e x = some v := fun hx => evalA_mono hle hx
  cases op with
  | build t ps =>
    simp only [lightA] at h ⊢
    split at h
    · rename_i d vs h1 h2
      rw [partsA_mono hle h2]
      simp only [h1]
      exact h
    · cases h
  | buildSlice t n ps =>
    simp only [lightA] at h ⊢
    split at h
    · rename_i d vs h1 h2
      rw [partsA_mono hle h2]
      simp only [h1]
      exact h
    · cases h
  | makeFunc fn first captured =>
    cases fn <;> simp only [lightA] at h ⊢ <;> try cases h
    split at h
    · rename_i x y h1 h2
      rw [evalsA_mono hle h1, evalsA_mono hle h2]
      exact h
    · cases h
  | slice t x lo hi mx =>
    simp only [lightA] at h ⊢
    cases ht : C.T t with
    | none => rw [ht] at h; cases h
    | some d =>
      cases hx : evalA C e0 x with
      | none => rw [ht, hx] at h; cases h
      | some xv =>
        rw [ht, hx] at h
        rw [m hx]
        dsimp only at h ⊢
        have key : ∀ y : Option Operand, (y.map (evalA C e0) = some none) ∨ y.map (evalA C e) = y.map (evalA C e0) := by
          intro y
          cases y with
          | none => exact .inr rfl
          | some y =>
            cases hy : evalA C e0 y with
            | none => left; simp [hy]
            | some u => right; simp [hy, m hy]
        rcases key lo with k1 | k1
        · rw [k1] at h; cases h
        rcases key hi with k2 | k2
        · rw [k2] at h
          split at h <;> first | cases h | (rename_i h0; cases h0) | simp_all
        rcases key mx with k3 | k3
        · rw [k3] at h
          split at h <;> first | cases h | simp_all
        rw [k1, k2, k3]
        exact h
  | call c =>
    obtain ⟨callee, args, ts⟩ := c
    cases callee with
    | builtin b =>
      cases b <;> simp only [lightA] at h ⊢ <;> try cases h
      · split at h
        · split at h
          · rename_i t x _ _ d u h1 h2
            simp only [h1, m h2]
            exact h
          · cases h
        · cases h
      · cases ha : evalsA C e0 args.toList with
        | none => rw [ha] at h; cases h
        | some vs => rw [ha] at h; rw [evalsA_mono hle ha]; exact h
      · cases ha : evalsA C e0 args.toList with
        | none => rw [ha] at h; cases h
        | some vs => rw [ha] at h; rw [evalsA_mono hle ha]; exact h
    | _ => simp only [lightA] at h; cases h
  | move x => simp only [lightA] at h ⊢; exact m h
  | assign x => simp only [lightA] at h ⊢; exact m h
  | pick c x y =>
    simp only [lightA] at h ⊢
    split at h
    · rename_i t h1
      rw [m h1]
      dsimp only
      split at h <;> rename_i ht
      · rw [if_pos ht]; exact m h
      · rw [if_neg ht]; exact m h
    · cases h
  | load t x =>
    simp only [lightA] at h ⊢
    split at h
    · rename_i d u h1 h2; simp only [h1, m h2]; exact h
    · cases h
  | binOp op t x y yt =>
    simp only [lightA] at h ⊢
    split at h
    · rename_i u w h1 h2; simp only [m h1, m h2]; exact h
    · cases h
  | unOp op t x =>
    simp only [lightA] at h ⊢
    split at h
    · rename_i u h1; simp only [m h1]; exact h
    · cases h
  | fieldAddr t x i =>
    simp only [lightA] at h ⊢
    split at h
    · rename_i d u h1 h2; simp only [h1, m h2]; exact h
    · cases h
  | field t x i =>
    simp only [lightA] at h ⊢
    split at h
    · rename_i d u h1 h2; simp only [h1, m h2]; exact h
    · cases h
  | indexAddr t x i =>
    simp only [lightA] at h ⊢
    split at h
    · rename_i d u w h1 h2 h3; simp only [h1, m h2, m h3]; exact h
    · cases h
  | index t x i =>
    simp only [lightA] at h ⊢
    split at h
    · rename_i d u w h1 h2 h3; simp only [h1, m h2, m h3]; exact h
    · cases h
  | lookup t x i ok =>
    simp only [lightA] at h ⊢
    split at h
    · rename_i d u w h1 h2 h3; simp only [h1, m h2, m h3]; exact h
    · cases h
  | extract x i =>
    simp only [lightA] at h ⊢
    split at h
    · rename_i u h1; simp only [m h1]; exact h
    · cases h
  | _ => simp only [lightA] at h; cases h
theorem heavyA_mono (hle : Env.le e0 e) {wr : Bool} {o : Oper} {v : AV × AH} (h : heavyA C wr e0 H o = some v) : heavyA C wr e H o = some v := by
  obtain ⟨dst, op, type, pos, after, guard⟩ := o
  have m : ∀ {x : Operand} {v : AV}, evalA C e0 x = some v → evalA C e x = some v := fun hx => evalA_mono hle hx
  cases op with
  | box t x =>
    simp only [heavyA] at h ⊢
    split at h
    · rename_i u h1; simp only [m h1]; exact h
    · cases h
  | store t x y =>
    simp only [heavyA] at h ⊢
    split at h
    · rename_i d id off u h1 h2 h3; simp only [h1, m h2, m h3]; exact h
    · cases h
  | makeSlice t l c =>
    simp only [heavyA] at h ⊢
    split at h
    · rename_i d _ l1 _ c1 h1 h2 h3; simp only [h1, m h2, m h3]; exact h
    · cases h
  | makeMap t r => cases r <;> exact h
  | mapUpdate t a k x =>
    simp only [heavyA] at h ⊢
    split at h
    · rename_i d id k1 v1 h1 h2 h3 h4; simp only [h1, m h2, m h3, m h4]; exact h
    · cases h
  | call c =>
    obtain ⟨callee, args, ts⟩ := c
    cases callee with
    | builtin b =>
      cases b <;> simp only [heavyA] at h ⊢ <;> try cases h
      split at h
      · split at h
        · rename_i t u s x _ _ d du n cs c1 xv h1 h2 h3 h4
          simp only [h1, h2, m h3, m h4]; exact h
        · cases h
      · cases h
    | _ => simp only [heavyA] at h; cases h
  | _ => simp only [heavyA] at h; cases h
theorem step_mono {all : List Oper} {base i : Nat} {o : Oper} {v : AV} {H1 : AH} (hle : Env.le e0 e) (h : Ev C (.step all base i o e0 H v H1)) : Ev C (.step all base i o e H v H1) := by
  cases h with
  | skipped hw => exact .skipped (wantedA_mono hle hw)
  | light hw h1 h2 h3 => exact .light (wantedA_mono hle hw) h1 h2 (lightA_mono hle h3)
  | alloc hw h1 h2 => exact .alloc (wantedA_mono hle hw) h1 h2
  | heavy wr hw h1 h2 => exact .heavy wr (wantedA_mono hle hw) h1 (heavyA_mono hle h2)
  | apply hw h1 h2 h3 h4 => exact .apply (wantedA_mono hle hw) h1 (evalA_mono hle h2) (evalsA_mono hle h3) h4
theorem put_mono (hle : Env.le e0 e) {d : Option Tmp} {v : AV} : Env.le (e0.put d v) (e.put d v) := by
  cases d with
  | none => exact hle
  | some d =>
    intro i u h
    simp only [Env.put, Env.set] at h ⊢
    split at h
    · rename_i hi; rw [if_pos hi]; exact h
    · rename_i hi; rw [if_neg hi]; exact hle i u h
theorem ops_mono {N : Nat} {all : List Oper} {base : Nat} : ∀ {l : List Oper} {i : Nat} {e0 e : Env} {H : AH} {tr : List (AV × AH)} {e0' : Env} {H' : AH}, Env.le e0 e → Ev C (.ops N all base i l e0 H tr e0' H') →
    ∃ e', Ev C (.ops N all base i l e H tr e' H') ∧ Env.le e0' e' := by
  intro l
  induction l with
  | nil =>
    intro i e0 e H tr e0' H' hle h
    cases h
    exact ⟨e, .nil, hle⟩
  | cons o l ih =>
    intro i e0 e H tr e0' H' hle h
    cases h with
    | cons hd hs hr =>
      obtain ⟨e', h1, h2⟩ := ih (put_mono hle) hr
      exact ⟨e', .cons hd (step_mono hle hs) h1, h2⟩
theorem envAt_mono : ∀ {l : List Oper} {tr : List (AV × AH)} {k : Nat} {e0 e : Env}, Env.le e0 e → Env.le (envAt e0 l tr k) (envAt e l tr k) := by
  intro l
  induction l with
  | nil => intro tr k e0 e h; cases k <;> cases tr <;> exact h
  | cons o l ih =>
    intro tr k e0 e h
    cases k with
    | zero => cases tr <;> exact h
    | succ k =>
      cases tr with
      | nil => exact h
      | cons p tr => exact ih (put_mono h)
end mono
end Go.Abs
