/- Plain law: all routes in their order, by the specification. Conditions: none. -/
import Derived.Test.YtdlofkamkiojlaaDoorMa
import Derived.Test.YtdlofkamkiojlaaDoorGk
namespace Go.Abs.Tr
open Go Go.Abs
set_option linter.unusedSimpArgs false

theorem apB {α : Type} {xs ys : List α} (h : xs.length + ys.length ≤ 1000000000000) : ap 24 xs ys = some (xs ++ ys) := ap_ok (by omega)

/-! ## All legs -/
def legsOf (t : Table) : List Leg := (allLegs t).map (·.2)
theorem stopLegs_from (k i n : Nat) (h : i + 1 ≤ n) : stopLegs k i n = (List.range' (n - (n - (i + 1))) (n - (i + 1))).map fun (j : Nat) => (⟨(k : Int), (i : Int), (j : Int)⟩ : Leg) := by
  unfold stopLegs
  rw [show n - (n - (i + 1)) = i + 1 by omega]
theorem inner108 {N : Nat} {t : Table} (L : Lens N t) {k : Nat} {x : Train} (hx : ix t.trains (k : Int) = some x) (hm : x ∈ t.trains) (h5 : x.stops.length ≤ 5) (o0 : List Leg) (i : Nat) (hi : i < x.stops.length) (out : List Leg) (ho : out.length ≤ 1000) :
    iter (s108_l18 N t (o0, (k : Int)) (out, (i : Int))) N (out, (i : Int) + 1) = some (out ++ stopLegs k i x.stops.length) := by
  have hN := L.n4
  have main := iter_from (f := s108_l18 N t (o0, (k : Int)) (out, (i : Int))) (S := List Leg) (fun s i => (s, i)) x.stops (L.ts x hm) (fun s l => s.length + l.length ≤ 2000)
    (fun s l => s ++ (List.range' (x.stops.length - l.length) l.length).map fun (j : Nat) => (⟨(k : Int), (i : Int), (j : Int)⟩ : Leg))
    (fun s _ => by
      unfold s108_l18
      have : decide (((x.stops.length : Nat) : Int) < (x.stops.length : Int)) = false := by simp
      simp only [hx, bind_some', this]
      simp)
    (fun j y r s hd hj hlt hck hI => by
      left
      have hnr : r.length + 1 + j = x.stops.length := by
        have := congrArg List.length hd
        simp at this; omega
      have hjl : x.stops.length - (r.length + 1) = j := by omega
      refine ⟨s ++ [⟨(k : Int), (i : Int), (j : Int)⟩], ?_, by simp at hI ⊢; omega, ?_⟩
      · unfold s108_l18
        have hl : s.length ≤ 2000 := by simp at hI; omega
        simp only [hx, bind_some', hlt, decide_true, if_true, apB (xs := s) (ys := [(⟨(k : Int), (i : Int), (j : Int)⟩ : Leg)]) (by simp only [List.length_cons, List.length_nil]; omega), hck]
      · rw [List.length_cons, hjl, List.range'_succ, List.map_cons, List.append_assoc]
        have : x.stops.length - r.length = j + 1 := by omega
        rw [this]
        rfl)
    (x.stops.drop (i + 1)) (i + 1) out N rfl (by omega) (by simp; omega) (by simp; omega)
  rw [List.length_drop] at main
  rw [stopLegs_from k i _ (by omega), ← main]
  norm_cast
theorem mid108 {N : Nat} {t : Table} (L : Lens N t) {k : Nat} {x : Train} (hx : ix t.trains (k : Int) = some x) (hm : x ∈ t.trains) (h5 : x.stops.length ≤ 5) (o0 : List Leg) (ho : o0.length ≤ 800) :
    iter (s108_l20 N t (o0, (k : Int))) N (o0, 0) = some (o0 ++ (trainLegs k x).map (·.2)) := by
  have main := iter_list (f := s108_l20 N t (o0, (k : Int))) (S := List Leg) (fun s i => (s, i)) x.stops (L.ts x hm) (fun s l => s.length + l.length * 10 ≤ 1000)
    (fun s l => s ++ ((l.zipIdx (x.stops.length - l.length)).map fun p => stopLegs k p.2 x.stops.length).flatten)
    (fun s _ => by
      unfold s108_l20
      have : decide (((x.stops.length : Nat) : Int) < (x.stops.length : Int)) = false := by simp
      simp only [hx, bind_some', this]
      simp)
    (fun i y r s hd hi hlt hck hI => by
      left
      have hnr : r.length + 1 + i = x.stops.length := by
        have := congrArg List.length hd
        simp at this; omega
      have hil : x.stops.length - (r.length + 1) = i := by omega
      have hlt' : i < x.stops.length := by omega
      have hlen : (stopLegs k i x.stops.length).length ≤ 5 := by simp only [stopLegs, List.length_map, List.length_range']; omega
      refine ⟨s ++ stopLegs k i x.stops.length, ?_, by simp only [List.length_cons] at hI; rw [List.length_append]; omega, ?_⟩
      · unfold s108_l20
        simp only [List.length_cons] at hI
        simp only [hx, bind_some', hlt, decide_true, if_true, hck, inner108 L hx hm h5 o0 i hlt' s (by omega)]
      · rw [List.length_cons, hil, List.zipIdx_cons, List.map_cons, List.flatten_cons, List.append_assoc]
        have : x.stops.length - r.length = i + 1 := by omega
        rw [this])
    N (L.nts x hm) o0 (by omega)
  rw [main, Nat.sub_self]
  congr 2
  unfold trainLegs
  rw [List.map_flatten, List.map_map]
  congr 1
  apply List.map_congr_left
  intro p _
  simp [Function.comp_def]
theorem s108_eq {N : Nat} {t : Table} (L : Lens N t) (G : Good t) : s108 N t = some (legsOf t) := by
  have main := iter_list (f := s108_l22 N t) (S := List Leg) (fun s i => (s, i)) t.trains L.tr (fun s l => s.length + l.length * 100 ≤ 700)
    (fun s l => s ++ (((l.zipIdx (t.trains.length - l.length)).map fun p => trainLegs p.2 p.1).flatten).map (·.2))
    (fun s _ => by
      unfold s108_l22
      have : decide (((t.trains.length : Nat) : Int) < (t.trains.length : Int)) = false := by simp
      simp only [this]
      simp)
    (fun i x r s hd hi hlt hck hI => by
      left
      have hm := mem_drop hd
      have hnr : r.length + 1 + i = t.trains.length := by
        have := congrArg List.length hd
        simp at this; omega
      have hil : t.trains.length - (r.length + 1) = i := by omega
      have h5 := (G.ts x hm).n5
      have hlen : (trainLegs i x).length ≤ x.stops.zipIdx.length * 5 := by
        refine flat_len _ 5 _ fun q hq => ?_
        simp only [stopLegs, List.length_map, List.length_range']
        omega
      rw [List.length_zipIdx] at hlen
      simp only [List.length_cons] at hI
      refine ⟨s ++ (trainLegs i x).map (·.2), ?_, by rw [List.length_append, List.length_map]; omega, ?_⟩
      · unfold s108_l22
        simp only [hlt, decide_true, if_true, hck, mid108 L hi hm h5 s (by omega), bind_some']
      · rw [List.length_cons, hil, List.zipIdx_cons, List.map_cons, List.flatten_cons, List.map_append, List.append_assoc]
        have : t.trains.length - r.length = i + 1 := by omega
        rw [this])
    N L.nt [] (by have := G.t6; simp; omega)
  unfold s108
  rw [main, bind_some', Nat.sub_self]
  rfl

/-! ## Which trains are used: a set as a number -/
theorem bits_ok : ∀ u : Fin 64, ∀ i : Fin 6, (shlC 1 ((i.val : Nat) : Int)).bind (fun v => some (orC ((u.val : Nat) : Int) v)) = some (((u.val ||| 2 ^ i.val : Nat) : Int)) ∧
    ∀ j : Fin 6, s87 0 ((u.val ||| 2 ^ i.val : Nat) : Int) ((j.val : Nat) : Int) = (s87 0 ((u.val : Nat) : Int) ((j.val : Nat) : Int)).map fun b => b || (i.val == j.val) := by decide +kernel
end Go.Abs.Tr
