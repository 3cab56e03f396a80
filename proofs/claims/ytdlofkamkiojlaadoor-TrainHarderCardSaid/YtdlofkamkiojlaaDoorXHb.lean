/- From the data that a call is told to the plain values, and from a walk to the call by the machine. Conditions: none. -/
import Derived.Test.YtdlofkamkiojlaaDoorXThm
import Derived.Test.YtdlofkamkiojlaaDoorXEnc
import Derived.ProofKit
import Derived.Calls
import Derived.Below
namespace Go.Abs
open Go

/-- Nothing is written: what the world held stays. -/
def K0 (W : World) : Kr := { w0 := ⟨W, fun b => decide (b < W.heap.size)⟩, G := fun b o => W.cell? ⟨b, o, none⟩, β := fun _ => none, tk := fun _ => (0, 0), M := fun _ => none }

/-- Data of a type are plain data. -/
structure Dec (P : Program) {T : Type} (e : T → List AV) (Q : T → Prop) (t : TypeId) : Prop where
  one : ∀ x, ∀ a ∈ e x, a.one = true
  len : ∀ x, (e x).length = P.cellsOf t
  dec : ∀ {H : Type} {enc : TypeId × Value → H} {W : World} {sp : Nat → Bool} {held : Bool} {fuel : Nat} {cs : List Value} {y : DataW H × List MemPlace},
    DataW.trod enc P W 0 sp held fuel t cs = some y → ∃ x, RepL (K0 W) (e x) cs ∧ Q x

theorem Dec.int {P : Program} {t : TypeId} {k : IntKind} (ht : P.underlying t = some (.int k)) (hc : P.cellsOf t = 1) :
    Dec P (fun n : Int => [.int k n]) (fun n => (Lit.int k n).wf = true) t where
  one := fun x a ha => by simp at ha; subst ha; rfl
  len := fun x => by rw [hc]; rfl
  dec := fun h => by
    obtain ⟨n, rfl, _, hw⟩ := DataW.trod_int ht h
    exact ⟨n, .cons (.int _ _) (.nil _), hw⟩

theorem Dec.mono {P : Program} {T : Type} {e : T → List AV} {Q R : T → Prop} {t : TypeId} (d : Dec P e Q t) (h : ∀ x, Q x → R x) : Dec P e R t :=
  ⟨d.one, d.len, fun k => let ⟨x, a, b⟩ := d.dec k; ⟨x, a, h x b⟩⟩

theorem addAdd (a : Addr) (hs : a.spot = none) (x y j : Nat) (h : x + y = j) : (a.add x).add y = ⟨a.block, a.off + j, none⟩ := by
  obtain ⟨b, o, s⟩ := a
  have hs' : s = none := hs
  subst hs' h
  have hadd : ∀ o n : Nat, Addr.add ⟨b, o, none⟩ n = ⟨b, o + n, none⟩ := fun o n => by
    unfold Addr.add
    split
    · next h => rw [h]; rfl
    · rfl
  rw [hadd, hadd, Nat.add_assoc]

theorem Dec.slice {P : Program} {T : Type} {e : T → List AV} {Q : T → Prop} {el t : TypeId} (d : Dec P e Q el) (ht : P.underlying t = some (.slice el)) (hc : P.cellsOf t = 1) (hk : 0 < P.cellsOf el) :
    Dec P (fun l : List T => [lst e l .unk]) (fun l => l.length ≤ maxLen ∧ ∀ x ∈ l, Q x) t where
  one := fun x a ha => by simp at ha; subst ha; rfl
  len := fun x => by rw [hc]; rfl
  dec := fun {H enc W sp held fuel cs y} h => by
    rcases DataW.trod_slice ht h with ⟨rfl, _⟩ | ⟨a, len, cap, elems, rest, n, rfl, rfl, _, _, hlc, hcm, hel, hes, _, _⟩
    · exact ⟨[], .cons (.list [] rfl (.inl rfl) (fun _ h => by cases h) (fun j a v (h : ([] : List AV)[j]? = some a) => by cases h) (Nat.le_refl _) trivial) (.nil _), Nat.zero_le _, fun _ h => by cases h⟩
    · have base : ∀ m, m ≤ len → ∃ l : List T, l.length = m ∧ (∀ x ∈ l, Q x) ∧ ∃ vs : List Value, RepL (K0 W) (l.flatMap e) vs ∧ vs.length = m * P.cellsOf el ∧
          ∀ i, i < m → ∀ j, j < P.cellsOf el → W.cell? ((a.add (i * P.cellsOf el)).add j) = vs[i * P.cellsOf el + j]? := by
        intro m
        induction m with
        | zero => intro _; exact ⟨[], rfl, (fun _ h => by cases h), [], RepL.nil _, by simp, (fun i hi => by omega)⟩
        | succ m ih =>
          intro hm
          obtain ⟨l, hl, hq, vs, hr, hv, hcell⟩ := ih (by omega)
          have h1 := hes m (by omega)
          obtain ⟨z, hz⟩ : ∃ z, elems[m]? = some z := ⟨_, List.getElem?_eq_getElem (by omega)⟩
          rw [hz] at h1
          obtain ⟨ws, hws, hd⟩ := Option.bind_eq_some_iff.1 h1
          obtain ⟨x, hx, hQ⟩ := d.dec hd
          obtain ⟨_, hwl, hwc⟩ := World.cells?_some hws
          refine ⟨l ++ [x], by simp [hl], fun u hu => ?_, vs ++ ws, ?_, ?_, fun i hi j hj => ?_⟩
          · rcases List.mem_append.1 hu with hu | hu
            · exact hq u hu
            · simp at hu; subst hu; exact hQ
          · rw [List.flatMap_append]
            exact hr.append (by simpa using hx)
          · rw [List.length_append, hv, hwl, Nat.succ_mul]
          · by_cases him : i < m
            · rw [hcell i him j hj, List.getElem?_append_left]
              rw [hv]
              have : (i + 1) * P.cellsOf el ≤ m * P.cellsOf el := Nat.mul_le_mul_right _ him
              rw [Nat.succ_mul] at this
              omega
            · obtain rfl : i = m := by omega
              rw [hwc j hj, List.getElem?_append_right (by rw [hv]; omega), hv]
              congr 1; omega
      obtain ⟨l, hl, hq, vs, hr, hv, hcell⟩ := base len (Nat.le_refl _)
      refine ⟨l, .cons ?_ (.nil _), by omega, hq⟩
      have hlen : (l.flatMap e).length = l.length * P.cellsOf el := flatMap_len d.len l
      have hone : ∀ a ∈ l.flatMap e, a.one = true := fun a ha => by
        obtain ⟨x, _, hx⟩ := List.mem_flatMap.1 ha
        exact d.one x a hx
      show RepV (K0 W) (.list l.length (l.flatMap e) .unk) _
      rw [hl]
      by_cases h0 : len = 0
      · obtain rfl : l = [] := List.eq_nil_of_length_eq_zero (by omega)
        obtain rfl : vs = [] := List.eq_nil_of_length_eq_zero (by rw [hv, h0]; simp)
        exact .list [] rfl (.inl rfl) hone hr.2 hlc trivial
      · have hs : a.spot = none := by
          have h2 := hcell 0 (by omega) 0 hk
          have hlt : 0 * P.cellsOf el + 0 < vs.length := by
            rw [hv]; have := Nat.mul_pos (Nat.pos_of_ne_zero h0) hk; omega
          rw [List.getElem?_eq_getElem hlt] at h2
          have := World.cell?_spot h2
          simpa [Addr.add] using this
        refine .list vs hr.1 (.inr ⟨a.block, a.off, ?_, fun j v hj => ?_⟩) hone hr.2 hlc trivial
        · obtain ⟨b, o, s⟩ := a
          simp at hs; subst hs; rfl
        · show W.cell? ⟨a.block, a.off + j, none⟩ = some v
          have hjl : j < len * P.cellsOf el := by rw [← hv]; exact (List.getElem?_eq_some_iff.1 hj).1
          have hdiv : j / P.cellsOf el < len := by rw [Nat.div_lt_iff_lt_mul hk]; exact hjl
          have h3 := hcell (j / P.cellsOf el) hdiv (j % P.cellsOf el) (Nat.mod_lt _ hk)
          rw [Nat.mul_comm (j / P.cellsOf el), Nat.div_add_mod, hj] at h3
          rw [← h3]
          congr 1
          exact (addAdd _ hs _ _ _ (Nat.div_add_mod j (P.cellsOf el))).symm

theorem Dec.struct2 {P : Program} {A B C : Type} {ea : A → List AV} {eb : B → List AV} {ec : C → List AV} {QA : A → Prop} {QB : B → Prop} {QC : C → Prop} {ta tb t : TypeId} {f0 f1 : Field}
    (mk : A → B → C) (da : Dec P ea QA ta) (db : Dec P eb QB tb) (ht : P.underlying t = some (.struct #[f0, f1])) (h0 : f0.type = ta ∧ f0.offset = 0) (h1 : f1.type = tb ∧ f1.offset = P.cellsOf ta)
    (hc : P.cellsOf t = P.cellsOf ta + P.cellsOf tb) (sur : ∀ c, ∃ a b, ec c = ea a ++ eb b) (he : ∀ a b, ec (mk a b) = ea a ++ eb b) (hq : ∀ a b, QA a → QB b → QC (mk a b)) : Dec P ec QC t where
  one := fun x v hv => by
    obtain ⟨a, b, h⟩ := sur x
    rw [h] at hv
    rcases List.mem_append.1 hv with hv | hv
    · exact da.one _ _ hv
    · exact db.one _ _ hv
  len := fun x => by
    obtain ⟨a, b, h⟩ := sur x
    rw [h, List.length_append, da.len, db.len, hc]
  dec := fun h => by
    obtain ⟨xs, n, rfl, rfl, hl, hx, hf⟩ := DataW.trod_struct ht h
    have g0 := hf 0 f0 rfl
    have g1 := hf 1 f1 rfl
    have hx2 : xs.length = 2 := by simpa using hx
    rw [List.getElem?_eq_getElem (by omega)] at g0 g1
    rw [h0.1, h0.2] at g0
    rw [h1.1, h1.2] at g1
    obtain ⟨a, ra, qa⟩ := da.dec g0
    obtain ⟨b, rb, qb⟩ := db.dec g1
    refine ⟨mk a b, ?_, hq a b qa qb⟩
    rw [he]
    have := ra.append rb
    rw [List.drop_zero, List.take_of_length_le (l := List.drop _ _) (by rw [List.length_drop]; omega), List.take_append_drop] at this
    exact this

theorem Dec.struct3 {P : Program} {A B D C : Type} {ea : A → List AV} {eb : B → List AV} {ed : D → List AV} {ec : C → List AV} {QA : A → Prop} {QB : B → Prop} {QD : D → Prop} {QC : C → Prop} {ta tb td t : TypeId} {f0 f1 f2 : Field}
    (mk : A → B → D → C) (da : Dec P ea QA ta) (db : Dec P eb QB tb) (dd : Dec P ed QD td) (ht : P.underlying t = some (.struct #[f0, f1, f2])) (h0 : f0.type = ta ∧ f0.offset = 0) (h1 : f1.type = tb ∧ f1.offset = P.cellsOf ta)
    (h2 : f2.type = td ∧ f2.offset = P.cellsOf ta + P.cellsOf tb)
    (hc : P.cellsOf t = P.cellsOf ta + P.cellsOf tb + P.cellsOf td) (sur : ∀ c, ∃ a b d, ec c = ea a ++ (eb b ++ ed d)) (he : ∀ a b d, ec (mk a b d) = ea a ++ (eb b ++ ed d)) (hq : ∀ a b d, QA a → QB b → QD d → QC (mk a b d)) : Dec P ec QC t where
  one := fun x v hv => by
    obtain ⟨a, b, d, h⟩ := sur x
    rw [h] at hv
    rcases List.mem_append.1 hv with hv | hv
    · exact da.one _ _ hv
    · rcases List.mem_append.1 hv with hv | hv
      · exact db.one _ _ hv
      · exact dd.one _ _ hv
  len := fun x => by
    obtain ⟨a, b, d, h⟩ := sur x
    rw [h, List.length_append, List.length_append, da.len, db.len, dd.len, hc]; omega
  dec := fun {_ _ _ _ _ _ cs _} h => by
    obtain ⟨xs, n, rfl, rfl, hl, hx, hf⟩ := DataW.trod_struct ht h
    have g0 := hf 0 f0 rfl
    have g1 := hf 1 f1 rfl
    have g2 := hf 2 f2 rfl
    have hx2 : xs.length = 3 := by simpa using hx
    rw [List.getElem?_eq_getElem (by omega)] at g0 g1 g2
    rw [h0.1, h0.2] at g0
    rw [h1.1, h1.2] at g1
    rw [h2.1, h2.2] at g2
    obtain ⟨a, ra, qa⟩ := da.dec g0
    obtain ⟨b, rb, qb⟩ := db.dec g1
    obtain ⟨d, rd, qd⟩ := dd.dec g2
    refine ⟨mk a b d, ?_, hq a b d qa qb qd⟩
    rw [he]
    have := ra.append (rb.append rd)
    have e3 : List.take (P.cellsOf tb) (cs.drop (P.cellsOf ta)) ++ List.take (P.cellsOf td) (cs.drop (P.cellsOf ta + P.cellsOf tb)) = cs.drop (P.cellsOf ta) := by
      rw [List.take_of_length_le (l := cs.drop (P.cellsOf ta + P.cellsOf tb)) (by rw [List.length_drop]; omega), ← List.drop_drop, List.take_append_drop]
    rw [e3, List.drop_zero, List.take_append_drop] at this
    exact this

/-- What a call is told: a value of several cells. -/
theorem Dec.agg {P : Program} {T : Type} {e : T → List AV} {Q : T → Prop} {t : TypeId} (d : Dec P e Q t) {H : Type} {enc : TypeId × Value → H} {W : World} {sp : Nat → Bool} {held : Bool} {v : Value} {x : DataW H} {ps : List MemPlace}
    (hv : ∃ cs, v = .agg cs) (h : DataW.Trod enc P W 0 sp held t v x ps) : ∃ x, RepV (K0 W) (.agg (e x)) v ∧ Q x := by
  obtain ⟨cs, rfl⟩ := hv
  obtain ⟨fuel, h⟩ := h
  obtain ⟨x, hr, hq⟩ := d.dec h
  refine ⟨x, ?_, hq⟩
  have := RepV.agg (K := K0 W) cs.toList hr.1 (d.one x) hr.2
  simpa using this
/-- One cell. -/
theorem Dec.cell {P : Program} {T : Type} {e : T → AV} {Q : T → Prop} {t : TypeId} (d : Dec P (fun x => [e x]) Q t) {H : Type} {enc : TypeId × Value → H} {W : World} {sp : Nat → Bool} {held : Bool} {v : Value} {x : DataW H} {ps : List MemPlace}
    (hv : ∀ cs, v ≠ .agg cs) (h : DataW.Trod enc P W 0 sp held t v x ps) : ∃ x, RepV (K0 W) (e x) v ∧ Q x := by
  obtain ⟨fuel, h⟩ := h
  obtain ⟨x, hr, hq⟩ := d.dec h
  have e1 : v.cells = #[v] := by cases v <;> first | rfl | exact absurd rfl (hv _)
  rw [e1] at hr
  exact ⟨x, hr.2 0 _ _ rfl rfl, hq⟩

/-- From a walk to the call by the machine. -/
theorem calls_of {C : Ctx} (hC : CtxOk C) (hg : ∀ g cs, C.glob g = some cs → Pure (.ro cs)) {f : FuncId} {args : List AV} {v : AV} {argsC : Array Value} {W : World}
    (h : Ev C (.call f args .nil v .nil)) (hr : RepL (K0 W) args argsC.toList) (glob : ∀ g cs, C.glob g = some cs → RepV (K0 W) (.ro cs) (.pointer (some ⟨g, 0, none⟩))) {r : Value} (hv : ∀ K u, RepV K v u → u = r) :
    Calls C.P f argsC W fun e w' => e = .returned r ∧ Go.RowKit.Below W.heap.size W w' := by
  intro cs
  have S : SCall C f args .nil v .nil := sound hC hg h
  have hs : Sat C (K0 W) .nil [] W := {
    base := ⟨rfl, rfl, rfl, Nat.le_refl _, fun _ _ => rfl, fun k h => by simpa [K0] using h⟩
    g := fun b o v h => h
    obj := fun id b h => by cases h
    inj := fun i j b h => by cases h
    defs := fun b h => by cases h
    nodup := List.nodup_nil
    glob := glob
    m := fun b cs h => by cases h }
  obtain ⟨K', w', fr, vc, hst, hfn, hlv, hle, _, hs', hrv⟩ := S.2 (K0 W) [] W argsC cs hs hr
  obtain rfl := hv _ _ hrv
  refine ⟨_, w', fr, ⟨rfl, ?_⟩, hst, hfn, hlv⟩
  have hb := hs'.base
  rw [hle.w0] at hb
  exact ⟨hb.os, hb.tape, hb.output, hb.size, fun k hk => hb.block k (by simpa [K0] using hk)⟩
end Go.Abs
