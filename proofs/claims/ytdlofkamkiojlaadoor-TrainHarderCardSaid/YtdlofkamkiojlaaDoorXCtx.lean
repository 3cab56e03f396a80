/- The types of the program, as the abstract operations want them, and that they fit. Conditions: none. -/
import Derived.Test.YtdlofkamkiojlaaDoorXTy
import Derived.Test.YtdlofkamkiojlaaDoorTie
set_option maxRecDepth 100000
namespace Go.Abs.Tr
open Go Go.Abs Go.Proofs Go.Proofs.YtdlofkamkiojlaaDoor
def ty3 : ATy := { size := 1, agg := false, zero := [AV.int IntKind.i64 (0)], shape := AShape.int IntKind.i64, plain := none }
def ty4 : ATy := { size := 1, agg := false, zero := [AV.bool false], shape := AShape.bool, plain := none }
def ty22 : ATy := { size := 1, agg := false, zero := [AV.list 0 [] Cap.full], shape := AShape.slice 1 24 [AV.list 0 [] Cap.full], plain := none }
def ty23 : ATy := { size := 1, agg := false, zero := [AV.list 0 [] Cap.full], shape := AShape.slice 3 40 [AV.list 0 [] Cap.full, AV.int IntKind.i64 (0), AV.int IntKind.i64 (0)], plain := none }
def ty25 : ATy := { size := 3, agg := true, zero := [AV.list 0 [] Cap.full, AV.list 0 [] Cap.full, AV.int IntKind.i64 (0)], shape := AShape.struct [(0, 1, false), (1, 1, false), (2, 1, false)], plain := none }
def ty26 : ATy := { size := 1, agg := false, zero := [AV.list 0 [] Cap.full], shape := AShape.slice 3 24 [AV.int IntKind.i64 (0), AV.int IntKind.i64 (0), AV.int IntKind.i64 (0)], plain := none }
def ty27 : ATy := { size := 3, agg := true, zero := [AV.int IntKind.i64 (0), AV.int IntKind.i64 (0), AV.int IntKind.i64 (0)], shape := AShape.array 3 1 false, plain := some [some IntKind.i64, some IntKind.i64, some IntKind.i64] }
def ty28 : ATy := { size := 1, agg := false, zero := [AV.int IntKind.i64 (0)], shape := AShape.int IntKind.i64, plain := none }
def ty34 : ATy := { size := 1, agg := false, zero := [AV.list 0 [] Cap.full], shape := AShape.slice 1 8 [AV.int IntKind.i64 (0)], plain := none }
def ty39 : ATy := { size := 2, agg := true, zero := [AV.int IntKind.i64 (0), AV.int IntKind.i64 (0)], shape := AShape.struct [(0, 1, false), (1, 1, false)], plain := some [some IntKind.i64, some IntKind.i64] }
def ty54 : ATy := { size := 1, agg := false, zero := [AV.list 0 [] Cap.full], shape := AShape.slice 2 16 [AV.int IntKind.i64 (0), AV.int IntKind.i64 (0)], plain := none }
def ty65 : ATy := { size := 4, agg := true, zero := [AV.int IntKind.i64 (0), AV.int IntKind.i64 (0), AV.int IntKind.i64 (0), AV.int IntKind.i64 (0)], shape := AShape.array 4 1 false, plain := some [some IntKind.i64, some IntKind.i64, some IntKind.i64, some IntKind.i64] }
def ty70 : ATy := { size := 6, agg := true, zero := [AV.int IntKind.i64 (0), AV.int IntKind.i64 (0), AV.int IntKind.i64 (0), AV.int IntKind.i64 (0), AV.int IntKind.i64 (0), AV.int IntKind.i64 (0)], shape := AShape.array 6 1 false, plain := some [some IntKind.i64, some IntKind.i64, some IntKind.i64, some IntKind.i64, some IntKind.i64, some IntKind.i64] }
def ty71 : ATy := { size := 1, agg := false, zero := [AV.list 0 [] Cap.full], shape := AShape.slice 3 24 [AV.int IntKind.i64 (0), AV.int IntKind.i64 (0), AV.int IntKind.i64 (0)], plain := none }
def ty73 : ATy := { size := 3, agg := true, zero := [AV.list 0 [] Cap.full, AV.int IntKind.i64 (0), AV.int IntKind.i64 (0)], shape := AShape.struct [(0, 1, false), (1, 2, true)], plain := none }
def ty76 : ATy := { size := 1, agg := false, zero := [AV.list 0 [] Cap.full], shape := AShape.slice 3 56 [AV.list 0 [] Cap.full, AV.list 0 [] Cap.full, AV.int IntKind.i64 (0)], plain := none }
def ty78 : ATy := { size := 3, agg := true, zero := [AV.int IntKind.i64 (0), AV.int IntKind.i64 (0), AV.int IntKind.i64 (0)], shape := AShape.struct [(0, 1, false), (1, 1, false), (2, 1, false)], plain := some [some IntKind.i64, some IntKind.i64, some IntKind.i64] }
def ty80 : ATy := { size := 3, agg := true, zero := [AV.int IntKind.i64 (0), AV.int IntKind.i64 (0), AV.int IntKind.i64 (0)], shape := AShape.struct [(0, 1, false), (1, 1, false), (2, 1, false)], plain := some [some IntKind.i64, some IntKind.i64, some IntKind.i64] }
def ty82 : ATy := { size := 1, agg := false, zero := [AV.list 0 [] Cap.full], shape := AShape.slice 1 24 [AV.list 0 [] Cap.full], plain := none }
def ty84 : ATy := { size := 1, agg := false, zero := [AV.nilmap], shape := AShape.map 3 [AV.list 0 [] Cap.full] false, plain := none }
def ty86 : ATy := { size := 4, agg := true, zero := [AV.list 0 [] Cap.full, AV.list 0 [] Cap.full, AV.int IntKind.i64 (0), AV.nilmap], shape := AShape.struct [(0, 3, true), (3, 1, false)], plain := none }
def ty89 : ATy := { size := 1, agg := false, zero := [AV.nilFunc], shape := AShape.prim, plain := none }
def ty90 : ATy := { size := 1, agg := false, zero := [AV.nilFunc], shape := AShape.prim, plain := none }
def ty91 : ATy := { size := 1, agg := false, zero := [AV.nilFunc], shape := AShape.prim, plain := none }
def ty113 : ATy := { size := 2, agg := true, zero := [AV.list 0 [] Cap.full, AV.int IntKind.i64 (0)], shape := AShape.struct [(0, 1, false), (1, 1, false)], plain := none }
def ty118 : ATy := { size := 1, agg := false, zero := [AV.nilFunc], shape := AShape.prim, plain := none }
def ty122 : ATy := { size := 1, agg := false, zero := [AV.nilFunc], shape := AShape.prim, plain := none }
def ty123 : ATy := { size := 2, agg := true, zero := [AV.nilFunc, AV.nilFunc], shape := AShape.array 2 1 false, plain := none }
def ty125 : ATy := { size := 1, agg := false, zero := [AV.nilFunc], shape := AShape.prim, plain := none }
def ty129 : ATy := { size := 6, agg := true, zero := [AV.bool false, AV.bool false, AV.bool false, AV.bool false, AV.bool false, AV.bool false], shape := AShape.array 6 1 false, plain := some [none, none, none, none, none, none] }
def ty132 : ATy := { size := 3, agg := true, zero := [AV.int IntKind.i64 (0), AV.int IntKind.i64 (0), AV.bool false], shape := AShape.struct [(0, 2, true), (2, 1, false)], plain := some [some IntKind.i64, some IntKind.i64, none] }
def ty135 : ATy := { size := 1, agg := false, zero := [AV.nilFunc], shape := AShape.prim, plain := none }
def ty137 : ATy := { size := 1, agg := true, zero := [AV.nilFunc], shape := AShape.struct [(0, 1, false)], plain := none }
def ty141 : ATy := { size := 1, agg := false, zero := [AV.nilFunc], shape := AShape.prim, plain := none }
def tt : TT := (.node 78 ty78 (.node 28 ty28 (.node 23 ty23 (.node 4 ty4 (.node 3 ty3 .leaf .leaf) (.node 22 ty22 .leaf .leaf)) (.node 26 ty26 (.node 25 ty25 .leaf .leaf) (.node 27 ty27 .leaf .leaf))) (.node 65 ty65 (.node 39 ty39 (.node 34 ty34 .leaf .leaf) (.node 54 ty54 .leaf .leaf)) (.node 71 ty71 (.node 70 ty70 .leaf .leaf) (.node 73 ty73 .leaf (.node 76 ty76 .leaf .leaf))))) (.node 118 ty118 (.node 86 ty86 (.node 82 ty82 (.node 80 ty80 .leaf .leaf) (.node 84 ty84 .leaf .leaf)) (.node 90 ty90 (.node 89 ty89 .leaf .leaf) (.node 91 ty91 .leaf (.node 113 ty113 .leaf .leaf)))) (.node 129 ty129 (.node 123 ty123 (.node 122 ty122 .leaf .leaf) (.node 125 ty125 .leaf .leaf)) (.node 135 ty135 (.node 132 ty132 .leaf .leaf) (.node 137 ty137 .leaf (.node 141 ty141 .leaf .leaf))))))
theorem tt_ok : ∀ t d, tt.find t = some d → TyOk Tryd.prog t d := TT.ok (by kernel_rfl)
/-- The table of functions, as its cells read. -/
def ends : List AV := [.func 127 [] [], .func 125 [] []]
noncomputable def ctx : Ctx := { P := Tryd.prog, T := tt.find, glob := fun g => if g = 0 then some ends else none }
theorem ctx_ok : CtxOk ctx := ⟨by kernel_rfl, tt_ok⟩
theorem glob_pure : ∀ g cs, ctx.glob g = some cs → Pure (.ro cs) := by
  intro g cs h
  simp only [ctx] at h
  split at h
  · injection h with h
    subst h
    refine .ro fun a ha => ?_
    simp only [ends, List.mem_cons, List.not_mem_nil, or_false] at ha
    rcases ha with rfl | rfl <;> exact .func (fun _ h => by cases h) (fun _ h => by cases h)
  · cases h
theorem T3 : ctx.T 3 = some ty3 := rfl
theorem T84 : ctx.T 84 = some ty84 := rfl
theorem T141 : ctx.T 141 = some ty141 := rfl
end Go.Abs.Tr
