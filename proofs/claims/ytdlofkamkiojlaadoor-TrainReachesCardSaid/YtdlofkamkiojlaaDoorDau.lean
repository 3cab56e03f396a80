/- The plain data, further lemmas. Conditions: none. -/
import Derived.Test.YtdlofkamkiojlaaDoorGq
import Derived.Test.YtdlofkamkiojlaaDoorDat
namespace Go.Abs.Tr
open Go Go.Abs
theorem pTab (t : Table) : ∀ y ∈ eTable t, Pure y := by
  have h := pTable t
  cases h with
  | agg h => exact h
theorem lTab (t : Table) : (eTable t).length = 3 := rfl
theorem lCalc (c : Calc) : (eCalc c).length = 4 := rfl
/-- A route, and the minute by which a box surely is there. -/
structure Found where
  route : List Leg
  til : Int
def eFound (x : Found) : List AV := [lst eLeg x.route .unk, .int .i64 x.til]
theorem pFound (x : Found) : ∀ y ∈ eFound x, Pure y := pCons (pLegs _ pUnk) (pCons (.int _ _) pNil)
theorem lFound (x : Found) : (eFound x).length = 2 := rfl
/-- A span, if there is one. -/
structure Spn where
  span : Span
  some : Bool
def eSpn (x : Spn) : List AV := [.int .i64 x.span.low, .int .i64 x.span.high, .bool x.some]
theorem pSpn (x : Spn) : ∀ y ∈ eSpn x, Pure y := pCons (.int _ _) (pCons (.int _ _) (pCons (.bool _) pNil))
theorem lSpn (x : Spn) : (eSpn x).length = 3 := rfl
end Go.Abs.Tr
