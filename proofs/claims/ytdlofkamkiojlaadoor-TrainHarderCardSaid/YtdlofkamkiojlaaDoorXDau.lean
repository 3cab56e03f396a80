/- The plain data, further lemmas. Conditions: none. -/
import Derived.Test.YtdlofkamkiojlaaDoorXGq
import Derived.Test.YtdlofkamkiojlaaDoorXDat
namespace Go.Abs.Tr
open Go Go.Abs
theorem pTab (t : Table) : ∀ y ∈ eTable t, Pure y := by
  have h := pTable t
  cases h with
  | agg h => exact h
/-- A route, and the minute by which a box surely is there. -/
structure Found where
  route : List Leg
  til : Int
def eFound (x : Found) : List AV := [lst eLeg x.route .unk, .int .i64 x.til]
theorem pFound (x : Found) : ∀ y ∈ eFound x, Pure y := pCons (pLegs _ pUnk) (pCons (.int _ _) pNil)
/-- A span, if there is one. -/
structure Spn where
  span : Span
  some : Bool
def eSpn (x : Spn) : List AV := [.int .i64 x.span.low, .int .i64 x.span.high, .bool x.some]
theorem pSpn (x : Spn) : ∀ y ∈ eSpn x, Pure y := pCons (.int _ _) (pCons (.int _ _) (pCons (.bool _) pNil))
end Go.Abs.Tr
