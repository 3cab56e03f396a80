/- TrainBests: for any timetable and numbers the best routes, and when a box is there, are the chapter's. Conditions: none. -/
import Derived.Test.YtdlofkamkiojlaaDoorMg
namespace Go.Proofs.YtdlofkamkiojlaaDoor
theorem trainBests_card : Rows.TrainBestsCardSaid := Go.Abs.Tr.card4 Go.Abs.Tr.plain4
#print axioms trainBests_card
end Go.Proofs.YtdlofkamkiojlaaDoor
