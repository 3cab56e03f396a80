/- TrainTrue: for any timetable and numbers the box surely is there by the minute that is told, by the route that is told, and by no other sooner. Conditions: none. -/
import Derived.Test.YtdlofkamkiojlaaDoorXN6
namespace Go.Proofs.YtdlofkamkiojlaaDoor
theorem trainTrue_card : Rows.TrainTrueCardSaid := Go.Abs.Tr.card6 Go.Abs.Tr.plain6
end Go.Proofs.YtdlofkamkiojlaaDoor
