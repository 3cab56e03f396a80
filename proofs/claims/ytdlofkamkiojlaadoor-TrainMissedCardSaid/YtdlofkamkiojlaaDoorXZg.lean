/- TrainMissed: for any timetable and numbers, however late trains truly are, what is told of the trains that are missed, and of the minutes, is so. Conditions: none. -/
import Derived.Test.YtdlofkamkiojlaaDoorXN7
namespace Go.Proofs.YtdlofkamkiojlaaDoor
theorem trainMissed_card : Rows.TrainMissedCardSaid := Go.Abs.Tr.card7 Go.Abs.Tr.plain7
end Go.Proofs.YtdlofkamkiojlaaDoor
