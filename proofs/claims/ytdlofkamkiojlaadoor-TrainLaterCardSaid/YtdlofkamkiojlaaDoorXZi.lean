/- TrainLater: for any timetable and numbers a box that is handed in later surely is there no sooner, and each station that is reached surely is so. Conditions: none. -/
import Derived.Test.YtdlofkamkiojlaaDoorXN9
namespace Go.Proofs.YtdlofkamkiojlaaDoor
theorem trainLater_card : Rows.TrainLaterCardSaid := Go.Abs.Tr.card9 Go.Abs.Tr.plain9
end Go.Proofs.YtdlofkamkiojlaaDoor
