/- TrainHanded: for any timetable and numbers a box that is handed in in the minute that is told surely is there in time, and in a later one it is not. Conditions: none. -/
import Derived.Test.YtdlofkamkiojlaaDoorXN8
namespace Go.Proofs.YtdlofkamkiojlaaDoor
theorem trainHanded_card : Rows.TrainHandedCardSaid := Go.Abs.Tr.card8 Go.Abs.Tr.plain8
end Go.Proofs.YtdlofkamkiojlaaDoor
