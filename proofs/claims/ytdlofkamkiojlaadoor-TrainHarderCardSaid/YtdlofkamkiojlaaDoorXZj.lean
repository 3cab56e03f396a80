/- TrainHarder: for any timetable and numbers, where trains can be late by more no box surely goes or is there sooner, and where an office is open until later, or a box takes less time to load, none is there later. Conditions: none. -/
import Derived.Test.YtdlofkamkiojlaaDoorXNb
namespace Go.Proofs.YtdlofkamkiojlaaDoor
theorem trainHarder_card : Rows.TrainHarderCardSaid := Go.Abs.Tr.card10 Go.Abs.Tr.plain10
end Go.Proofs.YtdlofkamkiojlaaDoor
