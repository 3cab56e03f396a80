/- TrainRoutes: for any timetable, legs and numbers the program's answers are the chapter's. Conditions: none. -/
import Derived.Test.YtdlofkamkiojlaaDoorMc
namespace Go.Proofs.YtdlofkamkiojlaaDoor
theorem trainRoutes_card : Rows.TrainRoutesCardSaid := Go.Abs.Tr.card3 Go.Abs.Tr.plain3
#print axioms trainRoutes_card
end Go.Proofs.YtdlofkamkiojlaaDoor
