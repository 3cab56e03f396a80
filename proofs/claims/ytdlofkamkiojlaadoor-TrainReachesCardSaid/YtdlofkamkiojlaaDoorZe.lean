/- TrainReaches: for any timetable and numbers the last minute in time, and by when each station is reached, are the chapter's. Conditions: none. -/
import Derived.Test.YtdlofkamkiojlaaDoorMl
namespace Go.Proofs.YtdlofkamkiojlaaDoor
theorem trainReaches_card : Rows.TrainReachesCardSaid := Go.Abs.Tr.card5 Go.Abs.Tr.plain5
#print axioms trainReaches_card
end Go.Proofs.YtdlofkamkiojlaaDoor
