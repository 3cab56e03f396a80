/-
  DERIVED. GIVEN WITH THE SEED: THE CARDS: each row of YtdlofkamkiojlaaDoorRows.lean that lists a variable, with what it lists TIED to the program's text (the seventh form; the later family's looks); each row that meets fmt, with fmt's text TOLD by the authors' own Lean function (tested against real Go, not proved from fmt's source: count such statements apart). THE CARD IS WHAT COUNTS. Prove the row's statement (the work); the ties are given (YtdlofkamkiojlaaDoorTie.lean); close each card by the builder's one call (the guide's Derived/Test/ToyasCard.lean, 'card_holds'). Laid BY PROGRAM, IN A SANDBOX (cutbox-door.mjs). By AI agents, Wed Nov 11 2026. No macro, syntax, notation, axiom, sorry.
-/
import Derived.Test.YtdlofkamkiojlaaDoorRows
import GoSem.ClaimSeven
namespace Go.Proofs.YtdlofkamkiojlaaDoor
namespace Rows

/-- THE TIED CARD OF 'bioscopelaw03.TrainRoutes'. -/
def trainRoutesCard : Claim7 := { stood := { row := trainRoutesRow, standIns := [], harness := (true, "82d268d68b2b17a201eb723d6a2cca164b37ea834ec9bfa431c1bdd1600c54dd"), looks := false }, kinds := [], alts := [], laidByText := true, laidKinds := [.funcs], laidTests := true, laidLooks := .later }
def TrainRoutesCardSaid : Prop := Claim7.holds Tryd.pinned (.plain (OpenSpec.ofChange trainRoutesSpec)) trainRoutesCard

/-- THE TIED CARD OF 'bioscopelaw03.TrainBests'. -/
def trainBestsCard : Claim7 := { stood := { row := trainBestsRow, standIns := [], harness := (true, "82d268d68b2b17a201eb723d6a2cca164b37ea834ec9bfa431c1bdd1600c54dd"), looks := false }, kinds := [], alts := [], laidByText := true, laidKinds := [.funcs], laidTests := true, laidLooks := .later }
def TrainBestsCardSaid : Prop := Claim7.holds Tryd.pinned (.plain (OpenSpec.ofChange trainBestsSpec)) trainBestsCard

/-- THE TIED CARD OF 'bioscopelaw03.TrainReaches'. -/
def trainReachesCard : Claim7 := { stood := { row := trainReachesRow, standIns := [], harness := (true, "82d268d68b2b17a201eb723d6a2cca164b37ea834ec9bfa431c1bdd1600c54dd"), looks := false }, kinds := [], alts := [], laidByText := true, laidKinds := [.funcs], laidTests := true, laidLooks := .later }
def TrainReachesCardSaid : Prop := Claim7.holds Tryd.pinned (.plain (OpenSpec.ofChange trainReachesSpec)) trainReachesCard

/-- THE TIED CARD OF 'bioscopelaw03.TrainTrue'. -/
def trainTrueCard : Claim7 := { stood := { row := trainTrueRow, standIns := [], harness := (true, "82d268d68b2b17a201eb723d6a2cca164b37ea834ec9bfa431c1bdd1600c54dd"), looks := false }, kinds := [], alts := [], laidByText := true, laidKinds := [.funcs], laidTests := true, laidLooks := .later }
def TrainTrueCardSaid : Prop := Claim7.holds Tryd.pinned (.plain (OpenSpec.ofChange trainTrueSpec)) trainTrueCard

/-- THE TIED CARD OF 'bioscopelaw03.TrainMissed'. -/
def trainMissedCard : Claim7 := { stood := { row := trainMissedRow, standIns := [], harness := (true, "82d268d68b2b17a201eb723d6a2cca164b37ea834ec9bfa431c1bdd1600c54dd"), looks := false }, kinds := [], alts := [], laidByText := true, laidKinds := [.funcs], laidTests := true, laidLooks := .later }
def TrainMissedCardSaid : Prop := Claim7.holds Tryd.pinned (.plain (OpenSpec.ofChange trainMissedSpec)) trainMissedCard

/-- THE TIED CARD OF 'bioscopelaw03.TrainHanded'. -/
def trainHandedCard : Claim7 := { stood := { row := trainHandedRow, standIns := [], harness := (true, "82d268d68b2b17a201eb723d6a2cca164b37ea834ec9bfa431c1bdd1600c54dd"), looks := false }, kinds := [], alts := [], laidByText := true, laidKinds := [.funcs], laidTests := true, laidLooks := .later }
def TrainHandedCardSaid : Prop := Claim7.holds Tryd.pinned (.plain (OpenSpec.ofChange trainHandedSpec)) trainHandedCard

/-- THE TIED CARD OF 'bioscopelaw03.TrainLater'. -/
def trainLaterCard : Claim7 := { stood := { row := trainLaterRow, standIns := [], harness := (true, "82d268d68b2b17a201eb723d6a2cca164b37ea834ec9bfa431c1bdd1600c54dd"), looks := false }, kinds := [], alts := [], laidByText := true, laidKinds := [.funcs], laidTests := true, laidLooks := .later }
def TrainLaterCardSaid : Prop := Claim7.holds Tryd.pinned (.plain (OpenSpec.ofChange trainLaterSpec)) trainLaterCard

/-- THE TIED CARD OF 'bioscopelaw03.TrainHarder'. -/
def trainHarderCard : Claim7 := { stood := { row := trainHarderRow, standIns := [], harness := (true, "82d268d68b2b17a201eb723d6a2cca164b37ea834ec9bfa431c1bdd1600c54dd"), looks := false }, kinds := [], alts := [], laidByText := true, laidKinds := [.funcs], laidTests := true, laidLooks := .later }
def TrainHarderCardSaid : Prop := Claim7.holds Tryd.pinned (.plain (OpenSpec.ofChange trainHarderSpec)) trainHarderCard

/-- THE TIED CARD OF 'bioscopelaw03.TrainKnown'. -/
def trainKnownCard : Claim7 := { stood := { row := trainKnownRow, standIns := [], harness := (true, "82d268d68b2b17a201eb723d6a2cca164b37ea834ec9bfa431c1bdd1600c54dd"), looks := false }, kinds := [], alts := [], laidByText := true, laidKinds := [.funcs], laidTests := true, laidLooks := .later }
def TrainKnownCardSaid : Prop := Claim7.holds Tryd.pinned (.plain (OpenSpec.ofChange trainKnownSpec)) trainKnownCard

/-- THE SECOND FORM's CARD OF 'bioscopelaw03.TrainRoutes'. -/
def trainRoutesUptoCard : Claim7 := { stood := { row := trainRoutesUptoRow, standIns := [], harness := (true, "82d268d68b2b17a201eb723d6a2cca164b37ea834ec9bfa431c1bdd1600c54dd"), looks := false }, kinds := [], alts := [], laidByText := true, laidKinds := [.funcs], laidTests := true, laidLooks := .later }
def TrainRoutesUptoCardSaid : Prop := Claim7.holds Tryd.pinned (.plain (OpenSpec.upto trainRoutesSpec)) trainRoutesUptoCard

/-- THE SECOND FORM's CARD OF 'bioscopelaw03.TrainBests'. -/
def trainBestsUptoCard : Claim7 := { stood := { row := trainBestsUptoRow, standIns := [], harness := (true, "82d268d68b2b17a201eb723d6a2cca164b37ea834ec9bfa431c1bdd1600c54dd"), looks := false }, kinds := [], alts := [], laidByText := true, laidKinds := [.funcs], laidTests := true, laidLooks := .later }
def TrainBestsUptoCardSaid : Prop := Claim7.holds Tryd.pinned (.plain (OpenSpec.upto trainBestsSpec)) trainBestsUptoCard

/-- THE SECOND FORM's CARD OF 'bioscopelaw03.TrainReaches'. -/
def trainReachesUptoCard : Claim7 := { stood := { row := trainReachesUptoRow, standIns := [], harness := (true, "82d268d68b2b17a201eb723d6a2cca164b37ea834ec9bfa431c1bdd1600c54dd"), looks := false }, kinds := [], alts := [], laidByText := true, laidKinds := [.funcs], laidTests := true, laidLooks := .later }
def TrainReachesUptoCardSaid : Prop := Claim7.holds Tryd.pinned (.plain (OpenSpec.upto trainReachesSpec)) trainReachesUptoCard

/-- THE SECOND FORM's CARD OF 'bioscopelaw03.TrainTrue'. -/
def trainTrueUptoCard : Claim7 := { stood := { row := trainTrueUptoRow, standIns := [], harness := (true, "82d268d68b2b17a201eb723d6a2cca164b37ea834ec9bfa431c1bdd1600c54dd"), looks := false }, kinds := [], alts := [], laidByText := true, laidKinds := [.funcs], laidTests := true, laidLooks := .later }
def TrainTrueUptoCardSaid : Prop := Claim7.holds Tryd.pinned (.plain (OpenSpec.upto trainTrueSpec)) trainTrueUptoCard

/-- THE SECOND FORM's CARD OF 'bioscopelaw03.TrainMissed'. -/
def trainMissedUptoCard : Claim7 := { stood := { row := trainMissedUptoRow, standIns := [], harness := (true, "82d268d68b2b17a201eb723d6a2cca164b37ea834ec9bfa431c1bdd1600c54dd"), looks := false }, kinds := [], alts := [], laidByText := true, laidKinds := [.funcs], laidTests := true, laidLooks := .later }
def TrainMissedUptoCardSaid : Prop := Claim7.holds Tryd.pinned (.plain (OpenSpec.upto trainMissedSpec)) trainMissedUptoCard

/-- THE SECOND FORM's CARD OF 'bioscopelaw03.TrainHanded'. -/
def trainHandedUptoCard : Claim7 := { stood := { row := trainHandedUptoRow, standIns := [], harness := (true, "82d268d68b2b17a201eb723d6a2cca164b37ea834ec9bfa431c1bdd1600c54dd"), looks := false }, kinds := [], alts := [], laidByText := true, laidKinds := [.funcs], laidTests := true, laidLooks := .later }
def TrainHandedUptoCardSaid : Prop := Claim7.holds Tryd.pinned (.plain (OpenSpec.upto trainHandedSpec)) trainHandedUptoCard

/-- THE SECOND FORM's CARD OF 'bioscopelaw03.TrainLater'. -/
def trainLaterUptoCard : Claim7 := { stood := { row := trainLaterUptoRow, standIns := [], harness := (true, "82d268d68b2b17a201eb723d6a2cca164b37ea834ec9bfa431c1bdd1600c54dd"), looks := false }, kinds := [], alts := [], laidByText := true, laidKinds := [.funcs], laidTests := true, laidLooks := .later }
def TrainLaterUptoCardSaid : Prop := Claim7.holds Tryd.pinned (.plain (OpenSpec.upto trainLaterSpec)) trainLaterUptoCard

/-- THE SECOND FORM's CARD OF 'bioscopelaw03.TrainHarder'. -/
def trainHarderUptoCard : Claim7 := { stood := { row := trainHarderUptoRow, standIns := [], harness := (true, "82d268d68b2b17a201eb723d6a2cca164b37ea834ec9bfa431c1bdd1600c54dd"), looks := false }, kinds := [], alts := [], laidByText := true, laidKinds := [.funcs], laidTests := true, laidLooks := .later }
def TrainHarderUptoCardSaid : Prop := Claim7.holds Tryd.pinned (.plain (OpenSpec.upto trainHarderSpec)) trainHarderUptoCard

/-- THE SECOND FORM's CARD OF 'bioscopelaw03.TrainKnown'. -/
def trainKnownUptoCard : Claim7 := { stood := { row := trainKnownUptoRow, standIns := [], harness := (true, "82d268d68b2b17a201eb723d6a2cca164b37ea834ec9bfa431c1bdd1600c54dd"), looks := false }, kinds := [], alts := [], laidByText := true, laidKinds := [.funcs], laidTests := true, laidLooks := .later }
def TrainKnownUptoCardSaid : Prop := Claim7.holds Tryd.pinned (.plain (OpenSpec.upto trainKnownSpec)) trainKnownUptoCard
end Rows
end Go.Proofs.YtdlofkamkiojlaaDoor
