/-
  NARROWER THAN 'FOR EVERY INPUT', by the rows' own cells (each row's printed sentence says how): TrainRoutes: laid · TrainBests: laid · TrainReaches: laid · TrainTrue: laid · TrainMissed: laid · TrainHanded: laid · TrainLater: laid · TrainHarder: laid · TrainKnown: laid.
  DERIVED. THE GIVEN ROWS OF THIS SEAT. 9 by the template 'for every input the law returns true; each argument reads behind the call as it read before'; 0 by the template 'total and deterministic' (their statements: YtdlofkamkiojlaaDoorTotals.lean).
  GIVEN WITH THE SEED: the statements are not yours to turn. If you find one false, say at which input.
  Laid BY PROGRAM, IN A SANDBOX (cutbox-rows.mjs): the forced cells as the released guide's own fill.sh prints them over the translation 2a32c67152eaf45b… (all of the seat's roots in one cut). By AI agents, Wed Nov 11 2026. No macro, syntax, notation, axiom, sorry.
-/
import Derived.Test.YtdlofkamkiojlaaDoorChecked
import GoSem.Claim
import GoSem.ClaimJoined
import GoSem.ClaimMapViews
import Derived.JoinedTies
import Derived.KernelRfl
namespace Go.Proofs.YtdlofkamkiojlaaDoor
/- THE CELL 'sum', in the pinned program and in every row, IS THE sha256 OF THE DUMP (.gsa) THAT YtdlofkamkiojlaaDoorProg.lean LOADS. Nothing in Lean hashes anything: it is a label: what it is worth is what the hold of that sum in a sandbox is worth. -/
noncomputable def Tryd.pinned : Pinned := { name := "ytdlofkamkiojlaadoor", sum := "2a32c67152eaf45b74c5075177a9ebdaefe8cad43c38b40a4b00acd4ae833025", checked := Tryd.checked }
namespace Rows
def none {H : Type} : Left H := { results := [], args := [] }

/- WHAT THE LISTED PACKAGE-LEVEL VARIABLES READ AS WHEN THE CALL BEGINS. Each datum BY PROGRAM (the guide's laid-datum.mjs) off the statement by which the dump's own 'gosem.cut.vars' lays the variable. In a bare row this is a premise. The card (YtdlofkamkiojlaaDoorCards.lean) ties it to the program's text. -/
def laid_bioscope_train_ends {H : Type} : DataW H := .iface "func table" (.agg [.iface "func" (.lit (.string [40, 98, 105, 111, 115, 99, 111, 112, 101, 47, 116, 114, 97, 105, 110, 46, 116, 97, 98, 108, 101, 41, 46, 115, 111, 111, 110, 101, 115, 116])), .iface "func" (.lit (.string [40, 98, 105, 111, 115, 99, 111, 112, 101, 47, 116, 114, 97, 105, 110, 46, 116, 97, 98, 108, 101, 41, 46, 108, 97, 116, 101, 115, 116]))])

/-- 'bioscopelaw03.TrainRoutes': WHATEVER THE INPUT: true; the input reads as it did. -/
def trainRoutesSpec : ChangeSpec := { name := "trainRoutes", fn := fun _ => fun
  | [d1, d2, d3] => { results := [.lit (.bool true)], args := [d1, d2, d3] }
  | _ => none }
def trainRoutesRow : OpenClaim := { program := "ytdlofkamkiojlaadoor", sum := "2a32c67152eaf45b74c5075177a9ebdaefe8cad43c38b40a4b00acd4ae833025", func := "bioscope/bioscopelaw03.TrainRoutes", spec := "trainRoutes", unfollowed := true, recurses := true, named := ["bioscope/train.ends"], apart := false, laid := [("bioscope/train.ends", laid_bioscope_train_ends)] }
def TrainRoutesSaid : Prop := trainRoutesRow.holds Tryd.pinned (OpenSpec.ofChange trainRoutesSpec)

/-- ITS FALSE NEIGHBOUR: 'it returns false'. Refute it at one input. -/
def trainRoutesWrong : ChangeSpec := { name := "trainRoutes", fn := fun _ => fun
  | [d1, d2, d3] => { results := [.lit (.bool false)], args := [d1, d2, d3] }
  | _ => none }
def TrainRoutesWrongFalsely : Prop := trainRoutesRow.holds Tryd.pinned (OpenSpec.ofChange trainRoutesWrong)

/-- 'bioscopelaw03.TrainBests': WHATEVER THE INPUT: true; the input reads as it did. -/
def trainBestsSpec : ChangeSpec := { name := "trainBests", fn := fun _ => fun
  | [d1, d2] => { results := [.lit (.bool true)], args := [d1, d2] }
  | _ => none }
def trainBestsRow : OpenClaim := { program := "ytdlofkamkiojlaadoor", sum := "2a32c67152eaf45b74c5075177a9ebdaefe8cad43c38b40a4b00acd4ae833025", func := "bioscope/bioscopelaw03.TrainBests", spec := "trainBests", unfollowed := true, recurses := true, named := ["bioscope/train.ends"], apart := false, laid := [("bioscope/train.ends", laid_bioscope_train_ends)] }
def TrainBestsSaid : Prop := trainBestsRow.holds Tryd.pinned (OpenSpec.ofChange trainBestsSpec)

/-- ITS FALSE NEIGHBOUR: 'it returns false'. Refute it at one input. -/
def trainBestsWrong : ChangeSpec := { name := "trainBests", fn := fun _ => fun
  | [d1, d2] => { results := [.lit (.bool false)], args := [d1, d2] }
  | _ => none }
def TrainBestsWrongFalsely : Prop := trainBestsRow.holds Tryd.pinned (OpenSpec.ofChange trainBestsWrong)

/-- 'bioscopelaw03.TrainReaches': WHATEVER THE INPUT: true; the input reads as it did. -/
def trainReachesSpec : ChangeSpec := { name := "trainReaches", fn := fun _ => fun
  | [d1, d2] => { results := [.lit (.bool true)], args := [d1, d2] }
  | _ => none }
def trainReachesRow : OpenClaim := { program := "ytdlofkamkiojlaadoor", sum := "2a32c67152eaf45b74c5075177a9ebdaefe8cad43c38b40a4b00acd4ae833025", func := "bioscope/bioscopelaw03.TrainReaches", spec := "trainReaches", unfollowed := true, recurses := true, named := ["bioscope/train.ends"], apart := false, laid := [("bioscope/train.ends", laid_bioscope_train_ends)] }
def TrainReachesSaid : Prop := trainReachesRow.holds Tryd.pinned (OpenSpec.ofChange trainReachesSpec)

/-- ITS FALSE NEIGHBOUR: 'it returns false'. Refute it at one input. -/
def trainReachesWrong : ChangeSpec := { name := "trainReaches", fn := fun _ => fun
  | [d1, d2] => { results := [.lit (.bool false)], args := [d1, d2] }
  | _ => none }
def TrainReachesWrongFalsely : Prop := trainReachesRow.holds Tryd.pinned (OpenSpec.ofChange trainReachesWrong)

/-- 'bioscopelaw03.TrainTrue': WHATEVER THE INPUT: true; the input reads as it did. -/
def trainTrueSpec : ChangeSpec := { name := "trainTrue", fn := fun _ => fun
  | [d1, d2, d3, d4] => { results := [.lit (.bool true)], args := [d1, d2, d3, d4] }
  | _ => none }
def trainTrueRow : OpenClaim := { program := "ytdlofkamkiojlaadoor", sum := "2a32c67152eaf45b74c5075177a9ebdaefe8cad43c38b40a4b00acd4ae833025", func := "bioscope/bioscopelaw03.TrainTrue", spec := "trainTrue", unfollowed := true, recurses := true, named := ["bioscope/train.ends"], apart := false, laid := [("bioscope/train.ends", laid_bioscope_train_ends)] }
def TrainTrueSaid : Prop := trainTrueRow.holds Tryd.pinned (OpenSpec.ofChange trainTrueSpec)

/-- ITS FALSE NEIGHBOUR: 'it returns false'. Refute it at one input. -/
def trainTrueWrong : ChangeSpec := { name := "trainTrue", fn := fun _ => fun
  | [d1, d2, d3, d4] => { results := [.lit (.bool false)], args := [d1, d2, d3, d4] }
  | _ => none }
def TrainTrueWrongFalsely : Prop := trainTrueRow.holds Tryd.pinned (OpenSpec.ofChange trainTrueWrong)

/-- 'bioscopelaw03.TrainMissed': WHATEVER THE INPUT: true; the input reads as it did. -/
def trainMissedSpec : ChangeSpec := { name := "trainMissed", fn := fun _ => fun
  | [d1, d2, d3, d4] => { results := [.lit (.bool true)], args := [d1, d2, d3, d4] }
  | _ => none }
def trainMissedRow : OpenClaim := { program := "ytdlofkamkiojlaadoor", sum := "2a32c67152eaf45b74c5075177a9ebdaefe8cad43c38b40a4b00acd4ae833025", func := "bioscope/bioscopelaw03.TrainMissed", spec := "trainMissed", unfollowed := true, recurses := true, named := ["bioscope/train.ends"], apart := false, laid := [("bioscope/train.ends", laid_bioscope_train_ends)] }
def TrainMissedSaid : Prop := trainMissedRow.holds Tryd.pinned (OpenSpec.ofChange trainMissedSpec)

/-- ITS FALSE NEIGHBOUR: 'it returns false'. Refute it at one input. -/
def trainMissedWrong : ChangeSpec := { name := "trainMissed", fn := fun _ => fun
  | [d1, d2, d3, d4] => { results := [.lit (.bool false)], args := [d1, d2, d3, d4] }
  | _ => none }
def TrainMissedWrongFalsely : Prop := trainMissedRow.holds Tryd.pinned (OpenSpec.ofChange trainMissedWrong)

/-- 'bioscopelaw03.TrainHanded': WHATEVER THE INPUT: true; the input reads as it did. -/
def trainHandedSpec : ChangeSpec := { name := "trainHanded", fn := fun _ => fun
  | [d1, d2] => { results := [.lit (.bool true)], args := [d1, d2] }
  | _ => none }
def trainHandedRow : OpenClaim := { program := "ytdlofkamkiojlaadoor", sum := "2a32c67152eaf45b74c5075177a9ebdaefe8cad43c38b40a4b00acd4ae833025", func := "bioscope/bioscopelaw03.TrainHanded", spec := "trainHanded", unfollowed := true, recurses := true, named := ["bioscope/train.ends"], apart := false, laid := [("bioscope/train.ends", laid_bioscope_train_ends)] }
def TrainHandedSaid : Prop := trainHandedRow.holds Tryd.pinned (OpenSpec.ofChange trainHandedSpec)

/-- ITS FALSE NEIGHBOUR: 'it returns false'. Refute it at one input. -/
def trainHandedWrong : ChangeSpec := { name := "trainHanded", fn := fun _ => fun
  | [d1, d2] => { results := [.lit (.bool false)], args := [d1, d2] }
  | _ => none }
def TrainHandedWrongFalsely : Prop := trainHandedRow.holds Tryd.pinned (OpenSpec.ofChange trainHandedWrong)

/-- 'bioscopelaw03.TrainLater': WHATEVER THE INPUT: true; the input reads as it did. -/
def trainLaterSpec : ChangeSpec := { name := "trainLater", fn := fun _ => fun
  | [d1, d2] => { results := [.lit (.bool true)], args := [d1, d2] }
  | _ => none }
def trainLaterRow : OpenClaim := { program := "ytdlofkamkiojlaadoor", sum := "2a32c67152eaf45b74c5075177a9ebdaefe8cad43c38b40a4b00acd4ae833025", func := "bioscope/bioscopelaw03.TrainLater", spec := "trainLater", unfollowed := true, recurses := true, named := ["bioscope/train.ends"], apart := false, laid := [("bioscope/train.ends", laid_bioscope_train_ends)] }
def TrainLaterSaid : Prop := trainLaterRow.holds Tryd.pinned (OpenSpec.ofChange trainLaterSpec)

/-- ITS FALSE NEIGHBOUR: 'it returns false'. Refute it at one input. -/
def trainLaterWrong : ChangeSpec := { name := "trainLater", fn := fun _ => fun
  | [d1, d2] => { results := [.lit (.bool false)], args := [d1, d2] }
  | _ => none }
def TrainLaterWrongFalsely : Prop := trainLaterRow.holds Tryd.pinned (OpenSpec.ofChange trainLaterWrong)

/-- 'bioscopelaw03.TrainHarder': WHATEVER THE INPUT: true; the input reads as it did. -/
def trainHarderSpec : ChangeSpec := { name := "trainHarder", fn := fun _ => fun
  | [d1, d2, d3] => { results := [.lit (.bool true)], args := [d1, d2, d3] }
  | _ => none }
def trainHarderRow : OpenClaim := { program := "ytdlofkamkiojlaadoor", sum := "2a32c67152eaf45b74c5075177a9ebdaefe8cad43c38b40a4b00acd4ae833025", func := "bioscope/bioscopelaw03.TrainHarder", spec := "trainHarder", unfollowed := true, recurses := true, named := ["bioscope/train.ends"], apart := false, laid := [("bioscope/train.ends", laid_bioscope_train_ends)] }
def TrainHarderSaid : Prop := trainHarderRow.holds Tryd.pinned (OpenSpec.ofChange trainHarderSpec)

/-- ITS FALSE NEIGHBOUR: 'it returns false'. Refute it at one input. -/
def trainHarderWrong : ChangeSpec := { name := "trainHarder", fn := fun _ => fun
  | [d1, d2, d3] => { results := [.lit (.bool false)], args := [d1, d2, d3] }
  | _ => none }
def TrainHarderWrongFalsely : Prop := trainHarderRow.holds Tryd.pinned (OpenSpec.ofChange trainHarderWrong)

/-- 'bioscopelaw03.TrainKnown': WHATEVER THE INPUT: true; the input reads as it did. -/
def trainKnownSpec : ChangeSpec := { name := "trainKnown", fn := fun _ => fun
  | [] => { results := [.lit (.bool true)], args := [] }
  | _ => none }
def trainKnownRow : OpenClaim := { program := "ytdlofkamkiojlaadoor", sum := "2a32c67152eaf45b74c5075177a9ebdaefe8cad43c38b40a4b00acd4ae833025", func := "bioscope/bioscopelaw03.TrainKnown", spec := "trainKnown", unfollowed := true, recurses := true, named := ["bioscope/train.ends"], apart := false, laid := [("bioscope/train.ends", laid_bioscope_train_ends)] }
def TrainKnownSaid : Prop := trainKnownRow.holds Tryd.pinned (OpenSpec.ofChange trainKnownSpec)

/-- ITS FALSE NEIGHBOUR: 'it returns false'. Refute it at one input. -/
def trainKnownWrong : ChangeSpec := { name := "trainKnown", fn := fun _ => fun
  | [] => { results := [.lit (.bool false)], args := [] }
  | _ => none }
def TrainKnownWrongFalsely : Prop := trainKnownRow.holds Tryd.pinned (OpenSpec.ofChange trainKnownWrong)

/- THE SECOND FORM. 'bulk': how many values and letters a reading holds, each counted each time it is reached (what is shared counts as often as it is met; a slice's spare places count too). A statement '..UptoSaid' is the law's where the arguments, and the package variables that the reading takes, are together of bulk at most 1048576: NARROWER than '..Said'. Prove '..Said' where nothing that the law and all that it calls make is longer than what came in: it says more and counts as full. Else prove '..UptoSaid'. A law counts once. -/
mutual
def uptoBulk {H : Type} : DataW H → Nat
  | .lit (.string bytes) => bytes.length + 1
  | .lit _ => 1
  | .nil => 1
  | .ptr d => uptoBulk d + 1
  | .slice elems spare => uptoBulkAll elems + uptoBulkAll spare + 1
  | .agg parts => uptoBulkAll parts + 1
  | .iface _ d => uptoBulk d + 1
  | .map entries => uptoBulkEntries entries + 1
  | .held _ => 1
def uptoBulkAll {H : Type} : List (DataW H) → Nat
  | [] => 0
  | d :: r => uptoBulk d + uptoBulkAll r
def uptoBulkEntries {H : Type} : List (Lit × DataW H) → Nat
  | [] => 0
  | x :: r => uptoBulkEntry x + uptoBulkEntries r
def uptoBulkEntry {H : Type} : Lit × DataW H → Nat
  | (.string bytes, d) => bytes.length + uptoBulk d + 1
  | (_, d) => uptoBulk d + 1
 end
def uptoSmall : (H : Type) → List (DataW H) → Bool := fun _ ds => decide (uptoBulkAll ds ≤ 1048576)
def OpenSpec.upto (s : _root_.Go.ChangeSpec) : _root_.Go.OpenSpec := { _root_.Go.OpenSpec.ofChange s with cond := some uptoSmall }

/-- 'bioscopelaw03.TrainRoutes', WHERE WHAT IT READS IS OF BULK AT MOST 1048576: true; the input reads as it did. -/
def trainRoutesUptoRow : OpenClaim := { program := "ytdlofkamkiojlaadoor", sum := "2a32c67152eaf45b74c5075177a9ebdaefe8cad43c38b40a4b00acd4ae833025", func := "bioscope/bioscopelaw03.TrainRoutes", spec := "trainRoutes", unfollowed := true, recurses := true, named := ["bioscope/train.ends"], apart := false, laid := [("bioscope/train.ends", laid_bioscope_train_ends)], narrowed := true }
def TrainRoutesUptoSaid : Prop := trainRoutesUptoRow.holds Tryd.pinned (OpenSpec.upto trainRoutesSpec)

/-- 'bioscopelaw03.TrainBests', WHERE WHAT IT READS IS OF BULK AT MOST 1048576: true; the input reads as it did. -/
def trainBestsUptoRow : OpenClaim := { program := "ytdlofkamkiojlaadoor", sum := "2a32c67152eaf45b74c5075177a9ebdaefe8cad43c38b40a4b00acd4ae833025", func := "bioscope/bioscopelaw03.TrainBests", spec := "trainBests", unfollowed := true, recurses := true, named := ["bioscope/train.ends"], apart := false, laid := [("bioscope/train.ends", laid_bioscope_train_ends)], narrowed := true }
def TrainBestsUptoSaid : Prop := trainBestsUptoRow.holds Tryd.pinned (OpenSpec.upto trainBestsSpec)

/-- 'bioscopelaw03.TrainReaches', WHERE WHAT IT READS IS OF BULK AT MOST 1048576: true; the input reads as it did. -/
def trainReachesUptoRow : OpenClaim := { program := "ytdlofkamkiojlaadoor", sum := "2a32c67152eaf45b74c5075177a9ebdaefe8cad43c38b40a4b00acd4ae833025", func := "bioscope/bioscopelaw03.TrainReaches", spec := "trainReaches", unfollowed := true, recurses := true, named := ["bioscope/train.ends"], apart := false, laid := [("bioscope/train.ends", laid_bioscope_train_ends)], narrowed := true }
def TrainReachesUptoSaid : Prop := trainReachesUptoRow.holds Tryd.pinned (OpenSpec.upto trainReachesSpec)

/-- 'bioscopelaw03.TrainTrue', WHERE WHAT IT READS IS OF BULK AT MOST 1048576: true; the input reads as it did. -/
def trainTrueUptoRow : OpenClaim := { program := "ytdlofkamkiojlaadoor", sum := "2a32c67152eaf45b74c5075177a9ebdaefe8cad43c38b40a4b00acd4ae833025", func := "bioscope/bioscopelaw03.TrainTrue", spec := "trainTrue", unfollowed := true, recurses := true, named := ["bioscope/train.ends"], apart := false, laid := [("bioscope/train.ends", laid_bioscope_train_ends)], narrowed := true }
def TrainTrueUptoSaid : Prop := trainTrueUptoRow.holds Tryd.pinned (OpenSpec.upto trainTrueSpec)

/-- 'bioscopelaw03.TrainMissed', WHERE WHAT IT READS IS OF BULK AT MOST 1048576: true; the input reads as it did. -/
def trainMissedUptoRow : OpenClaim := { program := "ytdlofkamkiojlaadoor", sum := "2a32c67152eaf45b74c5075177a9ebdaefe8cad43c38b40a4b00acd4ae833025", func := "bioscope/bioscopelaw03.TrainMissed", spec := "trainMissed", unfollowed := true, recurses := true, named := ["bioscope/train.ends"], apart := false, laid := [("bioscope/train.ends", laid_bioscope_train_ends)], narrowed := true }
def TrainMissedUptoSaid : Prop := trainMissedUptoRow.holds Tryd.pinned (OpenSpec.upto trainMissedSpec)

/-- 'bioscopelaw03.TrainHanded', WHERE WHAT IT READS IS OF BULK AT MOST 1048576: true; the input reads as it did. -/
def trainHandedUptoRow : OpenClaim := { program := "ytdlofkamkiojlaadoor", sum := "2a32c67152eaf45b74c5075177a9ebdaefe8cad43c38b40a4b00acd4ae833025", func := "bioscope/bioscopelaw03.TrainHanded", spec := "trainHanded", unfollowed := true, recurses := true, named := ["bioscope/train.ends"], apart := false, laid := [("bioscope/train.ends", laid_bioscope_train_ends)], narrowed := true }
def TrainHandedUptoSaid : Prop := trainHandedUptoRow.holds Tryd.pinned (OpenSpec.upto trainHandedSpec)

/-- 'bioscopelaw03.TrainLater', WHERE WHAT IT READS IS OF BULK AT MOST 1048576: true; the input reads as it did. -/
def trainLaterUptoRow : OpenClaim := { program := "ytdlofkamkiojlaadoor", sum := "2a32c67152eaf45b74c5075177a9ebdaefe8cad43c38b40a4b00acd4ae833025", func := "bioscope/bioscopelaw03.TrainLater", spec := "trainLater", unfollowed := true, recurses := true, named := ["bioscope/train.ends"], apart := false, laid := [("bioscope/train.ends", laid_bioscope_train_ends)], narrowed := true }
def TrainLaterUptoSaid : Prop := trainLaterUptoRow.holds Tryd.pinned (OpenSpec.upto trainLaterSpec)

/-- 'bioscopelaw03.TrainHarder', WHERE WHAT IT READS IS OF BULK AT MOST 1048576: true; the input reads as it did. -/
def trainHarderUptoRow : OpenClaim := { program := "ytdlofkamkiojlaadoor", sum := "2a32c67152eaf45b74c5075177a9ebdaefe8cad43c38b40a4b00acd4ae833025", func := "bioscope/bioscopelaw03.TrainHarder", spec := "trainHarder", unfollowed := true, recurses := true, named := ["bioscope/train.ends"], apart := false, laid := [("bioscope/train.ends", laid_bioscope_train_ends)], narrowed := true }
def TrainHarderUptoSaid : Prop := trainHarderUptoRow.holds Tryd.pinned (OpenSpec.upto trainHarderSpec)

/-- 'bioscopelaw03.TrainKnown', WHERE WHAT IT READS IS OF BULK AT MOST 1048576: true; the input reads as it did. -/
def trainKnownUptoRow : OpenClaim := { program := "ytdlofkamkiojlaadoor", sum := "2a32c67152eaf45b74c5075177a9ebdaefe8cad43c38b40a4b00acd4ae833025", func := "bioscope/bioscopelaw03.TrainKnown", spec := "trainKnown", unfollowed := true, recurses := true, named := ["bioscope/train.ends"], apart := false, laid := [("bioscope/train.ends", laid_bioscope_train_ends)], narrowed := true }
def TrainKnownUptoSaid : Prop := trainKnownUptoRow.holds Tryd.pinned (OpenSpec.upto trainKnownSpec)

end Rows
end Go.Proofs.YtdlofkamkiojlaaDoor
