/-
  DERIVED. GIVEN WITH THE SEED: THE CARDS: each row of YtemeabkpllolmaaGreatDoorRows.lean that lists a variable, with what it lists TIED to the program's text (the seventh form; the later family's looks); each row that meets fmt, with fmt's text TOLD by the authors' own Lean function (tested against real Go, not proved from fmt's source: count such statements apart). THE CARD IS WHAT COUNTS. Prove the row's statement (the work); the ties are given (YtemeabkpllolmaaGreatDoorTie.lean); close each card by the builder's one call (the guide's Derived/Test/ToyasCard.lean, 'card_holds'). Laid BY PROGRAM, IN A SANDBOX (cutbox-door.mjs). By AI agents, Wed Nov 11 2026. No macro, syntax, notation, axiom, sorry.
-/
import Derived.Test.YtemeabkpllolmaaGreatDoorRows
import GoSem.ClaimSeven
namespace Go.Proofs.YtemeabkpllolmaaGreatDoor
namespace Rows

/-- THE TIED CARD OF 'cleanselaw36.AttackPairs'. -/
def attackPairsCard : Claim7 := { stood := { row := attackPairsRow, standIns := [], harness := (true, "0b45a6afe819bb738498f8a15879b1620bc08289d63b66b6afac0b93ce30f247"), looks := true }, kinds := [], alts := [], laidByText := true, laidKinds := [.data, .data, .data], laidTests := true, laidLooks := .later }
def AttackPairsCardSaid : Prop := Claim7.holds Tryz.pinned (.plain (OpenSpec.ofChange attackPairsSpec)) attackPairsCard

/-- THE TIED CARD OF 'cleanselaw36.AttackNumbers'. -/
def attackNumbersCard : Claim7 := { stood := { row := attackNumbersRow, standIns := [], harness := (true, "0b45a6afe819bb738498f8a15879b1620bc08289d63b66b6afac0b93ce30f247"), looks := true }, kinds := [], alts := [], laidByText := true, laidKinds := [.data, .data, .data], laidTests := true, laidLooks := .later }
def AttackNumbersCardSaid : Prop := Claim7.holds Tryz.pinned (.plain (OpenSpec.ofChange attackNumbersSpec)) attackNumbersCard

/-- THE TIED CARD OF 'cleanselaw36.AttackMatchesReference'. -/
def attackMatchesReferenceCard : Claim7 := { stood := { row := attackMatchesReferenceRow, standIns := [], harness := (true, "0b45a6afe819bb738498f8a15879b1620bc08289d63b66b6afac0b93ce30f247"), looks := true }, kinds := [], alts := [], laidByText := true, laidKinds := [.data, .data, .data], laidTests := true, laidLooks := .later }
def AttackMatchesReferenceCardSaid : Prop := Claim7.holds Tryz.pinned (.plain (OpenSpec.ofChange attackMatchesReferenceSpec)) attackMatchesReferenceCard

/-- THE TIED CARD OF 'cleanselaw36.AttackCloses'. -/
def attackClosesCard : Claim7 := { stood := { row := attackClosesRow, standIns := [], harness := (true, "0b45a6afe819bb738498f8a15879b1620bc08289d63b66b6afac0b93ce30f247"), looks := true }, kinds := [], alts := [], laidByText := true, laidKinds := [.data, .data, .data], laidTests := true, laidLooks := .later }
def AttackClosesCardSaid : Prop := Claim7.holds Tryz.pinned (.plain (OpenSpec.ofChange attackClosesSpec)) attackClosesCard

/-- THE TIED CARD OF 'cleanselaw36.AttackKeys'. -/
def attackKeysCard : Claim7 := { stood := { row := attackKeysRow, standIns := [], harness := (true, "0b45a6afe819bb738498f8a15879b1620bc08289d63b66b6afac0b93ce30f247"), looks := true }, kinds := [], alts := [], laidByText := true, laidKinds := [.data, .data, .data], laidTests := true, laidLooks := .later }
def AttackKeysCardSaid : Prop := Claim7.holds Tryz.pinned (.plain (OpenSpec.ofChange attackKeysSpec)) attackKeysCard

/-- THE TIED CARD OF 'cleanselaw36.AttackMeans'. -/
def attackMeansCard : Claim7 := { stood := { row := attackMeansRow, standIns := [], harness := (true, "0b45a6afe819bb738498f8a15879b1620bc08289d63b66b6afac0b93ce30f247"), looks := true }, kinds := [], alts := [], laidByText := true, laidKinds := [.data, .data, .data], laidTests := true, laidLooks := .later }
def AttackMeansCardSaid : Prop := Claim7.holds Tryz.pinned (.plain (OpenSpec.ofChange attackMeansSpec)) attackMeansCard

/-- THE SECOND FORM's CARD OF 'cleanselaw36.AttackPairs'. -/
def attackPairsUptoCard : Claim7 := { stood := { row := attackPairsUptoRow, standIns := [], harness := (true, "0b45a6afe819bb738498f8a15879b1620bc08289d63b66b6afac0b93ce30f247"), looks := true }, kinds := [], alts := [], laidByText := true, laidKinds := [.data, .data, .data], laidTests := true, laidLooks := .later }
def AttackPairsUptoCardSaid : Prop := Claim7.holds Tryz.pinned (.plain (OpenSpec.upto attackPairsSpec)) attackPairsUptoCard

/-- THE SECOND FORM's CARD OF 'cleanselaw36.AttackNumbers'. -/
def attackNumbersUptoCard : Claim7 := { stood := { row := attackNumbersUptoRow, standIns := [], harness := (true, "0b45a6afe819bb738498f8a15879b1620bc08289d63b66b6afac0b93ce30f247"), looks := true }, kinds := [], alts := [], laidByText := true, laidKinds := [.data, .data, .data], laidTests := true, laidLooks := .later }
def AttackNumbersUptoCardSaid : Prop := Claim7.holds Tryz.pinned (.plain (OpenSpec.upto attackNumbersSpec)) attackNumbersUptoCard

/-- THE SECOND FORM's CARD OF 'cleanselaw36.AttackMatchesReference'. -/
def attackMatchesReferenceUptoCard : Claim7 := { stood := { row := attackMatchesReferenceUptoRow, standIns := [], harness := (true, "0b45a6afe819bb738498f8a15879b1620bc08289d63b66b6afac0b93ce30f247"), looks := true }, kinds := [], alts := [], laidByText := true, laidKinds := [.data, .data, .data], laidTests := true, laidLooks := .later }
def AttackMatchesReferenceUptoCardSaid : Prop := Claim7.holds Tryz.pinned (.plain (OpenSpec.upto attackMatchesReferenceSpec)) attackMatchesReferenceUptoCard

/-- THE SECOND FORM's CARD OF 'cleanselaw36.AttackCloses'. -/
def attackClosesUptoCard : Claim7 := { stood := { row := attackClosesUptoRow, standIns := [], harness := (true, "0b45a6afe819bb738498f8a15879b1620bc08289d63b66b6afac0b93ce30f247"), looks := true }, kinds := [], alts := [], laidByText := true, laidKinds := [.data, .data, .data], laidTests := true, laidLooks := .later }
def AttackClosesUptoCardSaid : Prop := Claim7.holds Tryz.pinned (.plain (OpenSpec.upto attackClosesSpec)) attackClosesUptoCard

/-- THE SECOND FORM's CARD OF 'cleanselaw36.AttackKeys'. -/
def attackKeysUptoCard : Claim7 := { stood := { row := attackKeysUptoRow, standIns := [], harness := (true, "0b45a6afe819bb738498f8a15879b1620bc08289d63b66b6afac0b93ce30f247"), looks := true }, kinds := [], alts := [], laidByText := true, laidKinds := [.data, .data, .data], laidTests := true, laidLooks := .later }
def AttackKeysUptoCardSaid : Prop := Claim7.holds Tryz.pinned (.plain (OpenSpec.upto attackKeysSpec)) attackKeysUptoCard

/-- THE SECOND FORM's CARD OF 'cleanselaw36.AttackMeans'. -/
def attackMeansUptoCard : Claim7 := { stood := { row := attackMeansUptoRow, standIns := [], harness := (true, "0b45a6afe819bb738498f8a15879b1620bc08289d63b66b6afac0b93ce30f247"), looks := true }, kinds := [], alts := [], laidByText := true, laidKinds := [.data, .data, .data], laidTests := true, laidLooks := .later }
def AttackMeansUptoCardSaid : Prop := Claim7.holds Tryz.pinned (.plain (OpenSpec.upto attackMeansSpec)) attackMeansUptoCard
end Rows
end Go.Proofs.YtemeabkpllolmaaGreatDoor
