/-
  DERIVED. GIVEN WITH THE SEED: THE CARDS: each row of YtdhfgopecekdjaaGreatDoorRows.lean that lists a variable, with what it lists TIED to the program's text (the seventh form; the later family's looks); each row that meets fmt, with fmt's text TOLD by the authors' own Lean function (tested against real Go, not proved from fmt's source: count such statements apart). THE CARD IS WHAT COUNTS. Prove the row's statement (the work); the ties are given (YtdhfgopecekdjaaGreatDoorTie.lean); close each card by the builder's one call (the guide's Derived/Test/ToyasCard.lean, 'card_holds'). Laid BY PROGRAM, IN A SANDBOX (cutbox-door.mjs). By AI agents, Wed Nov 11 2026. No macro, syntax, notation, axiom, sorry.
-/
import Derived.Test.YtdhfgopecekdjaaGreatDoorRows
import GoSem.ClaimSeven
namespace Go.Proofs.YtdhfgopecekdjaaGreatDoor
namespace Rows

/-- THE TIED CARD OF 'makeweightlaw19.LearnNobody'. -/
def learnNobodyCard : Claim7 := { stood := { row := learnNobodyRow, standIns := [], harness := (true, "52b97858c110a9ff1abdd86202bdb4b777e5639f3c1ad2fc60c137bcd2bc22bd"), looks := false }, kinds := [], alts := [], laidByText := true, laidKinds := [.data, .data, .data], laidTests := true, laidLooks := .later }
def LearnNobodyCardSaid : Prop := Claim7.holds Tryz.pinned (.plain (OpenSpec.ofChange learnNobodySpec)) learnNobodyCard

/-- THE SECOND FORM's CARD OF 'makeweightlaw19.LearnNobody'. -/
def learnNobodyUptoCard : Claim7 := { stood := { row := learnNobodyUptoRow, standIns := [], harness := (true, "52b97858c110a9ff1abdd86202bdb4b777e5639f3c1ad2fc60c137bcd2bc22bd"), looks := false }, kinds := [], alts := [], laidByText := true, laidKinds := [.data, .data, .data], laidTests := true, laidLooks := .later }
def LearnNobodyUptoCardSaid : Prop := Claim7.holds Tryz.pinned (.plain (OpenSpec.upto learnNobodySpec)) learnNobodyUptoCard
end Rows
end Go.Proofs.YtdhfgopecekdjaaGreatDoor
