/-
  DERIVED. GIVEN WITH THE SEED: THE CARDS: each row of YtjlikmhhaecgnaaGreatDoorRows.lean that lists a variable, with what it lists TIED to the program's text (the seventh form; the later family's looks); each row that meets fmt, with fmt's text TOLD by the authors' own Lean function (tested against real Go, not proved from fmt's source: count such statements apart). THE CARD IS WHAT COUNTS. Prove the row's statement (the work); the ties are given (YtjlikmhhaecgnaaGreatDoorTie.lean); close each card by the builder's one call (the guide's Derived/Test/ToyasCard.lean, 'card_holds'). Laid BY PROGRAM, IN A SANDBOX (cutbox-door.mjs). By AI agents, Wed Nov 11 2026. No macro, syntax, notation, axiom, sorry.
-/
import Derived.Test.YtjlikmhhaecgnaaGreatDoorRows
import GoSem.ClaimSeven
namespace Go.Proofs.YtjlikmhhaecgnaaGreatDoor
namespace Rows

/-- THE TIED CARD OF 'strongroomlaw26.ShellNumbers'. -/
def shellNumbersCard : Claim7 := { stood := { row := shellNumbersRow, standIns := [], harness := (true, "790bfff0955bf8f149b9aa2b66e9cb3703140ce813597fee9aa8113ab64884a0"), looks := false }, kinds := [], alts := [], laidByText := true, laidKinds := [.data, .data, .data, .data, .pinned], laidTests := true, laidLooks := .later }
def ShellNumbersCardSaid : Prop := Claim7.holds Tryz.pinned (.plain (OpenSpec.ofChange shellNumbersSpec)) shellNumbersCard

/-- THE SECOND FORM's CARD OF 'strongroomlaw26.ShellNumbers'. -/
def shellNumbersUptoCard : Claim7 := { stood := { row := shellNumbersUptoRow, standIns := [], harness := (true, "790bfff0955bf8f149b9aa2b66e9cb3703140ce813597fee9aa8113ab64884a0"), looks := false }, kinds := [], alts := [], laidByText := true, laidKinds := [.data, .data, .data, .data, .pinned], laidTests := true, laidLooks := .later }
def ShellNumbersUptoCardSaid : Prop := Claim7.holds Tryz.pinned (.plain (OpenSpec.upto shellNumbersSpec)) shellNumbersUptoCard
end Rows
end Go.Proofs.YtjlikmhhaecgnaaGreatDoor
