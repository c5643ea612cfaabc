/-
  DERIVED. GIVEN WITH THE SEED: THE CARDS: each row of YtolmipnaheifcaaGreatDoorRows.lean that lists a variable, with what it lists TIED to the program's text (the seventh form; the later family's looks); each row that meets fmt, with fmt's text TOLD by the authors' own Lean function (tested against real Go, not proved from fmt's source: count such statements apart). THE CARD IS WHAT COUNTS. Prove the row's statement (the work); the ties are given (YtolmipnaheifcaaGreatDoorTie.lean); close each card by the builder's one call (the guide's Derived/Test/ToyasCard.lean, 'card_holds'). Laid BY PROGRAM, IN A SANDBOX (cutbox-door.mjs). By AI agents, Wed Nov 11 2026. No macro, syntax, notation, axiom, sorry.
-/
import Derived.Test.YtolmipnaheifcaaGreatDoorRows
import GoSem.ClaimSeven
namespace Go.Proofs.YtolmipnaheifcaaGreatDoor
namespace Rows

/-- THE TIED CARD OF 'railheadlaw06.RlpTells'. -/
def rlpTellsCard : Claim7 := { stood := { row := rlpTellsRow, standIns := [], harness := (true, "912cb0837d9efb50697cf4e26f8e5b10ada957ec6f4e820cef6cba4be946d647"), looks := true }, kinds := [], alts := [], laidByText := true, laidKinds := [.data, .handle, .pinned], laidTests := true, laidLooks := .later }
def RlpTellsCardSaid : Prop := Claim7.holds Tryz.pinned (.plain (OpenSpec.ofChange rlpTellsSpec)) rlpTellsCard

/-- THE SECOND FORM's CARD OF 'railheadlaw06.RlpTells'. -/
def rlpTellsUptoCard : Claim7 := { stood := { row := rlpTellsUptoRow, standIns := [], harness := (true, "912cb0837d9efb50697cf4e26f8e5b10ada957ec6f4e820cef6cba4be946d647"), looks := true }, kinds := [], alts := [], laidByText := true, laidKinds := [.data, .handle, .pinned], laidTests := true, laidLooks := .later }
def RlpTellsUptoCardSaid : Prop := Claim7.holds Tryz.pinned (.plain (OpenSpec.upto rlpTellsSpec)) rlpTellsUptoCard
end Rows
end Go.Proofs.YtolmipnaheifcaaGreatDoor
