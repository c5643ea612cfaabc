/-
  DERIVED. GIVEN WITH THE SEED: THE CARDS: each row of YtpcjmmdgopihcaaGreatDoorRows.lean that lists a variable, with what it lists TIED to the program's text (the seventh form; the later family's looks); each row that meets fmt, with fmt's text TOLD by the authors' own Lean function (tested against real Go, not proved from fmt's source: count such statements apart). THE CARD IS WHAT COUNTS. Prove the row's statement (the work); the ties are given (YtpcjmmdgopihcaaGreatDoorTie.lean); close each card by the builder's one call (the guide's Derived/Test/ToyasCard.lean, 'card_holds'). Laid BY PROGRAM, IN A SANDBOX (cutbox-door.mjs). By AI agents, Wed Nov 11 2026. No macro, syntax, notation, axiom, sorry.
-/
import Derived.Test.YtpcjmmdgopihcaaGreatDoorRows
import GoSem.ClaimSeven
namespace Go.Proofs.YtpcjmmdgopihcaaGreatDoor
namespace Rows

/-- THE TIED CARD OF 'railheadlaw08.StateTells'. -/
def stateTellsCard : Claim7 := { stood := { row := stateTellsRow, standIns := [], harness := (true, "ce46b5c2aa48bc9eed91f1202f61168fe3df0b256c3e1bbd288cbf497f4fa1a8"), looks := false }, kinds := [], alts := [], laidByText := true, laidKinds := [.data, .data, .pinned], laidTests := true, laidLooks := .later }
def StateTellsCardSaid : Prop := Claim7.holds Tryz.pinned (.plain (OpenSpec.ofChange stateTellsSpec)) stateTellsCard

/-- THE TIED CARD OF 'railheadlaw08.StateBack'. -/
def stateBackCard : Claim7 := { stood := { row := stateBackRow, standIns := [], harness := (true, "ce46b5c2aa48bc9eed91f1202f61168fe3df0b256c3e1bbd288cbf497f4fa1a8"), looks := false }, kinds := [], alts := [], laidByText := true, laidKinds := [.data, .data, .pinned], laidTests := true, laidLooks := .later }
def StateBackCardSaid : Prop := Claim7.holds Tryz.pinned (.plain (OpenSpec.ofChange stateBackSpec)) stateBackCard

/-- THE TIED CARD OF 'railheadlaw08.StateSets'. -/
def stateSetsCard : Claim7 := { stood := { row := stateSetsRow, standIns := [], harness := (true, "ce46b5c2aa48bc9eed91f1202f61168fe3df0b256c3e1bbd288cbf497f4fa1a8"), looks := false }, kinds := [], alts := [], laidByText := true, laidKinds := [.data, .data, .pinned], laidTests := true, laidLooks := .later }
def StateSetsCardSaid : Prop := Claim7.holds Tryz.pinned (.plain (OpenSpec.ofChange stateSetsSpec)) stateSetsCard

/-- THE TIED CARD OF 'railheadlaw08.StateDigests'. -/
def stateDigestsCard : Claim7 := { stood := { row := stateDigestsRow, standIns := [], harness := (true, "ce46b5c2aa48bc9eed91f1202f61168fe3df0b256c3e1bbd288cbf497f4fa1a8"), looks := false }, kinds := [], alts := [], laidByText := true, laidKinds := [.data, .data, .pinned], laidTests := true, laidLooks := .later }
def StateDigestsCardSaid : Prop := Claim7.holds Tryz.pinned (.plain (OpenSpec.ofChange stateDigestsSpec)) stateDigestsCard

/-- THE TIED CARD OF 'railheadlaw08.StateSorts'. -/
def stateSortsCard : Claim7 := { stood := { row := stateSortsRow, standIns := [], harness := (true, "ce46b5c2aa48bc9eed91f1202f61168fe3df0b256c3e1bbd288cbf497f4fa1a8"), looks := false }, kinds := [], alts := [], laidByText := true, laidKinds := [.data, .data, .pinned], laidTests := true, laidLooks := .later }
def StateSortsCardSaid : Prop := Claim7.holds Tryz.pinned (.plain (OpenSpec.ofChange stateSortsSpec)) stateSortsCard

/-- THE TIED CARD OF 'railheadlaw08.StateMost'. -/
def stateMostCard : Claim7 := { stood := { row := stateMostRow, standIns := [], harness := (true, "ce46b5c2aa48bc9eed91f1202f61168fe3df0b256c3e1bbd288cbf497f4fa1a8"), looks := false }, kinds := [], alts := [], laidByText := true, laidKinds := [.data, .data, .pinned], laidTests := true, laidLooks := .later }
def StateMostCardSaid : Prop := Claim7.holds Tryz.pinned (.plain (OpenSpec.ofChange stateMostSpec)) stateMostCard

/-- THE SECOND FORM's CARD OF 'railheadlaw08.StateTells'. -/
def stateTellsUptoCard : Claim7 := { stood := { row := stateTellsUptoRow, standIns := [], harness := (true, "ce46b5c2aa48bc9eed91f1202f61168fe3df0b256c3e1bbd288cbf497f4fa1a8"), looks := false }, kinds := [], alts := [], laidByText := true, laidKinds := [.data, .data, .pinned], laidTests := true, laidLooks := .later }
def StateTellsUptoCardSaid : Prop := Claim7.holds Tryz.pinned (.plain (OpenSpec.upto stateTellsSpec)) stateTellsUptoCard

/-- THE SECOND FORM's CARD OF 'railheadlaw08.StateBack'. -/
def stateBackUptoCard : Claim7 := { stood := { row := stateBackUptoRow, standIns := [], harness := (true, "ce46b5c2aa48bc9eed91f1202f61168fe3df0b256c3e1bbd288cbf497f4fa1a8"), looks := false }, kinds := [], alts := [], laidByText := true, laidKinds := [.data, .data, .pinned], laidTests := true, laidLooks := .later }
def StateBackUptoCardSaid : Prop := Claim7.holds Tryz.pinned (.plain (OpenSpec.upto stateBackSpec)) stateBackUptoCard

/-- THE SECOND FORM's CARD OF 'railheadlaw08.StateSets'. -/
def stateSetsUptoCard : Claim7 := { stood := { row := stateSetsUptoRow, standIns := [], harness := (true, "ce46b5c2aa48bc9eed91f1202f61168fe3df0b256c3e1bbd288cbf497f4fa1a8"), looks := false }, kinds := [], alts := [], laidByText := true, laidKinds := [.data, .data, .pinned], laidTests := true, laidLooks := .later }
def StateSetsUptoCardSaid : Prop := Claim7.holds Tryz.pinned (.plain (OpenSpec.upto stateSetsSpec)) stateSetsUptoCard

/-- THE SECOND FORM's CARD OF 'railheadlaw08.StateDigests'. -/
def stateDigestsUptoCard : Claim7 := { stood := { row := stateDigestsUptoRow, standIns := [], harness := (true, "ce46b5c2aa48bc9eed91f1202f61168fe3df0b256c3e1bbd288cbf497f4fa1a8"), looks := false }, kinds := [], alts := [], laidByText := true, laidKinds := [.data, .data, .pinned], laidTests := true, laidLooks := .later }
def StateDigestsUptoCardSaid : Prop := Claim7.holds Tryz.pinned (.plain (OpenSpec.upto stateDigestsSpec)) stateDigestsUptoCard

/-- THE SECOND FORM's CARD OF 'railheadlaw08.StateSorts'. -/
def stateSortsUptoCard : Claim7 := { stood := { row := stateSortsUptoRow, standIns := [], harness := (true, "ce46b5c2aa48bc9eed91f1202f61168fe3df0b256c3e1bbd288cbf497f4fa1a8"), looks := false }, kinds := [], alts := [], laidByText := true, laidKinds := [.data, .data, .pinned], laidTests := true, laidLooks := .later }
def StateSortsUptoCardSaid : Prop := Claim7.holds Tryz.pinned (.plain (OpenSpec.upto stateSortsSpec)) stateSortsUptoCard

/-- THE SECOND FORM's CARD OF 'railheadlaw08.StateMost'. -/
def stateMostUptoCard : Claim7 := { stood := { row := stateMostUptoRow, standIns := [], harness := (true, "ce46b5c2aa48bc9eed91f1202f61168fe3df0b256c3e1bbd288cbf497f4fa1a8"), looks := false }, kinds := [], alts := [], laidByText := true, laidKinds := [.data, .data, .pinned], laidTests := true, laidLooks := .later }
def StateMostUptoCardSaid : Prop := Claim7.holds Tryz.pinned (.plain (OpenSpec.upto stateMostSpec)) stateMostUptoCard
end Rows
end Go.Proofs.YtpcjmmdgopihcaaGreatDoor
