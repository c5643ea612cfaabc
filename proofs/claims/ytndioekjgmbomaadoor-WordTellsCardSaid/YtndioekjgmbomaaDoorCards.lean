/-
  DERIVED. GIVEN WITH THE SEED: THE CARDS: each row of YtndioekjgmbomaaDoorRows.lean that lists a variable, with what it lists TIED to the program's text (the seventh form; the later family's looks); each row that meets fmt, with fmt's text TOLD by the authors' own Lean function (tested against real Go, not proved from fmt's source: count such statements apart). THE CARD IS WHAT COUNTS. Prove the row's statement (the work); the ties are given (YtndioekjgmbomaaDoorTie.lean); close each card by the builder's one call (the guide's Derived/Test/ToyasCard.lean, 'card_holds'). Laid BY PROGRAM, IN A SANDBOX (cutbox-door.mjs). By AI agents, Wed Nov 11 2026. No macro, syntax, notation, axiom, sorry.
-/
import Derived.Test.YtndioekjgmbomaaDoorRows
import GoSem.ClaimSeven
namespace Go.Proofs.YtndioekjgmbomaaDoor
namespace Rows

/-- THE TIED CARD OF 'railheadlaw01.WordTells'. -/
def wordTellsCard : Claim7 := { stood := { row := wordTellsRow, standIns := [], harness := (true, "ac974b2d759a8d54108c3bc6490d2ce3433f0ae4bb95b620e9a4b1bc5917ce82"), looks := false }, kinds := [], alts := [], laidByText := true, laidKinds := [.data, .pinned], laidTests := true, laidLooks := .later }
def WordTellsCardSaid : Prop := Claim7.holds Tryd.pinned (.plain (OpenSpec.ofChange wordTellsSpec)) wordTellsCard

/-- THE TIED CARD OF 'railheadlaw01.WordBack'. -/
def wordBackCard : Claim7 := { stood := { row := wordBackRow, standIns := [], harness := (true, "ac974b2d759a8d54108c3bc6490d2ce3433f0ae4bb95b620e9a4b1bc5917ce82"), looks := false }, kinds := [], alts := [], laidByText := true, laidKinds := [.data, .pinned], laidTests := true, laidLooks := .later }
def WordBackCardSaid : Prop := Claim7.holds Tryd.pinned (.plain (OpenSpec.ofChange wordBackSpec)) wordBackCard

/-- THE TIED CARD OF 'railheadlaw01.WordTurns'. -/
def wordTurnsCard : Claim7 := { stood := { row := wordTurnsRow, standIns := [], harness := (true, "ac974b2d759a8d54108c3bc6490d2ce3433f0ae4bb95b620e9a4b1bc5917ce82"), looks := false }, kinds := [], alts := [], laidByText := true, laidKinds := [.data, .pinned], laidTests := true, laidLooks := .later }
def WordTurnsCardSaid : Prop := Claim7.holds Tryd.pinned (.plain (OpenSpec.ofChange wordTurnsSpec)) wordTurnsCard

/-- THE TIED CARD OF 'railheadlaw01.WordOrder'. -/
def wordOrderCard : Claim7 := { stood := { row := wordOrderRow, standIns := [], harness := (true, "ac974b2d759a8d54108c3bc6490d2ce3433f0ae4bb95b620e9a4b1bc5917ce82"), looks := false }, kinds := [], alts := [], laidByText := true, laidKinds := [.data, .pinned], laidTests := true, laidLooks := .later }
def WordOrderCardSaid : Prop := Claim7.holds Tryd.pinned (.plain (OpenSpec.ofChange wordOrderSpec)) wordOrderCard

/-- THE TIED CARD OF 'railheadlaw01.WordSmall'. -/
def wordSmallCard : Claim7 := { stood := { row := wordSmallRow, standIns := [], harness := (true, "ac974b2d759a8d54108c3bc6490d2ce3433f0ae4bb95b620e9a4b1bc5917ce82"), looks := false }, kinds := [], alts := [], laidByText := true, laidKinds := [.data, .pinned], laidTests := true, laidLooks := .later }
def WordSmallCardSaid : Prop := Claim7.holds Tryd.pinned (.plain (OpenSpec.ofChange wordSmallSpec)) wordSmallCard

/-- THE TIED CARD OF 'railheadlaw01.WordDoubles'. -/
def wordDoublesCard : Claim7 := { stood := { row := wordDoublesRow, standIns := [], harness := (true, "ac974b2d759a8d54108c3bc6490d2ce3433f0ae4bb95b620e9a4b1bc5917ce82"), looks := false }, kinds := [], alts := [], laidByText := true, laidKinds := [.data, .pinned], laidTests := true, laidLooks := .later }
def WordDoublesCardSaid : Prop := Claim7.holds Tryd.pinned (.plain (OpenSpec.ofChange wordDoublesSpec)) wordDoublesCard

/-- THE TIED CARD OF 'railheadlaw01.WordCuts'. -/
def wordCutsCard : Claim7 := { stood := { row := wordCutsRow, standIns := [], harness := (true, "ac974b2d759a8d54108c3bc6490d2ce3433f0ae4bb95b620e9a4b1bc5917ce82"), looks := false }, kinds := [], alts := [], laidByText := true, laidKinds := [.data, .pinned], laidTests := true, laidLooks := .later }
def WordCutsCardSaid : Prop := Claim7.holds Tryd.pinned (.plain (OpenSpec.ofChange wordCutsSpec)) wordCutsCard

/-- THE SECOND FORM's CARD OF 'railheadlaw01.WordTells'. -/
def wordTellsUptoCard : Claim7 := { stood := { row := wordTellsUptoRow, standIns := [], harness := (true, "ac974b2d759a8d54108c3bc6490d2ce3433f0ae4bb95b620e9a4b1bc5917ce82"), looks := false }, kinds := [], alts := [], laidByText := true, laidKinds := [.data, .pinned], laidTests := true, laidLooks := .later }
def WordTellsUptoCardSaid : Prop := Claim7.holds Tryd.pinned (.plain (OpenSpec.upto wordTellsSpec)) wordTellsUptoCard

/-- THE SECOND FORM's CARD OF 'railheadlaw01.WordBack'. -/
def wordBackUptoCard : Claim7 := { stood := { row := wordBackUptoRow, standIns := [], harness := (true, "ac974b2d759a8d54108c3bc6490d2ce3433f0ae4bb95b620e9a4b1bc5917ce82"), looks := false }, kinds := [], alts := [], laidByText := true, laidKinds := [.data, .pinned], laidTests := true, laidLooks := .later }
def WordBackUptoCardSaid : Prop := Claim7.holds Tryd.pinned (.plain (OpenSpec.upto wordBackSpec)) wordBackUptoCard

/-- THE SECOND FORM's CARD OF 'railheadlaw01.WordTurns'. -/
def wordTurnsUptoCard : Claim7 := { stood := { row := wordTurnsUptoRow, standIns := [], harness := (true, "ac974b2d759a8d54108c3bc6490d2ce3433f0ae4bb95b620e9a4b1bc5917ce82"), looks := false }, kinds := [], alts := [], laidByText := true, laidKinds := [.data, .pinned], laidTests := true, laidLooks := .later }
def WordTurnsUptoCardSaid : Prop := Claim7.holds Tryd.pinned (.plain (OpenSpec.upto wordTurnsSpec)) wordTurnsUptoCard

/-- THE SECOND FORM's CARD OF 'railheadlaw01.WordOrder'. -/
def wordOrderUptoCard : Claim7 := { stood := { row := wordOrderUptoRow, standIns := [], harness := (true, "ac974b2d759a8d54108c3bc6490d2ce3433f0ae4bb95b620e9a4b1bc5917ce82"), looks := false }, kinds := [], alts := [], laidByText := true, laidKinds := [.data, .pinned], laidTests := true, laidLooks := .later }
def WordOrderUptoCardSaid : Prop := Claim7.holds Tryd.pinned (.plain (OpenSpec.upto wordOrderSpec)) wordOrderUptoCard

/-- THE SECOND FORM's CARD OF 'railheadlaw01.WordSmall'. -/
def wordSmallUptoCard : Claim7 := { stood := { row := wordSmallUptoRow, standIns := [], harness := (true, "ac974b2d759a8d54108c3bc6490d2ce3433f0ae4bb95b620e9a4b1bc5917ce82"), looks := false }, kinds := [], alts := [], laidByText := true, laidKinds := [.data, .pinned], laidTests := true, laidLooks := .later }
def WordSmallUptoCardSaid : Prop := Claim7.holds Tryd.pinned (.plain (OpenSpec.upto wordSmallSpec)) wordSmallUptoCard

/-- THE SECOND FORM's CARD OF 'railheadlaw01.WordDoubles'. -/
def wordDoublesUptoCard : Claim7 := { stood := { row := wordDoublesUptoRow, standIns := [], harness := (true, "ac974b2d759a8d54108c3bc6490d2ce3433f0ae4bb95b620e9a4b1bc5917ce82"), looks := false }, kinds := [], alts := [], laidByText := true, laidKinds := [.data, .pinned], laidTests := true, laidLooks := .later }
def WordDoublesUptoCardSaid : Prop := Claim7.holds Tryd.pinned (.plain (OpenSpec.upto wordDoublesSpec)) wordDoublesUptoCard

/-- THE SECOND FORM's CARD OF 'railheadlaw01.WordCuts'. -/
def wordCutsUptoCard : Claim7 := { stood := { row := wordCutsUptoRow, standIns := [], harness := (true, "ac974b2d759a8d54108c3bc6490d2ce3433f0ae4bb95b620e9a4b1bc5917ce82"), looks := false }, kinds := [], alts := [], laidByText := true, laidKinds := [.data, .pinned], laidTests := true, laidLooks := .later }
def WordCutsUptoCardSaid : Prop := Claim7.holds Tryd.pinned (.plain (OpenSpec.upto wordCutsSpec)) wordCutsUptoCard
end Rows
end Go.Proofs.YtndioekjgmbomaaDoor
