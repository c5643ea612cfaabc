/-
  DERIVED. GIVEN WITH THE SEED: THE CARDS: each row of YtfioapldbajpmaaDoorRows.lean that lists a variable, with what it lists TIED to the program's text (the seventh form; the later family's looks); each row that meets fmt, with fmt's text TOLD by the authors' own Lean function (tested against real Go, not proved from fmt's source: count such statements apart). THE CARD IS WHAT COUNTS. Prove the row's statement (the work); the ties are given (YtfioapldbajpmaaDoorTie.lean); close each card by the builder's one call (the guide's Derived/Test/ToyasCard.lean, 'card_holds'). Laid BY PROGRAM, IN A SANDBOX (cutbox-door.mjs). By AI agents, Wed Nov 11 2026. No macro, syntax, notation, axiom, sorry.
-/
import Derived.Test.YtfioapldbajpmaaDoorRows
import GoSem.ClaimSeven
namespace Go.Proofs.YtfioapldbajpmaaDoor
namespace Rows

/-- THE TIED CARD OF 'railheadlaw15.GasTells'. -/
def gasTellsCard : Claim7 := { stood := { row := gasTellsRow, standIns := [], harness := (true, "395d2463c8b2493250b593fac780326b0201a51d921835e66b7a0b9bbc88550d"), looks := false }, kinds := [], alts := [], laidByText := true, laidKinds := [.data, .pinned], laidTests := true, laidLooks := .later }
def GasTellsCardSaid : Prop := Claim7.holds Tryd.pinned (.plain (OpenSpec.ofChange gasTellsSpec)) gasTellsCard

/-- THE TIED CARD OF 'railheadlaw15.GasStores'. -/
def gasStoresCard : Claim7 := { stood := { row := gasStoresRow, standIns := [], harness := (true, "395d2463c8b2493250b593fac780326b0201a51d921835e66b7a0b9bbc88550d"), looks := false }, kinds := [], alts := [], laidByText := true, laidKinds := [.data, .pinned], laidTests := true, laidLooks := .later }
def GasStoresCardSaid : Prop := Claim7.holds Tryd.pinned (.plain (OpenSpec.ofChange gasStoresSpec)) gasStoresCard

/-- THE TIED CARD OF 'railheadlaw15.GasCalls'. -/
def gasCallsCard : Claim7 := { stood := { row := gasCallsRow, standIns := [], harness := (true, "395d2463c8b2493250b593fac780326b0201a51d921835e66b7a0b9bbc88550d"), looks := false }, kinds := [], alts := [], laidByText := true, laidKinds := [.data, .pinned], laidTests := true, laidLooks := .later }
def GasCallsCardSaid : Prop := Claim7.holds Tryd.pinned (.plain (OpenSpec.ofChange gasCallsSpec)) gasCallsCard

/-- THE TIED CARD OF 'railheadlaw15.GasData'. -/
def gasDataCard : Claim7 := { stood := { row := gasDataRow, standIns := [], harness := (true, "395d2463c8b2493250b593fac780326b0201a51d921835e66b7a0b9bbc88550d"), looks := false }, kinds := [], alts := [], laidByText := true, laidKinds := [.data, .pinned], laidTests := true, laidLooks := .later }
def GasDataCardSaid : Prop := Claim7.holds Tryd.pinned (.plain (OpenSpec.ofChange gasDataSpec)) gasDataCard

/-- THE TIED CARD OF 'railheadlaw15.GasRises'. -/
def gasRisesCard : Claim7 := { stood := { row := gasRisesRow, standIns := [], harness := (true, "395d2463c8b2493250b593fac780326b0201a51d921835e66b7a0b9bbc88550d"), looks := false }, kinds := [], alts := [], laidByText := true, laidKinds := [.data, .pinned], laidTests := true, laidLooks := .later }
def GasRisesCardSaid : Prop := Claim7.holds Tryd.pinned (.plain (OpenSpec.ofChange gasRisesSpec)) gasRisesCard

/-- THE TIED CARD OF 'railheadlaw15.GasWrites'. -/
def gasWritesCard : Claim7 := { stood := { row := gasWritesRow, standIns := [], harness := (true, "395d2463c8b2493250b593fac780326b0201a51d921835e66b7a0b9bbc88550d"), looks := false }, kinds := [], alts := [], laidByText := true, laidKinds := [.data, .pinned], laidTests := true, laidLooks := .later }
def GasWritesCardSaid : Prop := Claim7.holds Tryd.pinned (.plain (OpenSpec.ofChange gasWritesSpec)) gasWritesCard

/-- THE SECOND FORM's CARD OF 'railheadlaw15.GasTells'. -/
def gasTellsUptoCard : Claim7 := { stood := { row := gasTellsUptoRow, standIns := [], harness := (true, "395d2463c8b2493250b593fac780326b0201a51d921835e66b7a0b9bbc88550d"), looks := false }, kinds := [], alts := [], laidByText := true, laidKinds := [.data, .pinned], laidTests := true, laidLooks := .later }
def GasTellsUptoCardSaid : Prop := Claim7.holds Tryd.pinned (.plain (OpenSpec.upto gasTellsSpec)) gasTellsUptoCard

/-- THE SECOND FORM's CARD OF 'railheadlaw15.GasStores'. -/
def gasStoresUptoCard : Claim7 := { stood := { row := gasStoresUptoRow, standIns := [], harness := (true, "395d2463c8b2493250b593fac780326b0201a51d921835e66b7a0b9bbc88550d"), looks := false }, kinds := [], alts := [], laidByText := true, laidKinds := [.data, .pinned], laidTests := true, laidLooks := .later }
def GasStoresUptoCardSaid : Prop := Claim7.holds Tryd.pinned (.plain (OpenSpec.upto gasStoresSpec)) gasStoresUptoCard

/-- THE SECOND FORM's CARD OF 'railheadlaw15.GasCalls'. -/
def gasCallsUptoCard : Claim7 := { stood := { row := gasCallsUptoRow, standIns := [], harness := (true, "395d2463c8b2493250b593fac780326b0201a51d921835e66b7a0b9bbc88550d"), looks := false }, kinds := [], alts := [], laidByText := true, laidKinds := [.data, .pinned], laidTests := true, laidLooks := .later }
def GasCallsUptoCardSaid : Prop := Claim7.holds Tryd.pinned (.plain (OpenSpec.upto gasCallsSpec)) gasCallsUptoCard

/-- THE SECOND FORM's CARD OF 'railheadlaw15.GasData'. -/
def gasDataUptoCard : Claim7 := { stood := { row := gasDataUptoRow, standIns := [], harness := (true, "395d2463c8b2493250b593fac780326b0201a51d921835e66b7a0b9bbc88550d"), looks := false }, kinds := [], alts := [], laidByText := true, laidKinds := [.data, .pinned], laidTests := true, laidLooks := .later }
def GasDataUptoCardSaid : Prop := Claim7.holds Tryd.pinned (.plain (OpenSpec.upto gasDataSpec)) gasDataUptoCard

/-- THE SECOND FORM's CARD OF 'railheadlaw15.GasRises'. -/
def gasRisesUptoCard : Claim7 := { stood := { row := gasRisesUptoRow, standIns := [], harness := (true, "395d2463c8b2493250b593fac780326b0201a51d921835e66b7a0b9bbc88550d"), looks := false }, kinds := [], alts := [], laidByText := true, laidKinds := [.data, .pinned], laidTests := true, laidLooks := .later }
def GasRisesUptoCardSaid : Prop := Claim7.holds Tryd.pinned (.plain (OpenSpec.upto gasRisesSpec)) gasRisesUptoCard

/-- THE SECOND FORM's CARD OF 'railheadlaw15.GasWrites'. -/
def gasWritesUptoCard : Claim7 := { stood := { row := gasWritesUptoRow, standIns := [], harness := (true, "395d2463c8b2493250b593fac780326b0201a51d921835e66b7a0b9bbc88550d"), looks := false }, kinds := [], alts := [], laidByText := true, laidKinds := [.data, .pinned], laidTests := true, laidLooks := .later }
def GasWritesUptoCardSaid : Prop := Claim7.holds Tryd.pinned (.plain (OpenSpec.upto gasWritesSpec)) gasWritesUptoCard
end Rows
end Go.Proofs.YtfioapldbajpmaaDoor
