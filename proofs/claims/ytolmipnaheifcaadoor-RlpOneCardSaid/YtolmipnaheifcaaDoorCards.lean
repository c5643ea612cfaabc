/-
  DERIVED. GIVEN WITH THE SEED: THE CARDS: each row of YtolmipnaheifcaaDoorRows.lean that lists a variable, with what it lists TIED to the program's text (the seventh form; the later family's looks); each row that meets fmt, with fmt's text TOLD by the authors' own Lean function (tested against real Go, not proved from fmt's source: count such statements apart). THE CARD IS WHAT COUNTS. Prove the row's statement (the work); the ties are given (YtolmipnaheifcaaDoorTie.lean); close each card by the builder's one call (the guide's Derived/Test/ToyasCard.lean, 'card_holds'). Laid BY PROGRAM, IN A SANDBOX (cutbox-door.mjs). By AI agents, Wed Nov 11 2026. No macro, syntax, notation, axiom, sorry.
-/
import Derived.Test.YtolmipnaheifcaaDoorRows
import GoSem.ClaimSeven
namespace Go.Proofs.YtolmipnaheifcaaDoor
namespace Rows

/-- THE TIED CARD OF 'railheadlaw06.RlpOne'. -/
def rlpOneCard : Claim7 := { stood := { row := rlpOneRow, standIns := [], harness := (true, "a941ac3e3f2b9ac113a7bb1806d98c3493e471037c7c7e838f3c1d3fe34fd6d7"), looks := true }, kinds := [], alts := [], laidByText := true, laidKinds := [.data, .handle, .pinned], laidTests := true, laidLooks := .later }
def RlpOneCardSaid : Prop := Claim7.holds Tryd.pinned (.plain (OpenSpec.ofChange rlpOneSpec)) rlpOneCard

/-- THE TIED CARD OF 'railheadlaw06.RlpNumbers'. -/
def rlpNumbersCard : Claim7 := { stood := { row := rlpNumbersRow, standIns := [], harness := (true, "a941ac3e3f2b9ac113a7bb1806d98c3493e471037c7c7e838f3c1d3fe34fd6d7"), looks := true }, kinds := [], alts := [], laidByText := true, laidKinds := [.data, .handle, .pinned], laidTests := true, laidLooks := .later }
def RlpNumbersCardSaid : Prop := Claim7.holds Tryd.pinned (.plain (OpenSpec.ofChange rlpNumbersSpec)) rlpNumbersCard

/-- THE TIED CARD OF 'railheadlaw06.RlpParts'. -/
def rlpPartsCard : Claim7 := { stood := { row := rlpPartsRow, standIns := [], harness := (true, "a941ac3e3f2b9ac113a7bb1806d98c3493e471037c7c7e838f3c1d3fe34fd6d7"), looks := true }, kinds := [], alts := [], laidByText := true, laidKinds := [.data, .handle, .pinned], laidTests := true, laidLooks := .later }
def RlpPartsCardSaid : Prop := Claim7.holds Tryd.pinned (.plain (OpenSpec.ofChange rlpPartsSpec)) rlpPartsCard

/-- THE TIED CARD OF 'railheadlaw06.RlpDeep'. -/
def rlpDeepCard : Claim7 := { stood := { row := rlpDeepRow, standIns := [], harness := (true, "a941ac3e3f2b9ac113a7bb1806d98c3493e471037c7c7e838f3c1d3fe34fd6d7"), looks := true }, kinds := [], alts := [], laidByText := true, laidKinds := [.data, .handle, .pinned], laidTests := true, laidLooks := .later }
def RlpDeepCardSaid : Prop := Claim7.holds Tryd.pinned (.plain (OpenSpec.ofChange rlpDeepSpec)) rlpDeepCard

/-- THE TIED CARD OF 'railheadlaw06.RlpCuts'. -/
def rlpCutsCard : Claim7 := { stood := { row := rlpCutsRow, standIns := [], harness := (true, "a941ac3e3f2b9ac113a7bb1806d98c3493e471037c7c7e838f3c1d3fe34fd6d7"), looks := true }, kinds := [], alts := [], laidByText := true, laidKinds := [.data, .handle, .pinned], laidTests := true, laidLooks := .later }
def RlpCutsCardSaid : Prop := Claim7.holds Tryd.pinned (.plain (OpenSpec.ofChange rlpCutsSpec)) rlpCutsCard

/-- THE SECOND FORM's CARD OF 'railheadlaw06.RlpOne'. -/
def rlpOneUptoCard : Claim7 := { stood := { row := rlpOneUptoRow, standIns := [], harness := (true, "a941ac3e3f2b9ac113a7bb1806d98c3493e471037c7c7e838f3c1d3fe34fd6d7"), looks := true }, kinds := [], alts := [], laidByText := true, laidKinds := [.data, .handle, .pinned], laidTests := true, laidLooks := .later }
def RlpOneUptoCardSaid : Prop := Claim7.holds Tryd.pinned (.plain (OpenSpec.upto rlpOneSpec)) rlpOneUptoCard

/-- THE SECOND FORM's CARD OF 'railheadlaw06.RlpNumbers'. -/
def rlpNumbersUptoCard : Claim7 := { stood := { row := rlpNumbersUptoRow, standIns := [], harness := (true, "a941ac3e3f2b9ac113a7bb1806d98c3493e471037c7c7e838f3c1d3fe34fd6d7"), looks := true }, kinds := [], alts := [], laidByText := true, laidKinds := [.data, .handle, .pinned], laidTests := true, laidLooks := .later }
def RlpNumbersUptoCardSaid : Prop := Claim7.holds Tryd.pinned (.plain (OpenSpec.upto rlpNumbersSpec)) rlpNumbersUptoCard

/-- THE SECOND FORM's CARD OF 'railheadlaw06.RlpParts'. -/
def rlpPartsUptoCard : Claim7 := { stood := { row := rlpPartsUptoRow, standIns := [], harness := (true, "a941ac3e3f2b9ac113a7bb1806d98c3493e471037c7c7e838f3c1d3fe34fd6d7"), looks := true }, kinds := [], alts := [], laidByText := true, laidKinds := [.data, .handle, .pinned], laidTests := true, laidLooks := .later }
def RlpPartsUptoCardSaid : Prop := Claim7.holds Tryd.pinned (.plain (OpenSpec.upto rlpPartsSpec)) rlpPartsUptoCard

/-- THE SECOND FORM's CARD OF 'railheadlaw06.RlpDeep'. -/
def rlpDeepUptoCard : Claim7 := { stood := { row := rlpDeepUptoRow, standIns := [], harness := (true, "a941ac3e3f2b9ac113a7bb1806d98c3493e471037c7c7e838f3c1d3fe34fd6d7"), looks := true }, kinds := [], alts := [], laidByText := true, laidKinds := [.data, .handle, .pinned], laidTests := true, laidLooks := .later }
def RlpDeepUptoCardSaid : Prop := Claim7.holds Tryd.pinned (.plain (OpenSpec.upto rlpDeepSpec)) rlpDeepUptoCard

/-- THE SECOND FORM's CARD OF 'railheadlaw06.RlpCuts'. -/
def rlpCutsUptoCard : Claim7 := { stood := { row := rlpCutsUptoRow, standIns := [], harness := (true, "a941ac3e3f2b9ac113a7bb1806d98c3493e471037c7c7e838f3c1d3fe34fd6d7"), looks := true }, kinds := [], alts := [], laidByText := true, laidKinds := [.data, .handle, .pinned], laidTests := true, laidLooks := .later }
def RlpCutsUptoCardSaid : Prop := Claim7.holds Tryd.pinned (.plain (OpenSpec.upto rlpCutsSpec)) rlpCutsUptoCard
end Rows
end Go.Proofs.YtolmipnaheifcaaDoor
