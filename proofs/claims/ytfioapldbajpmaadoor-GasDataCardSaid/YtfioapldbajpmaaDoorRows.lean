/-
  NARROWER THAN 'FOR EVERY INPUT', by the rows' own cells (each row's printed sentence says how): GasTells: laid · GasStores: laid · GasCalls: laid · GasData: laid · GasRises: laid · GasWrites: laid.
  DERIVED. THE GIVEN ROWS OF THIS SEAT. 6 by the template 'for every input the law returns true; each argument reads behind the call as it read before'; 0 by the template 'total and deterministic' (their statements: YtfioapldbajpmaaDoorTotals.lean).
  GIVEN WITH THE SEED: the statements are not yours to turn. If you find one false, say at which input.
  Laid BY PROGRAM, IN A SANDBOX (cutbox-rows.mjs): the forced cells as the released guide's own fill.sh prints them over the translation 792c6872d3b8f1f3… (all of the seat's roots in one cut). By AI agents, Wed Nov 11 2026. No macro, syntax, notation, axiom, sorry.
-/
import Derived.Test.YtfioapldbajpmaaDoorChecked
import GoSem.PinnedTables
import GoSem.Claim
import GoSem.ClaimJoined
import GoSem.ClaimMapViews
import Derived.JoinedTies
import Derived.KernelRfl
namespace Go.Proofs.YtfioapldbajpmaaDoor
/- THE CELL 'sum', in the pinned program and in every row, IS THE sha256 OF THE DUMP (.gsa) THAT YtfioapldbajpmaaDoorProg.lean LOADS. Nothing in Lean hashes anything: it is a label: what it is worth is what the hold of that sum in a sandbox is worth. -/
noncomputable def Tryd.pinned : Pinned := { name := "ytfioapldbajpmaadoor", sum := "792c6872d3b8f1f3fbd24128640e1ec0cb514172ee87ed33d0bb057df26acf40", checked := Tryd.checked }
namespace Rows
def none {H : Type} : Left H := { results := [], args := [] }

/- WHAT THE LISTED PACKAGE-LEVEL VARIABLES READ AS WHEN THE CALL BEGINS. Each datum BY PROGRAM (the guide's laid-datum.mjs) off the statement by which the dump's own 'gosem.cut.vars' lays the variable. In a bare row this is a premise. The card (YtfioapldbajpmaaDoorCards.lean) ties it to the program's text. -/
def laid_unicode_utf8_acceptRanges {H : Type} : DataW H := .agg [.agg [.lit (.int .u8 128), .lit (.int .u8 191)], .agg [.lit (.int .u8 160), .lit (.int .u8 191)], .agg [.lit (.int .u8 128), .lit (.int .u8 159)], .agg [.lit (.int .u8 144), .lit (.int .u8 191)], .agg [.lit (.int .u8 128), .lit (.int .u8 143)], .agg [.lit (.int .u8 0), .lit (.int .u8 0)], .agg [.lit (.int .u8 0), .lit (.int .u8 0)], .agg [.lit (.int .u8 0), .lit (.int .u8 0)], .agg [.lit (.int .u8 0), .lit (.int .u8 0)], .agg [.lit (.int .u8 0), .lit (.int .u8 0)], .agg [.lit (.int .u8 0), .lit (.int .u8 0)], .agg [.lit (.int .u8 0), .lit (.int .u8 0)], .agg [.lit (.int .u8 0), .lit (.int .u8 0)], .agg [.lit (.int .u8 0), .lit (.int .u8 0)], .agg [.lit (.int .u8 0), .lit (.int .u8 0)], .agg [.lit (.int .u8 0), .lit (.int .u8 0)]]
/-- One of Go's own tables, pinned by name: the form's constant. -/
def laid_unicode_utf8_first : DataW Unit := Go.Pinned.utf8First

/-- 'railheadlaw15.GasTells': WHATEVER THE INPUT: true; the input reads as it did. -/
def gasTellsSpec : ChangeSpec := { name := "gasTells", fn := fun _ => fun
  | [d1, d2, d3, d4, d5, d6, d7, d8, d9] => { results := [.lit (.bool true)], args := [d1, d2, d3, d4, d5, d6, d7, d8, d9] }
  | _ => none }
def gasTellsRow : OpenClaim := { program := "ytfioapldbajpmaadoor", sum := "792c6872d3b8f1f3fbd24128640e1ec0cb514172ee87ed33d0bb057df26acf40", func := "railhead/railheadlaw15.GasTells", spec := "gasTells", inPlace := ["internal/bytealg.IndexByteString", "internal/bytealg.IndexString"], unfollowed := true, recurses := true, named := ["unicode/utf8.first", "unicode/utf8.acceptRanges", "internal/bytealg.MaxLen"], plainKeys := false, apart := false, laid := [("unicode/utf8.acceptRanges", laid_unicode_utf8_acceptRanges), ("unicode/utf8.first", laid_unicode_utf8_first)] }
def GasTellsSaid : Prop := gasTellsRow.holds Tryd.pinned (OpenSpec.ofChange gasTellsSpec)

/-- ITS FALSE NEIGHBOUR: 'it returns false'. Refute it at one input. -/
def gasTellsWrong : ChangeSpec := { name := "gasTells", fn := fun _ => fun
  | [d1, d2, d3, d4, d5, d6, d7, d8, d9] => { results := [.lit (.bool false)], args := [d1, d2, d3, d4, d5, d6, d7, d8, d9] }
  | _ => none }
def GasTellsWrongFalsely : Prop := gasTellsRow.holds Tryd.pinned (OpenSpec.ofChange gasTellsWrong)

/-- 'railheadlaw15.GasStores': WHATEVER THE INPUT: true; the input reads as it did. -/
def gasStoresSpec : ChangeSpec := { name := "gasStores", fn := fun _ => fun
  | [d1, d2, d3] => { results := [.lit (.bool true)], args := [d1, d2, d3] }
  | _ => none }
def gasStoresRow : OpenClaim := { program := "ytfioapldbajpmaadoor", sum := "792c6872d3b8f1f3fbd24128640e1ec0cb514172ee87ed33d0bb057df26acf40", func := "railhead/railheadlaw15.GasStores", spec := "gasStores", inPlace := ["internal/bytealg.IndexByteString", "internal/bytealg.IndexString"], unfollowed := true, recurses := true, named := ["unicode/utf8.first", "unicode/utf8.acceptRanges", "internal/bytealg.MaxLen"], plainKeys := false, apart := false, laid := [("unicode/utf8.acceptRanges", laid_unicode_utf8_acceptRanges), ("unicode/utf8.first", laid_unicode_utf8_first)] }
def GasStoresSaid : Prop := gasStoresRow.holds Tryd.pinned (OpenSpec.ofChange gasStoresSpec)

/-- ITS FALSE NEIGHBOUR: 'it returns false'. Refute it at one input. -/
def gasStoresWrong : ChangeSpec := { name := "gasStores", fn := fun _ => fun
  | [d1, d2, d3] => { results := [.lit (.bool false)], args := [d1, d2, d3] }
  | _ => none }
def GasStoresWrongFalsely : Prop := gasStoresRow.holds Tryd.pinned (OpenSpec.ofChange gasStoresWrong)

/-- 'railheadlaw15.GasCalls': WHATEVER THE INPUT: true; the input reads as it did. -/
def gasCallsSpec : ChangeSpec := { name := "gasCalls", fn := fun _ => fun
  | [d1, d2, d3, d4] => { results := [.lit (.bool true)], args := [d1, d2, d3, d4] }
  | _ => none }
def gasCallsRow : OpenClaim := { program := "ytfioapldbajpmaadoor", sum := "792c6872d3b8f1f3fbd24128640e1ec0cb514172ee87ed33d0bb057df26acf40", func := "railhead/railheadlaw15.GasCalls", spec := "gasCalls", inPlace := ["internal/bytealg.IndexByteString", "internal/bytealg.IndexString"], unfollowed := true, recurses := true, named := ["unicode/utf8.first", "unicode/utf8.acceptRanges", "internal/bytealg.MaxLen"], plainKeys := false, apart := false, laid := [("unicode/utf8.acceptRanges", laid_unicode_utf8_acceptRanges), ("unicode/utf8.first", laid_unicode_utf8_first)] }
def GasCallsSaid : Prop := gasCallsRow.holds Tryd.pinned (OpenSpec.ofChange gasCallsSpec)

/-- ITS FALSE NEIGHBOUR: 'it returns false'. Refute it at one input. -/
def gasCallsWrong : ChangeSpec := { name := "gasCalls", fn := fun _ => fun
  | [d1, d2, d3, d4] => { results := [.lit (.bool false)], args := [d1, d2, d3, d4] }
  | _ => none }
def GasCallsWrongFalsely : Prop := gasCallsRow.holds Tryd.pinned (OpenSpec.ofChange gasCallsWrong)

/-- 'railheadlaw15.GasData': WHATEVER THE INPUT: true; the input reads as it did. -/
def gasDataSpec : ChangeSpec := { name := "gasData", fn := fun _ => fun
  | [d1, d2, d3] => { results := [.lit (.bool true)], args := [d1, d2, d3] }
  | _ => none }
def gasDataRow : OpenClaim := { program := "ytfioapldbajpmaadoor", sum := "792c6872d3b8f1f3fbd24128640e1ec0cb514172ee87ed33d0bb057df26acf40", func := "railhead/railheadlaw15.GasData", spec := "gasData", inPlace := ["internal/bytealg.IndexByteString", "internal/bytealg.IndexString"], unfollowed := true, recurses := true, named := ["unicode/utf8.first", "unicode/utf8.acceptRanges", "internal/bytealg.MaxLen"], plainKeys := false, apart := false, laid := [("unicode/utf8.acceptRanges", laid_unicode_utf8_acceptRanges), ("unicode/utf8.first", laid_unicode_utf8_first)] }
def GasDataSaid : Prop := gasDataRow.holds Tryd.pinned (OpenSpec.ofChange gasDataSpec)

/-- ITS FALSE NEIGHBOUR: 'it returns false'. Refute it at one input. -/
def gasDataWrong : ChangeSpec := { name := "gasData", fn := fun _ => fun
  | [d1, d2, d3] => { results := [.lit (.bool false)], args := [d1, d2, d3] }
  | _ => none }
def GasDataWrongFalsely : Prop := gasDataRow.holds Tryd.pinned (OpenSpec.ofChange gasDataWrong)

/-- 'railheadlaw15.GasRises': WHATEVER THE INPUT: true; the input reads as it did. -/
def gasRisesSpec : ChangeSpec := { name := "gasRises", fn := fun _ => fun
  | [d1, d2, d3, d4] => { results := [.lit (.bool true)], args := [d1, d2, d3, d4] }
  | _ => none }
def gasRisesRow : OpenClaim := { program := "ytfioapldbajpmaadoor", sum := "792c6872d3b8f1f3fbd24128640e1ec0cb514172ee87ed33d0bb057df26acf40", func := "railhead/railheadlaw15.GasRises", spec := "gasRises", inPlace := ["internal/bytealg.IndexByteString", "internal/bytealg.IndexString"], unfollowed := true, recurses := true, named := ["unicode/utf8.first", "unicode/utf8.acceptRanges", "internal/bytealg.MaxLen"], plainKeys := false, apart := false, laid := [("unicode/utf8.acceptRanges", laid_unicode_utf8_acceptRanges), ("unicode/utf8.first", laid_unicode_utf8_first)] }
def GasRisesSaid : Prop := gasRisesRow.holds Tryd.pinned (OpenSpec.ofChange gasRisesSpec)

/-- ITS FALSE NEIGHBOUR: 'it returns false'. Refute it at one input. -/
def gasRisesWrong : ChangeSpec := { name := "gasRises", fn := fun _ => fun
  | [d1, d2, d3, d4] => { results := [.lit (.bool false)], args := [d1, d2, d3, d4] }
  | _ => none }
def GasRisesWrongFalsely : Prop := gasRisesRow.holds Tryd.pinned (OpenSpec.ofChange gasRisesWrong)

/-- 'railheadlaw15.GasWrites': WHATEVER THE INPUT: true; the input reads as it did. -/
def gasWritesSpec : ChangeSpec := { name := "gasWrites", fn := fun _ => fun
  | [d1, d2, d3, d4] => { results := [.lit (.bool true)], args := [d1, d2, d3, d4] }
  | _ => none }
def gasWritesRow : OpenClaim := { program := "ytfioapldbajpmaadoor", sum := "792c6872d3b8f1f3fbd24128640e1ec0cb514172ee87ed33d0bb057df26acf40", func := "railhead/railheadlaw15.GasWrites", spec := "gasWrites", inPlace := ["internal/bytealg.IndexByteString", "internal/bytealg.IndexString"], unfollowed := true, recurses := true, named := ["unicode/utf8.first", "unicode/utf8.acceptRanges", "internal/bytealg.MaxLen"], plainKeys := false, apart := false, laid := [("unicode/utf8.acceptRanges", laid_unicode_utf8_acceptRanges), ("unicode/utf8.first", laid_unicode_utf8_first)] }
def GasWritesSaid : Prop := gasWritesRow.holds Tryd.pinned (OpenSpec.ofChange gasWritesSpec)

/-- ITS FALSE NEIGHBOUR: 'it returns false'. Refute it at one input. -/
def gasWritesWrong : ChangeSpec := { name := "gasWrites", fn := fun _ => fun
  | [d1, d2, d3, d4] => { results := [.lit (.bool false)], args := [d1, d2, d3, d4] }
  | _ => none }
def GasWritesWrongFalsely : Prop := gasWritesRow.holds Tryd.pinned (OpenSpec.ofChange gasWritesWrong)

/- THE SECOND FORM. 'bulk': how many values and letters a reading holds, each counted each time it is reached (what is shared counts as often as it is met; a slice's spare places count too). A statement '..UptoSaid' is the law's where the arguments, and the package variables that the reading takes, are together of bulk at most 1048576: NARROWER than '..Said'. Prove '..Said' where nothing that the law and all that it calls make is longer than what came in: it says more and counts as full. Else prove '..UptoSaid'. A law counts once. -/
mutual
def uptoBulk {H : Type} : DataW H → Nat
  | .lit (.string bytes) => bytes.length + 1
  | .lit _ => 1
  | .nil => 1
  | .ptr d => uptoBulk d + 1
  | .slice elems spare => uptoBulkAll elems + uptoBulkAll spare + 1
  | .agg parts => uptoBulkAll parts + 1
  | .iface _ d => uptoBulk d + 1
  | .map entries => uptoBulkEntries entries + 1
  | .held _ => 1
def uptoBulkAll {H : Type} : List (DataW H) → Nat
  | [] => 0
  | d :: r => uptoBulk d + uptoBulkAll r
def uptoBulkEntries {H : Type} : List (Lit × DataW H) → Nat
  | [] => 0
  | x :: r => uptoBulkEntry x + uptoBulkEntries r
def uptoBulkEntry {H : Type} : Lit × DataW H → Nat
  | (.string bytes, d) => bytes.length + uptoBulk d + 1
  | (_, d) => uptoBulk d + 1
 end
def uptoSmall : (H : Type) → List (DataW H) → Bool := fun _ ds => decide (uptoBulkAll ds ≤ 1048576)
def OpenSpec.upto (s : _root_.Go.ChangeSpec) : _root_.Go.OpenSpec := { _root_.Go.OpenSpec.ofChange s with cond := some uptoSmall }

/-- 'railheadlaw15.GasTells', WHERE WHAT IT READS IS OF BULK AT MOST 1048576: true; the input reads as it did. -/
def gasTellsUptoRow : OpenClaim := { program := "ytfioapldbajpmaadoor", sum := "792c6872d3b8f1f3fbd24128640e1ec0cb514172ee87ed33d0bb057df26acf40", func := "railhead/railheadlaw15.GasTells", spec := "gasTells", inPlace := ["internal/bytealg.IndexByteString", "internal/bytealg.IndexString"], unfollowed := true, recurses := true, named := ["unicode/utf8.first", "unicode/utf8.acceptRanges", "internal/bytealg.MaxLen"], plainKeys := false, apart := false, laid := [("unicode/utf8.acceptRanges", laid_unicode_utf8_acceptRanges), ("unicode/utf8.first", laid_unicode_utf8_first)], narrowed := true }
def GasTellsUptoSaid : Prop := gasTellsUptoRow.holds Tryd.pinned (OpenSpec.upto gasTellsSpec)

/-- 'railheadlaw15.GasStores', WHERE WHAT IT READS IS OF BULK AT MOST 1048576: true; the input reads as it did. -/
def gasStoresUptoRow : OpenClaim := { program := "ytfioapldbajpmaadoor", sum := "792c6872d3b8f1f3fbd24128640e1ec0cb514172ee87ed33d0bb057df26acf40", func := "railhead/railheadlaw15.GasStores", spec := "gasStores", inPlace := ["internal/bytealg.IndexByteString", "internal/bytealg.IndexString"], unfollowed := true, recurses := true, named := ["unicode/utf8.first", "unicode/utf8.acceptRanges", "internal/bytealg.MaxLen"], plainKeys := false, apart := false, laid := [("unicode/utf8.acceptRanges", laid_unicode_utf8_acceptRanges), ("unicode/utf8.first", laid_unicode_utf8_first)], narrowed := true }
def GasStoresUptoSaid : Prop := gasStoresUptoRow.holds Tryd.pinned (OpenSpec.upto gasStoresSpec)

/-- 'railheadlaw15.GasCalls', WHERE WHAT IT READS IS OF BULK AT MOST 1048576: true; the input reads as it did. -/
def gasCallsUptoRow : OpenClaim := { program := "ytfioapldbajpmaadoor", sum := "792c6872d3b8f1f3fbd24128640e1ec0cb514172ee87ed33d0bb057df26acf40", func := "railhead/railheadlaw15.GasCalls", spec := "gasCalls", inPlace := ["internal/bytealg.IndexByteString", "internal/bytealg.IndexString"], unfollowed := true, recurses := true, named := ["unicode/utf8.first", "unicode/utf8.acceptRanges", "internal/bytealg.MaxLen"], plainKeys := false, apart := false, laid := [("unicode/utf8.acceptRanges", laid_unicode_utf8_acceptRanges), ("unicode/utf8.first", laid_unicode_utf8_first)], narrowed := true }
def GasCallsUptoSaid : Prop := gasCallsUptoRow.holds Tryd.pinned (OpenSpec.upto gasCallsSpec)

/-- 'railheadlaw15.GasData', WHERE WHAT IT READS IS OF BULK AT MOST 1048576: true; the input reads as it did. -/
def gasDataUptoRow : OpenClaim := { program := "ytfioapldbajpmaadoor", sum := "792c6872d3b8f1f3fbd24128640e1ec0cb514172ee87ed33d0bb057df26acf40", func := "railhead/railheadlaw15.GasData", spec := "gasData", inPlace := ["internal/bytealg.IndexByteString", "internal/bytealg.IndexString"], unfollowed := true, recurses := true, named := ["unicode/utf8.first", "unicode/utf8.acceptRanges", "internal/bytealg.MaxLen"], plainKeys := false, apart := false, laid := [("unicode/utf8.acceptRanges", laid_unicode_utf8_acceptRanges), ("unicode/utf8.first", laid_unicode_utf8_first)], narrowed := true }
def GasDataUptoSaid : Prop := gasDataUptoRow.holds Tryd.pinned (OpenSpec.upto gasDataSpec)

/-- 'railheadlaw15.GasRises', WHERE WHAT IT READS IS OF BULK AT MOST 1048576: true; the input reads as it did. -/
def gasRisesUptoRow : OpenClaim := { program := "ytfioapldbajpmaadoor", sum := "792c6872d3b8f1f3fbd24128640e1ec0cb514172ee87ed33d0bb057df26acf40", func := "railhead/railheadlaw15.GasRises", spec := "gasRises", inPlace := ["internal/bytealg.IndexByteString", "internal/bytealg.IndexString"], unfollowed := true, recurses := true, named := ["unicode/utf8.first", "unicode/utf8.acceptRanges", "internal/bytealg.MaxLen"], plainKeys := false, apart := false, laid := [("unicode/utf8.acceptRanges", laid_unicode_utf8_acceptRanges), ("unicode/utf8.first", laid_unicode_utf8_first)], narrowed := true }
def GasRisesUptoSaid : Prop := gasRisesUptoRow.holds Tryd.pinned (OpenSpec.upto gasRisesSpec)

/-- 'railheadlaw15.GasWrites', WHERE WHAT IT READS IS OF BULK AT MOST 1048576: true; the input reads as it did. -/
def gasWritesUptoRow : OpenClaim := { program := "ytfioapldbajpmaadoor", sum := "792c6872d3b8f1f3fbd24128640e1ec0cb514172ee87ed33d0bb057df26acf40", func := "railhead/railheadlaw15.GasWrites", spec := "gasWrites", inPlace := ["internal/bytealg.IndexByteString", "internal/bytealg.IndexString"], unfollowed := true, recurses := true, named := ["unicode/utf8.first", "unicode/utf8.acceptRanges", "internal/bytealg.MaxLen"], plainKeys := false, apart := false, laid := [("unicode/utf8.acceptRanges", laid_unicode_utf8_acceptRanges), ("unicode/utf8.first", laid_unicode_utf8_first)], narrowed := true }
def GasWritesUptoSaid : Prop := gasWritesUptoRow.holds Tryd.pinned (OpenSpec.upto gasWritesSpec)

end Rows
end Go.Proofs.YtfioapldbajpmaaDoor
