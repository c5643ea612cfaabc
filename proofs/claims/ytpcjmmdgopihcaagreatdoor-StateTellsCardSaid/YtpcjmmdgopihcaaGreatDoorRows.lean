/-
  NARROWER THAN 'FOR EVERY INPUT', by the rows' own cells (each row's printed sentence says how): StateTells: laid · StateBack: laid · StateSets: laid · StateDigests: laid · StateSorts: laid · StateMost: laid.
  DERIVED. THE GIVEN ROWS OF THIS SEAT. 6 by the template 'for every input the law returns true; each argument reads behind the call as it read before'; 0 by the template 'total and deterministic' (their statements: YtpcjmmdgopihcaaGreatDoorTotals.lean).
  GIVEN WITH THE SEED: the statements are not yours to turn. If you find one false, say at which input.
  Laid BY PROGRAM, IN A SANDBOX (cutbox-rows.mjs): the forced cells as the released guide's own fill.sh prints them over the translation fd5ca6ab605b10d4… (all of the seat's roots in one cut). By AI agents, Wed Nov 11 2026. No macro, syntax, notation, axiom, sorry.
-/
import Derived.Test.YtpcjmmdgopihcaaGreatDoorChecked
import GoSem.PinnedTables
import GoSem.Claim
import GoSem.ClaimJoined
import GoSem.ClaimMapViews
import Derived.JoinedTies
import Derived.KernelRfl
namespace Go.Proofs.YtpcjmmdgopihcaaGreatDoor
/- THE CELL 'sum', in the pinned program and in every row, IS THE sha256 OF THE DUMP (.gsa) THAT YtpcjmmdgopihcaaGreatDoorProg.lean LOADS. Nothing in Lean hashes anything: it is a label: what it is worth is what the hold of that sum in a sandbox is worth. -/
noncomputable def Tryz.pinned : Pinned := { name := "ytpcjmmdgopihcaagreatdoor", sum := "fd5ca6ab605b10d46dcf23863cc78ebf5ca1fc3c838645916b380dfd5ad53af0", checked := Tryz.checked }
namespace Rows
def none {H : Type} : Left H := { results := [], args := [] }

/- WHAT THE LISTED PACKAGE-LEVEL VARIABLES READ AS WHEN THE CALL BEGINS. Each datum BY PROGRAM (the guide's laid-datum.mjs) off the statement by which the dump's own 'gosem.cut.vars' lays the variable. In a bare row this is a premise. The card (YtpcjmmdgopihcaaGreatDoorCards.lean) ties it to the program's text. -/
def laid_unicode_utf8_acceptRanges {H : Type} : DataW H := .agg [.agg [.lit (.int .u8 128), .lit (.int .u8 191)], .agg [.lit (.int .u8 160), .lit (.int .u8 191)], .agg [.lit (.int .u8 128), .lit (.int .u8 159)], .agg [.lit (.int .u8 144), .lit (.int .u8 191)], .agg [.lit (.int .u8 128), .lit (.int .u8 143)], .agg [.lit (.int .u8 0), .lit (.int .u8 0)], .agg [.lit (.int .u8 0), .lit (.int .u8 0)], .agg [.lit (.int .u8 0), .lit (.int .u8 0)], .agg [.lit (.int .u8 0), .lit (.int .u8 0)], .agg [.lit (.int .u8 0), .lit (.int .u8 0)], .agg [.lit (.int .u8 0), .lit (.int .u8 0)], .agg [.lit (.int .u8 0), .lit (.int .u8 0)], .agg [.lit (.int .u8 0), .lit (.int .u8 0)], .agg [.lit (.int .u8 0), .lit (.int .u8 0)], .agg [.lit (.int .u8 0), .lit (.int .u8 0)], .agg [.lit (.int .u8 0), .lit (.int .u8 0)]]
def laid_railhead_keccak_constants {H : Type} : DataW H := .agg [.lit (.int .u64 1), .lit (.int .u64 32898), .lit (.int .u64 9223372036854808714), .lit (.int .u64 9223372039002292224), .lit (.int .u64 32907), .lit (.int .u64 2147483649), .lit (.int .u64 9223372039002292353), .lit (.int .u64 9223372036854808585), .lit (.int .u64 138), .lit (.int .u64 136), .lit (.int .u64 2147516425), .lit (.int .u64 2147483658), .lit (.int .u64 2147516555), .lit (.int .u64 9223372036854775947), .lit (.int .u64 9223372036854808713), .lit (.int .u64 9223372036854808579), .lit (.int .u64 9223372036854808578), .lit (.int .u64 9223372036854775936), .lit (.int .u64 32778), .lit (.int .u64 9223372039002259466), .lit (.int .u64 9223372039002292353), .lit (.int .u64 9223372036854808704), .lit (.int .u64 2147483649), .lit (.int .u64 9223372039002292232)]
/-- One of Go's own tables, pinned by name: the form's constant. -/
def laid_unicode_utf8_first : DataW Unit := Go.Pinned.utf8First

/-- 'railheadlaw08.StateTells': WHATEVER THE INPUT: true; the input reads as it did. -/
def stateTellsSpec : ChangeSpec := { name := "stateTells", fn := fun _ => fun
  | [d1, d2, d3, d4, d5, d6] => { results := [.lit (.bool true)], args := [d1, d2, d3, d4, d5, d6] }
  | _ => none }
def stateTellsRow : OpenClaim := { program := "ytpcjmmdgopihcaagreatdoor", sum := "fd5ca6ab605b10d46dcf23863cc78ebf5ca1fc3c838645916b380dfd5ad53af0", func := "railhead/railheadlaw08.StateTells", spec := "stateTells", inPlace := ["internal/bytealg.Compare", "slices.overlaps[railhead/api.Account]", "internal/bytealg.IndexByteString", "internal/bytealg.IndexString", "internal/abi.NoEscape"], unfollowed := true, recurses := true, named := ["unicode/utf8.first", "unicode/utf8.acceptRanges", "railhead/keccak.constants", "internal/bytealg.MaxLen"], apart := false, laid := [("unicode/utf8.acceptRanges", laid_unicode_utf8_acceptRanges), ("railhead/keccak.constants", laid_railhead_keccak_constants), ("unicode/utf8.first", laid_unicode_utf8_first)] }
def StateTellsSaid : Prop := stateTellsRow.holds Tryz.pinned (OpenSpec.ofChange stateTellsSpec)

/-- ITS FALSE NEIGHBOUR: 'it returns false'. Refute it at one input. -/
def stateTellsWrong : ChangeSpec := { name := "stateTells", fn := fun _ => fun
  | [d1, d2, d3, d4, d5, d6] => { results := [.lit (.bool false)], args := [d1, d2, d3, d4, d5, d6] }
  | _ => none }
def StateTellsWrongFalsely : Prop := stateTellsRow.holds Tryz.pinned (OpenSpec.ofChange stateTellsWrong)

/-- 'railheadlaw08.StateBack': WHATEVER THE INPUT: true; the input reads as it did. -/
def stateBackSpec : ChangeSpec := { name := "stateBack", fn := fun _ => fun
  | [d1, d2] => { results := [.lit (.bool true)], args := [d1, d2] }
  | _ => none }
def stateBackRow : OpenClaim := { program := "ytpcjmmdgopihcaagreatdoor", sum := "fd5ca6ab605b10d46dcf23863cc78ebf5ca1fc3c838645916b380dfd5ad53af0", func := "railhead/railheadlaw08.StateBack", spec := "stateBack", inPlace := ["internal/bytealg.Compare", "slices.overlaps[railhead/api.Account]", "internal/bytealg.IndexByteString", "internal/bytealg.IndexString", "internal/abi.NoEscape"], unfollowed := true, recurses := true, named := ["unicode/utf8.first", "unicode/utf8.acceptRanges", "railhead/keccak.constants", "internal/bytealg.MaxLen"], apart := false, laid := [("unicode/utf8.acceptRanges", laid_unicode_utf8_acceptRanges), ("railhead/keccak.constants", laid_railhead_keccak_constants), ("unicode/utf8.first", laid_unicode_utf8_first)] }
def StateBackSaid : Prop := stateBackRow.holds Tryz.pinned (OpenSpec.ofChange stateBackSpec)

/-- ITS FALSE NEIGHBOUR: 'it returns false'. Refute it at one input. -/
def stateBackWrong : ChangeSpec := { name := "stateBack", fn := fun _ => fun
  | [d1, d2] => { results := [.lit (.bool false)], args := [d1, d2] }
  | _ => none }
def StateBackWrongFalsely : Prop := stateBackRow.holds Tryz.pinned (OpenSpec.ofChange stateBackWrong)

/-- 'railheadlaw08.StateSets': WHATEVER THE INPUT: true; the input reads as it did. -/
def stateSetsSpec : ChangeSpec := { name := "stateSets", fn := fun _ => fun
  | [d1, d2, d3] => { results := [.lit (.bool true)], args := [d1, d2, d3] }
  | _ => none }
def stateSetsRow : OpenClaim := { program := "ytpcjmmdgopihcaagreatdoor", sum := "fd5ca6ab605b10d46dcf23863cc78ebf5ca1fc3c838645916b380dfd5ad53af0", func := "railhead/railheadlaw08.StateSets", spec := "stateSets", inPlace := ["internal/bytealg.Compare", "slices.overlaps[railhead/api.Account]", "internal/bytealg.IndexByteString", "internal/bytealg.IndexString", "internal/abi.NoEscape"], unfollowed := true, recurses := true, named := ["unicode/utf8.first", "unicode/utf8.acceptRanges", "railhead/keccak.constants", "internal/bytealg.MaxLen"], apart := false, laid := [("unicode/utf8.acceptRanges", laid_unicode_utf8_acceptRanges), ("railhead/keccak.constants", laid_railhead_keccak_constants), ("unicode/utf8.first", laid_unicode_utf8_first)] }
def StateSetsSaid : Prop := stateSetsRow.holds Tryz.pinned (OpenSpec.ofChange stateSetsSpec)

/-- ITS FALSE NEIGHBOUR: 'it returns false'. Refute it at one input. -/
def stateSetsWrong : ChangeSpec := { name := "stateSets", fn := fun _ => fun
  | [d1, d2, d3] => { results := [.lit (.bool false)], args := [d1, d2, d3] }
  | _ => none }
def StateSetsWrongFalsely : Prop := stateSetsRow.holds Tryz.pinned (OpenSpec.ofChange stateSetsWrong)

/-- 'railheadlaw08.StateDigests': WHATEVER THE INPUT: true; the input reads as it did. -/
def stateDigestsSpec : ChangeSpec := { name := "stateDigests", fn := fun _ => fun
  | [d1, d2, d3] => { results := [.lit (.bool true)], args := [d1, d2, d3] }
  | _ => none }
def stateDigestsRow : OpenClaim := { program := "ytpcjmmdgopihcaagreatdoor", sum := "fd5ca6ab605b10d46dcf23863cc78ebf5ca1fc3c838645916b380dfd5ad53af0", func := "railhead/railheadlaw08.StateDigests", spec := "stateDigests", inPlace := ["internal/bytealg.Compare", "slices.overlaps[railhead/api.Account]", "internal/bytealg.IndexByteString", "internal/bytealg.IndexString", "internal/abi.NoEscape"], unfollowed := true, recurses := true, named := ["unicode/utf8.first", "unicode/utf8.acceptRanges", "railhead/keccak.constants", "internal/bytealg.MaxLen"], apart := false, laid := [("unicode/utf8.acceptRanges", laid_unicode_utf8_acceptRanges), ("railhead/keccak.constants", laid_railhead_keccak_constants), ("unicode/utf8.first", laid_unicode_utf8_first)] }
def StateDigestsSaid : Prop := stateDigestsRow.holds Tryz.pinned (OpenSpec.ofChange stateDigestsSpec)

/-- ITS FALSE NEIGHBOUR: 'it returns false'. Refute it at one input. -/
def stateDigestsWrong : ChangeSpec := { name := "stateDigests", fn := fun _ => fun
  | [d1, d2, d3] => { results := [.lit (.bool false)], args := [d1, d2, d3] }
  | _ => none }
def StateDigestsWrongFalsely : Prop := stateDigestsRow.holds Tryz.pinned (OpenSpec.ofChange stateDigestsWrong)

/-- 'railheadlaw08.StateSorts': WHATEVER THE INPUT: true; the input reads as it did. -/
def stateSortsSpec : ChangeSpec := { name := "stateSorts", fn := fun _ => fun
  | [d] => { results := [.lit (.bool true)], args := [d] }
  | _ => none }
def stateSortsRow : OpenClaim := { program := "ytpcjmmdgopihcaagreatdoor", sum := "fd5ca6ab605b10d46dcf23863cc78ebf5ca1fc3c838645916b380dfd5ad53af0", func := "railhead/railheadlaw08.StateSorts", spec := "stateSorts", inPlace := ["internal/bytealg.Compare", "slices.overlaps[railhead/api.Account]", "internal/bytealg.IndexByteString", "internal/bytealg.IndexString", "internal/abi.NoEscape"], unfollowed := true, recurses := true, named := ["unicode/utf8.first", "unicode/utf8.acceptRanges", "railhead/keccak.constants", "internal/bytealg.MaxLen"], apart := false, laid := [("unicode/utf8.acceptRanges", laid_unicode_utf8_acceptRanges), ("railhead/keccak.constants", laid_railhead_keccak_constants), ("unicode/utf8.first", laid_unicode_utf8_first)] }
def StateSortsSaid : Prop := stateSortsRow.holds Tryz.pinned (OpenSpec.ofChange stateSortsSpec)

/-- ITS FALSE NEIGHBOUR: 'it returns false'. Refute it at one input. -/
def stateSortsWrong : ChangeSpec := { name := "stateSorts", fn := fun _ => fun
  | [d] => { results := [.lit (.bool false)], args := [d] }
  | _ => none }
def StateSortsWrongFalsely : Prop := stateSortsRow.holds Tryz.pinned (OpenSpec.ofChange stateSortsWrong)

/-- 'railheadlaw08.StateMost': WHATEVER THE INPUT: true; the input reads as it did. -/
def stateMostSpec : ChangeSpec := { name := "stateMost", fn := fun _ => fun
  | [d1, d2, d3] => { results := [.lit (.bool true)], args := [d1, d2, d3] }
  | _ => none }
def stateMostRow : OpenClaim := { program := "ytpcjmmdgopihcaagreatdoor", sum := "fd5ca6ab605b10d46dcf23863cc78ebf5ca1fc3c838645916b380dfd5ad53af0", func := "railhead/railheadlaw08.StateMost", spec := "stateMost", inPlace := ["internal/bytealg.Compare", "slices.overlaps[railhead/api.Account]", "internal/bytealg.IndexByteString", "internal/bytealg.IndexString", "internal/abi.NoEscape"], unfollowed := true, recurses := true, named := ["unicode/utf8.first", "unicode/utf8.acceptRanges", "railhead/keccak.constants", "internal/bytealg.MaxLen"], apart := false, laid := [("unicode/utf8.acceptRanges", laid_unicode_utf8_acceptRanges), ("railhead/keccak.constants", laid_railhead_keccak_constants), ("unicode/utf8.first", laid_unicode_utf8_first)] }
def StateMostSaid : Prop := stateMostRow.holds Tryz.pinned (OpenSpec.ofChange stateMostSpec)

/-- ITS FALSE NEIGHBOUR: 'it returns false'. Refute it at one input. -/
def stateMostWrong : ChangeSpec := { name := "stateMost", fn := fun _ => fun
  | [d1, d2, d3] => { results := [.lit (.bool false)], args := [d1, d2, d3] }
  | _ => none }
def StateMostWrongFalsely : Prop := stateMostRow.holds Tryz.pinned (OpenSpec.ofChange stateMostWrong)

/- THE SECOND FORM. 'bulk': how many values and letters a reading holds, each counted each time it is reached (what is shared counts as often as it is met; a slice's spare places count too). A statement '..UptoSaid' is the law's where the arguments, and the package variables that the reading takes, are together of bulk at most 1048576: NARROWER than '..Said'. Prove '..Said' where nothing that the law and all that it calls make is longer than what came in: it says more and counts as full. Else prove '..UptoSaid'. A law counts once. -/
mutual
def uptoBulk {H : Type} : DataW H → Nat
  | .lit (.string bytes) => bytes.length + 1
  | .lit _ => 1
  | .nil => 1
  | .ptr d => uptoBulk d + 1
  | .slice elems spare => uptoBulkAll elems + uptoBulkAll spare + 1
  | .agg parts => uptoBulkAll parts + 1
  | .iface _ d => uptoBulk d + 1
  | .map entries => uptoBulkEntries entries + 1
  | .held _ => 1
def uptoBulkAll {H : Type} : List (DataW H) → Nat
  | [] => 0
  | d :: r => uptoBulk d + uptoBulkAll r
def uptoBulkEntries {H : Type} : List (Lit × DataW H) → Nat
  | [] => 0
  | x :: r => uptoBulkEntry x + uptoBulkEntries r
def uptoBulkEntry {H : Type} : Lit × DataW H → Nat
  | (.string bytes, d) => bytes.length + uptoBulk d + 1
  | (_, d) => uptoBulk d + 1
 end
def uptoSmall : (H : Type) → List (DataW H) → Bool := fun _ ds => decide (uptoBulkAll ds ≤ 1048576)
def OpenSpec.upto (s : _root_.Go.ChangeSpec) : _root_.Go.OpenSpec := { _root_.Go.OpenSpec.ofChange s with cond := some uptoSmall }

/-- 'railheadlaw08.StateTells', WHERE WHAT IT READS IS OF BULK AT MOST 1048576: true; the input reads as it did. -/
def stateTellsUptoRow : OpenClaim := { program := "ytpcjmmdgopihcaagreatdoor", sum := "fd5ca6ab605b10d46dcf23863cc78ebf5ca1fc3c838645916b380dfd5ad53af0", func := "railhead/railheadlaw08.StateTells", spec := "stateTells", inPlace := ["internal/bytealg.Compare", "slices.overlaps[railhead/api.Account]", "internal/bytealg.IndexByteString", "internal/bytealg.IndexString", "internal/abi.NoEscape"], unfollowed := true, recurses := true, named := ["unicode/utf8.first", "unicode/utf8.acceptRanges", "railhead/keccak.constants", "internal/bytealg.MaxLen"], apart := false, laid := [("unicode/utf8.acceptRanges", laid_unicode_utf8_acceptRanges), ("railhead/keccak.constants", laid_railhead_keccak_constants), ("unicode/utf8.first", laid_unicode_utf8_first)], narrowed := true }
def StateTellsUptoSaid : Prop := stateTellsUptoRow.holds Tryz.pinned (OpenSpec.upto stateTellsSpec)

/-- 'railheadlaw08.StateBack', WHERE WHAT IT READS IS OF BULK AT MOST 1048576: true; the input reads as it did. -/
def stateBackUptoRow : OpenClaim := { program := "ytpcjmmdgopihcaagreatdoor", sum := "fd5ca6ab605b10d46dcf23863cc78ebf5ca1fc3c838645916b380dfd5ad53af0", func := "railhead/railheadlaw08.StateBack", spec := "stateBack", inPlace := ["internal/bytealg.Compare", "slices.overlaps[railhead/api.Account]", "internal/bytealg.IndexByteString", "internal/bytealg.IndexString", "internal/abi.NoEscape"], unfollowed := true, recurses := true, named := ["unicode/utf8.first", "unicode/utf8.acceptRanges", "railhead/keccak.constants", "internal/bytealg.MaxLen"], apart := false, laid := [("unicode/utf8.acceptRanges", laid_unicode_utf8_acceptRanges), ("railhead/keccak.constants", laid_railhead_keccak_constants), ("unicode/utf8.first", laid_unicode_utf8_first)], narrowed := true }
def StateBackUptoSaid : Prop := stateBackUptoRow.holds Tryz.pinned (OpenSpec.upto stateBackSpec)

/-- 'railheadlaw08.StateSets', WHERE WHAT IT READS IS OF BULK AT MOST 1048576: true; the input reads as it did. -/
def stateSetsUptoRow : OpenClaim := { program := "ytpcjmmdgopihcaagreatdoor", sum := "fd5ca6ab605b10d46dcf23863cc78ebf5ca1fc3c838645916b380dfd5ad53af0", func := "railhead/railheadlaw08.StateSets", spec := "stateSets", inPlace := ["internal/bytealg.Compare", "slices.overlaps[railhead/api.Account]", "internal/bytealg.IndexByteString", "internal/bytealg.IndexString", "internal/abi.NoEscape"], unfollowed := true, recurses := true, named := ["unicode/utf8.first", "unicode/utf8.acceptRanges", "railhead/keccak.constants", "internal/bytealg.MaxLen"], apart := false, laid := [("unicode/utf8.acceptRanges", laid_unicode_utf8_acceptRanges), ("railhead/keccak.constants", laid_railhead_keccak_constants), ("unicode/utf8.first", laid_unicode_utf8_first)], narrowed := true }
def StateSetsUptoSaid : Prop := stateSetsUptoRow.holds Tryz.pinned (OpenSpec.upto stateSetsSpec)

/-- 'railheadlaw08.StateDigests', WHERE WHAT IT READS IS OF BULK AT MOST 1048576: true; the input reads as it did. -/
def stateDigestsUptoRow : OpenClaim := { program := "ytpcjmmdgopihcaagreatdoor", sum := "fd5ca6ab605b10d46dcf23863cc78ebf5ca1fc3c838645916b380dfd5ad53af0", func := "railhead/railheadlaw08.StateDigests", spec := "stateDigests", inPlace := ["internal/bytealg.Compare", "slices.overlaps[railhead/api.Account]", "internal/bytealg.IndexByteString", "internal/bytealg.IndexString", "internal/abi.NoEscape"], unfollowed := true, recurses := true, named := ["unicode/utf8.first", "unicode/utf8.acceptRanges", "railhead/keccak.constants", "internal/bytealg.MaxLen"], apart := false, laid := [("unicode/utf8.acceptRanges", laid_unicode_utf8_acceptRanges), ("railhead/keccak.constants", laid_railhead_keccak_constants), ("unicode/utf8.first", laid_unicode_utf8_first)], narrowed := true }
def StateDigestsUptoSaid : Prop := stateDigestsUptoRow.holds Tryz.pinned (OpenSpec.upto stateDigestsSpec)

/-- 'railheadlaw08.StateSorts', WHERE WHAT IT READS IS OF BULK AT MOST 1048576: true; the input reads as it did. -/
def stateSortsUptoRow : OpenClaim := { program := "ytpcjmmdgopihcaagreatdoor", sum := "fd5ca6ab605b10d46dcf23863cc78ebf5ca1fc3c838645916b380dfd5ad53af0", func := "railhead/railheadlaw08.StateSorts", spec := "stateSorts", inPlace := ["internal/bytealg.Compare", "slices.overlaps[railhead/api.Account]", "internal/bytealg.IndexByteString", "internal/bytealg.IndexString", "internal/abi.NoEscape"], unfollowed := true, recurses := true, named := ["unicode/utf8.first", "unicode/utf8.acceptRanges", "railhead/keccak.constants", "internal/bytealg.MaxLen"], apart := false, laid := [("unicode/utf8.acceptRanges", laid_unicode_utf8_acceptRanges), ("railhead/keccak.constants", laid_railhead_keccak_constants), ("unicode/utf8.first", laid_unicode_utf8_first)], narrowed := true }
def StateSortsUptoSaid : Prop := stateSortsUptoRow.holds Tryz.pinned (OpenSpec.upto stateSortsSpec)

/-- 'railheadlaw08.StateMost', WHERE WHAT IT READS IS OF BULK AT MOST 1048576: true; the input reads as it did. -/
def stateMostUptoRow : OpenClaim := { program := "ytpcjmmdgopihcaagreatdoor", sum := "fd5ca6ab605b10d46dcf23863cc78ebf5ca1fc3c838645916b380dfd5ad53af0", func := "railhead/railheadlaw08.StateMost", spec := "stateMost", inPlace := ["internal/bytealg.Compare", "slices.overlaps[railhead/api.Account]", "internal/bytealg.IndexByteString", "internal/bytealg.IndexString", "internal/abi.NoEscape"], unfollowed := true, recurses := true, named := ["unicode/utf8.first", "unicode/utf8.acceptRanges", "railhead/keccak.constants", "internal/bytealg.MaxLen"], apart := false, laid := [("unicode/utf8.acceptRanges", laid_unicode_utf8_acceptRanges), ("railhead/keccak.constants", laid_railhead_keccak_constants), ("unicode/utf8.first", laid_unicode_utf8_first)], narrowed := true }
def StateMostUptoSaid : Prop := stateMostUptoRow.holds Tryz.pinned (OpenSpec.upto stateMostSpec)

end Rows
end Go.Proofs.YtpcjmmdgopihcaaGreatDoor
