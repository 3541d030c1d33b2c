/-
  No cell of these rows narrows 'for every input' (looked for: loops, veiled, ifaces, maps, wideKeys, modest, calm, conditions, laid).
  DERIVED. THE GIVEN ROWS OF THIS SEAT. 9 by the template 'for every input the law returns true; each argument reads behind the call as it read before'; 0 by the template 'total and deterministic' (their statements: YtclingkhdmhhoaaTotals.lean).
  GIVEN WITH THE SEED: the statements are not yours to turn. If you find one false, say at which input.
  Laid BY PROGRAM, IN A SANDBOX (cutbox-rows.mjs): the forced cells as the released guide's own fill.sh prints them over the translation 69e23d75918f00a0… (all of the seat's roots in one cut). By AI agents, Wed Nov 11 2026. No macro, syntax, notation, axiom, sorry.
-/
import Derived.Test.YtclingkhdmhhoaaChecked
import GoSem.Claim
import GoSem.ClaimJoined
import GoSem.ClaimMapViews
import Derived.JoinedTies
import Derived.KernelRfl
namespace Go.Proofs.Ytclingkhdmhhoaa
/- THE CELL 'sum', in the pinned program and in every row, IS THE sha256 OF THE DUMP (.gsa) THAT YtclingkhdmhhoaaProg.lean LOADS. Nothing in Lean hashes anything: it is a label: what it is worth is what the hold of that sum in a sandbox is worth. -/
noncomputable def Try.pinned : Pinned := { name := "ytclingkhdmhhoaa", sum := "69e23d75918f00a0189b7e3171a47317d108f04107a1be38f98b73b02986c409", checked := Try.checked }
namespace Rows
def none {H : Type} : Left H := { results := [], args := [] }

/-- 'steelyardlaw05.DiskFlushed': WHATEVER THE INPUT: true; the input reads as it did. -/
def diskFlushedSpec : ChangeSpec := { name := "diskFlushed", fn := fun _ => fun
  | [d1, d2, d3, d4, d5] => { results := [.lit (.bool true)], args := [d1, d2, d3, d4, d5] }
  | _ => none }
def diskFlushedRow : OpenClaim := { program := "ytclingkhdmhhoaa", sum := "69e23d75918f00a0189b7e3171a47317d108f04107a1be38f98b73b02986c409", func := "steelyard/steelyardlaw05.DiskFlushed", spec := "diskFlushed", unfollowed := true, recurses := true, apart := false }
def DiskFlushedSaid : Prop := diskFlushedRow.holds Try.pinned (OpenSpec.ofChange diskFlushedSpec)

/-- ITS FALSE NEIGHBOUR: 'it returns false'. Refute it at one input. -/
def diskFlushedWrong : ChangeSpec := { name := "diskFlushed", fn := fun _ => fun
  | [d1, d2, d3, d4, d5] => { results := [.lit (.bool false)], args := [d1, d2, d3, d4, d5] }
  | _ => none }
def DiskFlushedWrongFalsely : Prop := diskFlushedRow.holds Try.pinned (OpenSpec.ofChange diskFlushedWrong)

/-- 'steelyardlaw05.DiskStops': WHATEVER THE INPUT: true; the input reads as it did. -/
def diskStopsSpec : ChangeSpec := { name := "diskStops", fn := fun _ => fun
  | [d1, d2] => { results := [.lit (.bool true)], args := [d1, d2] }
  | _ => none }
def diskStopsRow : OpenClaim := { program := "ytclingkhdmhhoaa", sum := "69e23d75918f00a0189b7e3171a47317d108f04107a1be38f98b73b02986c409", func := "steelyard/steelyardlaw05.DiskStops", spec := "diskStops", unfollowed := true, recurses := true, apart := false }
def DiskStopsSaid : Prop := diskStopsRow.holds Try.pinned (OpenSpec.ofChange diskStopsSpec)

/-- ITS FALSE NEIGHBOUR: 'it returns false'. Refute it at one input. -/
def diskStopsWrong : ChangeSpec := { name := "diskStops", fn := fun _ => fun
  | [d1, d2] => { results := [.lit (.bool false)], args := [d1, d2] }
  | _ => none }
def DiskStopsWrongFalsely : Prop := diskStopsRow.holds Try.pinned (OpenSpec.ofChange diskStopsWrong)

/-- 'steelyardlaw07.LexReads': WHATEVER THE INPUT: true; the input reads as it did. -/
def lexReadsSpec : ChangeSpec := { name := "lexReads", fn := fun _ => fun
  | [d] => { results := [.lit (.bool true)], args := [d] }
  | _ => none }
def lexReadsRow : OpenClaim := { program := "ytclingkhdmhhoaa", sum := "69e23d75918f00a0189b7e3171a47317d108f04107a1be38f98b73b02986c409", func := "steelyard/steelyardlaw07.LexReads", spec := "lexReads", inPlace := ["internal/bytealg.IndexByteString", "internal/abi.NoEscape", "internal/bytealg.MakeNoZero"], unfollowed := true, recurses := true, apart := false }
def LexReadsSaid : Prop := lexReadsRow.holds Try.pinned (OpenSpec.ofChange lexReadsSpec)

/-- ITS FALSE NEIGHBOUR: 'it returns false'. Refute it at one input. -/
def lexReadsWrong : ChangeSpec := { name := "lexReads", fn := fun _ => fun
  | [d] => { results := [.lit (.bool false)], args := [d] }
  | _ => none }
def LexReadsWrongFalsely : Prop := lexReadsRow.holds Try.pinned (OpenSpec.ofChange lexReadsWrong)

/-- 'steelyardlaw07.LexJoins': WHATEVER THE INPUT: true; the input reads as it did. -/
def lexJoinsSpec : ChangeSpec := { name := "lexJoins", fn := fun _ => fun
  | [d1, d2, d3] => { results := [.lit (.bool true)], args := [d1, d2, d3] }
  | _ => none }
def lexJoinsRow : OpenClaim := { program := "ytclingkhdmhhoaa", sum := "69e23d75918f00a0189b7e3171a47317d108f04107a1be38f98b73b02986c409", func := "steelyard/steelyardlaw07.LexJoins", spec := "lexJoins", inPlace := ["internal/bytealg.IndexByteString", "internal/abi.NoEscape", "internal/bytealg.MakeNoZero"], unfollowed := true, recurses := true, apart := false }
def LexJoinsSaid : Prop := lexJoinsRow.holds Try.pinned (OpenSpec.ofChange lexJoinsSpec)

/-- ITS FALSE NEIGHBOUR: 'it returns false'. Refute it at one input. -/
def lexJoinsWrong : ChangeSpec := { name := "lexJoins", fn := fun _ => fun
  | [d1, d2, d3] => { results := [.lit (.bool false)], args := [d1, d2, d3] }
  | _ => none }
def LexJoinsWrongFalsely : Prop := lexJoinsRow.holds Try.pinned (OpenSpec.ofChange lexJoinsWrong)

/-- 'steelyardlaw07.LexSymbols': WHATEVER THE INPUT: true; the input reads as it did. -/
def lexSymbolsSpec : ChangeSpec := { name := "lexSymbols", fn := fun _ => fun
  | [d] => { results := [.lit (.bool true)], args := [d] }
  | _ => none }
def lexSymbolsRow : OpenClaim := { program := "ytclingkhdmhhoaa", sum := "69e23d75918f00a0189b7e3171a47317d108f04107a1be38f98b73b02986c409", func := "steelyard/steelyardlaw07.LexSymbols", spec := "lexSymbols", inPlace := ["internal/bytealg.IndexByteString", "internal/abi.NoEscape", "internal/bytealg.MakeNoZero"], unfollowed := true, recurses := true, apart := false }
def LexSymbolsSaid : Prop := lexSymbolsRow.holds Try.pinned (OpenSpec.ofChange lexSymbolsSpec)

/-- ITS FALSE NEIGHBOUR: 'it returns false'. Refute it at one input. -/
def lexSymbolsWrong : ChangeSpec := { name := "lexSymbols", fn := fun _ => fun
  | [d] => { results := [.lit (.bool false)], args := [d] }
  | _ => none }
def LexSymbolsWrongFalsely : Prop := lexSymbolsRow.holds Try.pinned (OpenSpec.ofChange lexSymbolsWrong)

/-- 'steelyardlaw06.SnapLasts': WHATEVER THE INPUT: true; the input reads as it did. -/
def snapLastsSpec : ChangeSpec := { name := "snapLasts", fn := fun _ => fun
  | [d1, d2, d3, d4, d5, d6] => { results := [.lit (.bool true)], args := [d1, d2, d3, d4, d5, d6] }
  | _ => none }
def snapLastsRow : OpenClaim := { program := "ytclingkhdmhhoaa", sum := "69e23d75918f00a0189b7e3171a47317d108f04107a1be38f98b73b02986c409", func := "steelyard/steelyardlaw06.SnapLasts", spec := "snapLasts", unfollowed := true, recurses := true, apart := false }
def SnapLastsSaid : Prop := snapLastsRow.holds Try.pinned (OpenSpec.ofChange snapLastsSpec)

/-- ITS FALSE NEIGHBOUR: 'it returns false'. Refute it at one input. -/
def snapLastsWrong : ChangeSpec := { name := "snapLasts", fn := fun _ => fun
  | [d1, d2, d3, d4, d5, d6] => { results := [.lit (.bool false)], args := [d1, d2, d3, d4, d5, d6] }
  | _ => none }
def SnapLastsWrongFalsely : Prop := snapLastsRow.holds Try.pinned (OpenSpec.ofChange snapLastsWrong)

/-- 'steelyardlaw08.SexpReads': WHATEVER THE INPUT: true; the input reads as it did. -/
def sexpReadsSpec : ChangeSpec := { name := "sexpReads", fn := fun _ => fun
  | [d] => { results := [.lit (.bool true)], args := [d] }
  | _ => none }
def sexpReadsRow : OpenClaim := { program := "ytclingkhdmhhoaa", sum := "69e23d75918f00a0189b7e3171a47317d108f04107a1be38f98b73b02986c409", func := "steelyard/steelyardlaw08.SexpReads", spec := "sexpReads", inPlace := ["internal/bytealg.IndexByteString", "internal/abi.NoEscape", "internal/bytealg.MakeNoZero"], unfollowed := true, recurses := true, apart := false }
def SexpReadsSaid : Prop := sexpReadsRow.holds Try.pinned (OpenSpec.ofChange sexpReadsSpec)

/-- ITS FALSE NEIGHBOUR: 'it returns false'. Refute it at one input. -/
def sexpReadsWrong : ChangeSpec := { name := "sexpReads", fn := fun _ => fun
  | [d] => { results := [.lit (.bool false)], args := [d] }
  | _ => none }
def SexpReadsWrongFalsely : Prop := sexpReadsRow.holds Try.pinned (OpenSpec.ofChange sexpReadsWrong)

/-- 'steelyardlaw08.SexpDeep': WHATEVER THE INPUT: true; the input reads as it did. -/
def sexpDeepSpec : ChangeSpec := { name := "sexpDeep", fn := fun _ => fun
  | [d] => { results := [.lit (.bool true)], args := [d] }
  | _ => none }
def sexpDeepRow : OpenClaim := { program := "ytclingkhdmhhoaa", sum := "69e23d75918f00a0189b7e3171a47317d108f04107a1be38f98b73b02986c409", func := "steelyard/steelyardlaw08.SexpDeep", spec := "sexpDeep", inPlace := ["internal/bytealg.IndexByteString", "internal/abi.NoEscape", "internal/bytealg.MakeNoZero"], unfollowed := true, recurses := true, apart := false }
def SexpDeepSaid : Prop := sexpDeepRow.holds Try.pinned (OpenSpec.ofChange sexpDeepSpec)

/-- ITS FALSE NEIGHBOUR: 'it returns false'. Refute it at one input. -/
def sexpDeepWrong : ChangeSpec := { name := "sexpDeep", fn := fun _ => fun
  | [d] => { results := [.lit (.bool false)], args := [d] }
  | _ => none }
def SexpDeepWrongFalsely : Prop := sexpDeepRow.holds Try.pinned (OpenSpec.ofChange sexpDeepWrong)

/-- 'steelyardlaw08.SexpJoins': WHATEVER THE INPUT: true; the input reads as it did. -/
def sexpJoinsSpec : ChangeSpec := { name := "sexpJoins", fn := fun _ => fun
  | [d1, d2] => { results := [.lit (.bool true)], args := [d1, d2] }
  | _ => none }
def sexpJoinsRow : OpenClaim := { program := "ytclingkhdmhhoaa", sum := "69e23d75918f00a0189b7e3171a47317d108f04107a1be38f98b73b02986c409", func := "steelyard/steelyardlaw08.SexpJoins", spec := "sexpJoins", inPlace := ["internal/bytealg.IndexByteString", "internal/abi.NoEscape", "internal/bytealg.MakeNoZero"], unfollowed := true, recurses := true, apart := false }
def SexpJoinsSaid : Prop := sexpJoinsRow.holds Try.pinned (OpenSpec.ofChange sexpJoinsSpec)

/-- ITS FALSE NEIGHBOUR: 'it returns false'. Refute it at one input. -/
def sexpJoinsWrong : ChangeSpec := { name := "sexpJoins", fn := fun _ => fun
  | [d1, d2] => { results := [.lit (.bool false)], args := [d1, d2] }
  | _ => none }
def SexpJoinsWrongFalsely : Prop := sexpJoinsRow.holds Try.pinned (OpenSpec.ofChange sexpJoinsWrong)

/- THE SECOND FORM. 'bulk': how many values and letters a reading holds, each counted each time it is reached (what is shared counts as often as it is met; a slice's spare places count too). A statement '..UptoSaid' is the law's where the arguments, and the package variables that the reading takes, are together of bulk at most 1048576: NARROWER than '..Said'. Prove '..Said' where nothing that the law and all that it calls make is longer than what came in: it says more and counts as full. Else prove '..UptoSaid'. A law counts once. -/
mutual
def uptoBulk {H : Type} : DataW H → Nat
  | .lit (.string bytes) => bytes.length + 1
  | .lit _ => 1
  | .nil => 1
  | .ptr d => uptoBulk d + 1
  | .slice elems spare => uptoBulkAll elems + uptoBulkAll spare + 1
  | .agg parts => uptoBulkAll parts + 1
  | .iface _ d => uptoBulk d + 1
  | .map entries => uptoBulkEntries entries + 1
  | .held _ => 1
def uptoBulkAll {H : Type} : List (DataW H) → Nat
  | [] => 0
  | d :: r => uptoBulk d + uptoBulkAll r
def uptoBulkEntries {H : Type} : List (Lit × DataW H) → Nat
  | [] => 0
  | x :: r => uptoBulkEntry x + uptoBulkEntries r
def uptoBulkEntry {H : Type} : Lit × DataW H → Nat
  | (.string bytes, d) => bytes.length + uptoBulk d + 1
  | (_, d) => uptoBulk d + 1
 end
def uptoSmall : (H : Type) → List (DataW H) → Bool := fun _ ds => decide (uptoBulkAll ds ≤ 1048576)
def OpenSpec.upto (s : _root_.Go.ChangeSpec) : _root_.Go.OpenSpec := { _root_.Go.OpenSpec.ofChange s with cond := some uptoSmall }

/-- 'steelyardlaw05.DiskFlushed', WHERE WHAT IT READS IS OF BULK AT MOST 1048576: true; the input reads as it did. -/
def diskFlushedUptoRow : OpenClaim := { program := "ytclingkhdmhhoaa", sum := "69e23d75918f00a0189b7e3171a47317d108f04107a1be38f98b73b02986c409", func := "steelyard/steelyardlaw05.DiskFlushed", spec := "diskFlushed", unfollowed := true, recurses := true, apart := false, narrowed := true }
def DiskFlushedUptoSaid : Prop := diskFlushedUptoRow.holds Try.pinned (OpenSpec.upto diskFlushedSpec)

/-- 'steelyardlaw05.DiskStops', WHERE WHAT IT READS IS OF BULK AT MOST 1048576: true; the input reads as it did. -/
def diskStopsUptoRow : OpenClaim := { program := "ytclingkhdmhhoaa", sum := "69e23d75918f00a0189b7e3171a47317d108f04107a1be38f98b73b02986c409", func := "steelyard/steelyardlaw05.DiskStops", spec := "diskStops", unfollowed := true, recurses := true, apart := false, narrowed := true }
def DiskStopsUptoSaid : Prop := diskStopsUptoRow.holds Try.pinned (OpenSpec.upto diskStopsSpec)

/-- 'steelyardlaw07.LexReads', WHERE WHAT IT READS IS OF BULK AT MOST 1048576: true; the input reads as it did. -/
def lexReadsUptoRow : OpenClaim := { program := "ytclingkhdmhhoaa", sum := "69e23d75918f00a0189b7e3171a47317d108f04107a1be38f98b73b02986c409", func := "steelyard/steelyardlaw07.LexReads", spec := "lexReads", inPlace := ["internal/bytealg.IndexByteString", "internal/abi.NoEscape", "internal/bytealg.MakeNoZero"], unfollowed := true, recurses := true, apart := false, narrowed := true }
def LexReadsUptoSaid : Prop := lexReadsUptoRow.holds Try.pinned (OpenSpec.upto lexReadsSpec)

/-- 'steelyardlaw07.LexJoins', WHERE WHAT IT READS IS OF BULK AT MOST 1048576: true; the input reads as it did. -/
def lexJoinsUptoRow : OpenClaim := { program := "ytclingkhdmhhoaa", sum := "69e23d75918f00a0189b7e3171a47317d108f04107a1be38f98b73b02986c409", func := "steelyard/steelyardlaw07.LexJoins", spec := "lexJoins", inPlace := ["internal/bytealg.IndexByteString", "internal/abi.NoEscape", "internal/bytealg.MakeNoZero"], unfollowed := true, recurses := true, apart := false, narrowed := true }
def LexJoinsUptoSaid : Prop := lexJoinsUptoRow.holds Try.pinned (OpenSpec.upto lexJoinsSpec)

/-- 'steelyardlaw07.LexSymbols', WHERE WHAT IT READS IS OF BULK AT MOST 1048576: true; the input reads as it did. -/
def lexSymbolsUptoRow : OpenClaim := { program := "ytclingkhdmhhoaa", sum := "69e23d75918f00a0189b7e3171a47317d108f04107a1be38f98b73b02986c409", func := "steelyard/steelyardlaw07.LexSymbols", spec := "lexSymbols", inPlace := ["internal/bytealg.IndexByteString", "internal/abi.NoEscape", "internal/bytealg.MakeNoZero"], unfollowed := true, recurses := true, apart := false, narrowed := true }
def LexSymbolsUptoSaid : Prop := lexSymbolsUptoRow.holds Try.pinned (OpenSpec.upto lexSymbolsSpec)

/-- 'steelyardlaw06.SnapLasts', WHERE WHAT IT READS IS OF BULK AT MOST 1048576: true; the input reads as it did. -/
def snapLastsUptoRow : OpenClaim := { program := "ytclingkhdmhhoaa", sum := "69e23d75918f00a0189b7e3171a47317d108f04107a1be38f98b73b02986c409", func := "steelyard/steelyardlaw06.SnapLasts", spec := "snapLasts", unfollowed := true, recurses := true, apart := false, narrowed := true }
def SnapLastsUptoSaid : Prop := snapLastsUptoRow.holds Try.pinned (OpenSpec.upto snapLastsSpec)

/-- 'steelyardlaw08.SexpReads', WHERE WHAT IT READS IS OF BULK AT MOST 1048576: true; the input reads as it did. -/
def sexpReadsUptoRow : OpenClaim := { program := "ytclingkhdmhhoaa", sum := "69e23d75918f00a0189b7e3171a47317d108f04107a1be38f98b73b02986c409", func := "steelyard/steelyardlaw08.SexpReads", spec := "sexpReads", inPlace := ["internal/bytealg.IndexByteString", "internal/abi.NoEscape", "internal/bytealg.MakeNoZero"], unfollowed := true, recurses := true, apart := false, narrowed := true }
def SexpReadsUptoSaid : Prop := sexpReadsUptoRow.holds Try.pinned (OpenSpec.upto sexpReadsSpec)

/-- 'steelyardlaw08.SexpDeep', WHERE WHAT IT READS IS OF BULK AT MOST 1048576: true; the input reads as it did. -/
def sexpDeepUptoRow : OpenClaim := { program := "ytclingkhdmhhoaa", sum := "69e23d75918f00a0189b7e3171a47317d108f04107a1be38f98b73b02986c409", func := "steelyard/steelyardlaw08.SexpDeep", spec := "sexpDeep", inPlace := ["internal/bytealg.IndexByteString", "internal/abi.NoEscape", "internal/bytealg.MakeNoZero"], unfollowed := true, recurses := true, apart := false, narrowed := true }
def SexpDeepUptoSaid : Prop := sexpDeepUptoRow.holds Try.pinned (OpenSpec.upto sexpDeepSpec)

/-- 'steelyardlaw08.SexpJoins', WHERE WHAT IT READS IS OF BULK AT MOST 1048576: true; the input reads as it did. -/
def sexpJoinsUptoRow : OpenClaim := { program := "ytclingkhdmhhoaa", sum := "69e23d75918f00a0189b7e3171a47317d108f04107a1be38f98b73b02986c409", func := "steelyard/steelyardlaw08.SexpJoins", spec := "sexpJoins", inPlace := ["internal/bytealg.IndexByteString", "internal/abi.NoEscape", "internal/bytealg.MakeNoZero"], unfollowed := true, recurses := true, apart := false, narrowed := true }
def SexpJoinsUptoSaid : Prop := sexpJoinsUptoRow.holds Try.pinned (OpenSpec.upto sexpJoinsSpec)

end Rows
end Go.Proofs.Ytclingkhdmhhoaa
