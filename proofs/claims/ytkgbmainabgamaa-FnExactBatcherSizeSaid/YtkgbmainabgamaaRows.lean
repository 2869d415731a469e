/-
  No cell of these rows narrows 'for every input' (looked for: loops, veiled, ifaces, maps, wideKeys, modest, calm, conditions, laid).
  DERIVED. THE GIVEN ROWS OF THIS SEAT. 12 by the template 'for every input the law returns true; each argument reads behind the call as it read before'; 0 by the template 'total and deterministic' (their statements: YtkgbmainabgamaaTotals.lean).
  GIVEN WITH THE SEED: the statements are not yours to turn. If you find one false, say at which input.
  Laid BY PROGRAM, IN A SANDBOX (cutbox-rows.mjs): the forced cells as the released guide's own fill.sh prints them over the translation 01b44d084b684b2e… (all of the seat's roots in one cut). By AI agents, Wed Nov 11 2026. No macro, syntax, notation, axiom, sorry.
-/
import Derived.Test.YtkgbmainabgamaaChecked
import GoSem.Claim
import GoSem.ClaimJoined
import GoSem.ClaimMapViews
import Derived.JoinedTies
import Derived.KernelRfl
namespace Go.Proofs.Ytkgbmainabgamaa
/- THE CELL 'sum', in the pinned program and in every row, IS THE sha256 OF THE DUMP (.gsa) THAT YtkgbmainabgamaaProg.lean LOADS. Nothing in Lean hashes anything: it is a label: what it is worth is what the hold of that sum in a sandbox is worth. -/
noncomputable def Try.pinned : Pinned := { name := "ytkgbmainabgamaa", sum := "01b44d084b684b2ef5374d23eafb90bf538f0af7b138a2b53ab9219cb87f5c4b", checked := Try.checked }
namespace Rows
def none {H : Type} : Left H := { results := [], args := [] }

/-- 'laws.FnExactBubbleNetwork': WHATEVER THE INPUT: true; the input reads as it did. -/
def fnExactBubbleNetworkSpec : ChangeSpec := { name := "fnExactBubbleNetwork", fn := fun _ => fun
  | [d] => { results := [.lit (.bool true)], args := [d] }
  | _ => none }
def fnExactBubbleNetworkRow : OpenClaim := { program := "ytkgbmainabgamaa", sum := "01b44d084b684b2ef5374d23eafb90bf538f0af7b138a2b53ab9219cb87f5c4b", func := "loop.example/g03207/laws.FnExactBubbleNetwork", spec := "fnExactBubbleNetwork", apart := false }
def FnExactBubbleNetworkSaid : Prop := fnExactBubbleNetworkRow.holds Try.pinned (OpenSpec.ofChange fnExactBubbleNetworkSpec)

/-- ITS FALSE NEIGHBOUR: 'it returns false'. Refute it at one input. -/
def fnExactBubbleNetworkWrong : ChangeSpec := { name := "fnExactBubbleNetwork", fn := fun _ => fun
  | [d] => { results := [.lit (.bool false)], args := [d] }
  | _ => none }
def FnExactBubbleNetworkWrongFalsely : Prop := fnExactBubbleNetworkRow.holds Try.pinned (OpenSpec.ofChange fnExactBubbleNetworkWrong)

/-- 'laws.FnExactInsertionNetwork': WHATEVER THE INPUT: true; the input reads as it did. -/
def fnExactInsertionNetworkSpec : ChangeSpec := { name := "fnExactInsertionNetwork", fn := fun _ => fun
  | [d] => { results := [.lit (.bool true)], args := [d] }
  | _ => none }
def fnExactInsertionNetworkRow : OpenClaim := { program := "ytkgbmainabgamaa", sum := "01b44d084b684b2ef5374d23eafb90bf538f0af7b138a2b53ab9219cb87f5c4b", func := "loop.example/g03207/laws.FnExactInsertionNetwork", spec := "fnExactInsertionNetwork", apart := false }
def FnExactInsertionNetworkSaid : Prop := fnExactInsertionNetworkRow.holds Try.pinned (OpenSpec.ofChange fnExactInsertionNetworkSpec)

/-- ITS FALSE NEIGHBOUR: 'it returns false'. Refute it at one input. -/
def fnExactInsertionNetworkWrong : ChangeSpec := { name := "fnExactInsertionNetwork", fn := fun _ => fun
  | [d] => { results := [.lit (.bool false)], args := [d] }
  | _ => none }
def FnExactInsertionNetworkWrongFalsely : Prop := fnExactInsertionNetworkRow.holds Try.pinned (OpenSpec.ofChange fnExactInsertionNetworkWrong)

/-- 'laws.FnExactSelectNetwork': WHATEVER THE INPUT: true; the input reads as it did. -/
def fnExactSelectNetworkSpec : ChangeSpec := { name := "fnExactSelectNetwork", fn := fun _ => fun
  | [d1, d2] => { results := [.lit (.bool true)], args := [d1, d2] }
  | _ => none }
def fnExactSelectNetworkRow : OpenClaim := { program := "ytkgbmainabgamaa", sum := "01b44d084b684b2ef5374d23eafb90bf538f0af7b138a2b53ab9219cb87f5c4b", func := "loop.example/g03207/laws.FnExactSelectNetwork", spec := "fnExactSelectNetwork", apart := false }
def FnExactSelectNetworkSaid : Prop := fnExactSelectNetworkRow.holds Try.pinned (OpenSpec.ofChange fnExactSelectNetworkSpec)

/-- ITS FALSE NEIGHBOUR: 'it returns false'. Refute it at one input. -/
def fnExactSelectNetworkWrong : ChangeSpec := { name := "fnExactSelectNetwork", fn := fun _ => fun
  | [d1, d2] => { results := [.lit (.bool false)], args := [d1, d2] }
  | _ => none }
def FnExactSelectNetworkWrongFalsely : Prop := fnExactSelectNetworkRow.holds Try.pinned (OpenSpec.ofChange fnExactSelectNetworkWrong)

/-- 'laws.FnExactSelectionNetwork': WHATEVER THE INPUT: true; the input reads as it did. -/
def fnExactSelectionNetworkSpec : ChangeSpec := { name := "fnExactSelectionNetwork", fn := fun _ => fun
  | [d] => { results := [.lit (.bool true)], args := [d] }
  | _ => none }
def fnExactSelectionNetworkRow : OpenClaim := { program := "ytkgbmainabgamaa", sum := "01b44d084b684b2ef5374d23eafb90bf538f0af7b138a2b53ab9219cb87f5c4b", func := "loop.example/g03207/laws.FnExactSelectionNetwork", spec := "fnExactSelectionNetwork", apart := false }
def FnExactSelectionNetworkSaid : Prop := fnExactSelectionNetworkRow.holds Try.pinned (OpenSpec.ofChange fnExactSelectionNetworkSpec)

/-- ITS FALSE NEIGHBOUR: 'it returns false'. Refute it at one input. -/
def fnExactSelectionNetworkWrong : ChangeSpec := { name := "fnExactSelectionNetwork", fn := fun _ => fun
  | [d] => { results := [.lit (.bool false)], args := [d] }
  | _ => none }
def FnExactSelectionNetworkWrongFalsely : Prop := fnExactSelectionNetworkRow.holds Try.pinned (OpenSpec.ofChange fnExactSelectionNetworkWrong)

/-- 'laws.FnExactBrickNetwork': WHATEVER THE INPUT: true; the input reads as it did. -/
def fnExactBrickNetworkSpec : ChangeSpec := { name := "fnExactBrickNetwork", fn := fun _ => fun
  | [d1, d2] => { results := [.lit (.bool true)], args := [d1, d2] }
  | _ => none }
def fnExactBrickNetworkRow : OpenClaim := { program := "ytkgbmainabgamaa", sum := "01b44d084b684b2ef5374d23eafb90bf538f0af7b138a2b53ab9219cb87f5c4b", func := "loop.example/g03207/laws.FnExactBrickNetwork", spec := "fnExactBrickNetwork", apart := false }
def FnExactBrickNetworkSaid : Prop := fnExactBrickNetworkRow.holds Try.pinned (OpenSpec.ofChange fnExactBrickNetworkSpec)

/-- ITS FALSE NEIGHBOUR: 'it returns false'. Refute it at one input. -/
def fnExactBrickNetworkWrong : ChangeSpec := { name := "fnExactBrickNetwork", fn := fun _ => fun
  | [d1, d2] => { results := [.lit (.bool false)], args := [d1, d2] }
  | _ => none }
def FnExactBrickNetworkWrongFalsely : Prop := fnExactBrickNetworkRow.holds Try.pinned (OpenSpec.ofChange fnExactBrickNetworkWrong)

/-- 'laws.FnExactBitonicMerge': WHATEVER THE INPUT: true; the input reads as it did. -/
def fnExactBitonicMergeSpec : ChangeSpec := { name := "fnExactBitonicMerge", fn := fun _ => fun
  | [d] => { results := [.lit (.bool true)], args := [d] }
  | _ => none }
def fnExactBitonicMergeRow : OpenClaim := { program := "ytkgbmainabgamaa", sum := "01b44d084b684b2ef5374d23eafb90bf538f0af7b138a2b53ab9219cb87f5c4b", func := "loop.example/g03207/laws.FnExactBitonicMerge", spec := "fnExactBitonicMerge", recurses := true, apart := false }
def FnExactBitonicMergeSaid : Prop := fnExactBitonicMergeRow.holds Try.pinned (OpenSpec.ofChange fnExactBitonicMergeSpec)

/-- ITS FALSE NEIGHBOUR: 'it returns false'. Refute it at one input. -/
def fnExactBitonicMergeWrong : ChangeSpec := { name := "fnExactBitonicMerge", fn := fun _ => fun
  | [d] => { results := [.lit (.bool false)], args := [d] }
  | _ => none }
def FnExactBitonicMergeWrongFalsely : Prop := fnExactBitonicMergeRow.holds Try.pinned (OpenSpec.ofChange fnExactBitonicMergeWrong)

/-- 'laws.FnExactMergeSize': WHATEVER THE INPUT: true; the input reads as it did. -/
def fnExactMergeSizeSpec : ChangeSpec := { name := "fnExactMergeSize", fn := fun _ => fun
  | [d1, d2] => { results := [.lit (.bool true)], args := [d1, d2] }
  | _ => none }
def fnExactMergeSizeRow : OpenClaim := { program := "ytkgbmainabgamaa", sum := "01b44d084b684b2ef5374d23eafb90bf538f0af7b138a2b53ab9219cb87f5c4b", func := "loop.example/g03207/laws.FnExactMergeSize", spec := "fnExactMergeSize", recurses := true, apart := false }
def FnExactMergeSizeSaid : Prop := fnExactMergeSizeRow.holds Try.pinned (OpenSpec.ofChange fnExactMergeSizeSpec)

/-- ITS FALSE NEIGHBOUR: 'it returns false'. Refute it at one input. -/
def fnExactMergeSizeWrong : ChangeSpec := { name := "fnExactMergeSize", fn := fun _ => fun
  | [d1, d2] => { results := [.lit (.bool false)], args := [d1, d2] }
  | _ => none }
def FnExactMergeSizeWrongFalsely : Prop := fnExactMergeSizeRow.holds Try.pinned (OpenSpec.ofChange fnExactMergeSizeWrong)

/-- 'laws.FnExactBitonicNetwork': WHATEVER THE INPUT: true; the input reads as it did. -/
def fnExactBitonicNetworkSpec : ChangeSpec := { name := "fnExactBitonicNetwork", fn := fun _ => fun
  | [d] => { results := [.lit (.bool true)], args := [d] }
  | _ => none }
def fnExactBitonicNetworkRow : OpenClaim := { program := "ytkgbmainabgamaa", sum := "01b44d084b684b2ef5374d23eafb90bf538f0af7b138a2b53ab9219cb87f5c4b", func := "loop.example/g03207/laws.FnExactBitonicNetwork", spec := "fnExactBitonicNetwork", recurses := true, apart := false }
def FnExactBitonicNetworkSaid : Prop := fnExactBitonicNetworkRow.holds Try.pinned (OpenSpec.ofChange fnExactBitonicNetworkSpec)

/-- ITS FALSE NEIGHBOUR: 'it returns false'. Refute it at one input. -/
def fnExactBitonicNetworkWrong : ChangeSpec := { name := "fnExactBitonicNetwork", fn := fun _ => fun
  | [d] => { results := [.lit (.bool false)], args := [d] }
  | _ => none }
def FnExactBitonicNetworkWrongFalsely : Prop := fnExactBitonicNetworkRow.holds Try.pinned (OpenSpec.ofChange fnExactBitonicNetworkWrong)

/-- 'laws.FnExactBatcherSize': WHATEVER THE INPUT: true; the input reads as it did. -/
def fnExactBatcherSizeSpec : ChangeSpec := { name := "fnExactBatcherSize", fn := fun _ => fun
  | [d] => { results := [.lit (.bool true)], args := [d] }
  | _ => none }
def fnExactBatcherSizeRow : OpenClaim := { program := "ytkgbmainabgamaa", sum := "01b44d084b684b2ef5374d23eafb90bf538f0af7b138a2b53ab9219cb87f5c4b", func := "loop.example/g03207/laws.FnExactBatcherSize", spec := "fnExactBatcherSize", recurses := true, apart := false }
def FnExactBatcherSizeSaid : Prop := fnExactBatcherSizeRow.holds Try.pinned (OpenSpec.ofChange fnExactBatcherSizeSpec)

/-- ITS FALSE NEIGHBOUR: 'it returns false'. Refute it at one input. -/
def fnExactBatcherSizeWrong : ChangeSpec := { name := "fnExactBatcherSize", fn := fun _ => fun
  | [d] => { results := [.lit (.bool false)], args := [d] }
  | _ => none }
def FnExactBatcherSizeWrongFalsely : Prop := fnExactBatcherSizeRow.holds Try.pinned (OpenSpec.ofChange fnExactBatcherSizeWrong)

/-- 'laws.FnExactPairwiseNetwork': WHATEVER THE INPUT: true; the input reads as it did. -/
def fnExactPairwiseNetworkSpec : ChangeSpec := { name := "fnExactPairwiseNetwork", fn := fun _ => fun
  | [d] => { results := [.lit (.bool true)], args := [d] }
  | _ => none }
def fnExactPairwiseNetworkRow : OpenClaim := { program := "ytkgbmainabgamaa", sum := "01b44d084b684b2ef5374d23eafb90bf538f0af7b138a2b53ab9219cb87f5c4b", func := "loop.example/g03207/laws.FnExactPairwiseNetwork", spec := "fnExactPairwiseNetwork", recurses := true, apart := false }
def FnExactPairwiseNetworkSaid : Prop := fnExactPairwiseNetworkRow.holds Try.pinned (OpenSpec.ofChange fnExactPairwiseNetworkSpec)

/-- ITS FALSE NEIGHBOUR: 'it returns false'. Refute it at one input. -/
def fnExactPairwiseNetworkWrong : ChangeSpec := { name := "fnExactPairwiseNetwork", fn := fun _ => fun
  | [d] => { results := [.lit (.bool false)], args := [d] }
  | _ => none }
def FnExactPairwiseNetworkWrongFalsely : Prop := fnExactPairwiseNetworkRow.holds Try.pinned (OpenSpec.ofChange fnExactPairwiseNetworkWrong)

/-- 'laws.FnExactOddEvenMerge': WHATEVER THE INPUT: true; the input reads as it did. -/
def fnExactOddEvenMergeSpec : ChangeSpec := { name := "fnExactOddEvenMerge", fn := fun _ => fun
  | [d1, d2] => { results := [.lit (.bool true)], args := [d1, d2] }
  | _ => none }
def fnExactOddEvenMergeRow : OpenClaim := { program := "ytkgbmainabgamaa", sum := "01b44d084b684b2ef5374d23eafb90bf538f0af7b138a2b53ab9219cb87f5c4b", func := "loop.example/g03207/laws.FnExactOddEvenMerge", spec := "fnExactOddEvenMerge", recurses := true, apart := false }
def FnExactOddEvenMergeSaid : Prop := fnExactOddEvenMergeRow.holds Try.pinned (OpenSpec.ofChange fnExactOddEvenMergeSpec)

/-- ITS FALSE NEIGHBOUR: 'it returns false'. Refute it at one input. -/
def fnExactOddEvenMergeWrong : ChangeSpec := { name := "fnExactOddEvenMerge", fn := fun _ => fun
  | [d1, d2] => { results := [.lit (.bool false)], args := [d1, d2] }
  | _ => none }
def FnExactOddEvenMergeWrongFalsely : Prop := fnExactOddEvenMergeRow.holds Try.pinned (OpenSpec.ofChange fnExactOddEvenMergeWrong)

/-- 'laws.FnExactBatcherNetwork': WHATEVER THE INPUT: true; the input reads as it did. -/
def fnExactBatcherNetworkSpec : ChangeSpec := { name := "fnExactBatcherNetwork", fn := fun _ => fun
  | [d] => { results := [.lit (.bool true)], args := [d] }
  | _ => none }
def fnExactBatcherNetworkRow : OpenClaim := { program := "ytkgbmainabgamaa", sum := "01b44d084b684b2ef5374d23eafb90bf538f0af7b138a2b53ab9219cb87f5c4b", func := "loop.example/g03207/laws.FnExactBatcherNetwork", spec := "fnExactBatcherNetwork", recurses := true, apart := false }
def FnExactBatcherNetworkSaid : Prop := fnExactBatcherNetworkRow.holds Try.pinned (OpenSpec.ofChange fnExactBatcherNetworkSpec)

/-- ITS FALSE NEIGHBOUR: 'it returns false'. Refute it at one input. -/
def fnExactBatcherNetworkWrong : ChangeSpec := { name := "fnExactBatcherNetwork", fn := fun _ => fun
  | [d] => { results := [.lit (.bool false)], args := [d] }
  | _ => none }
def FnExactBatcherNetworkWrongFalsely : Prop := fnExactBatcherNetworkRow.holds Try.pinned (OpenSpec.ofChange fnExactBatcherNetworkWrong)

/- THE SECOND FORM. 'bulk': how many values and letters a reading holds, each counted each time it is reached (what is shared counts as often as it is met; a slice's spare places count too). A statement '..UptoSaid' is the law's where the arguments, and the package variables that the reading takes, are together of bulk at most 1048576: NARROWER than '..Said'. Prove '..Said' where nothing that the law and all that it calls make is longer than what came in: it says more and counts as full. Else prove '..UptoSaid'. A law counts once. -/
mutual
def uptoBulk {H : Type} : DataW H → Nat
  | .lit (.string bytes) => bytes.length + 1
  | .lit _ => 1
  | .nil => 1
  | .ptr d => uptoBulk d + 1
  | .slice elems spare => uptoBulkAll elems + uptoBulkAll spare + 1
  | .agg parts => uptoBulkAll parts + 1
  | .iface _ d => uptoBulk d + 1
  | .map entries => uptoBulkEntries entries + 1
  | .held _ => 1
def uptoBulkAll {H : Type} : List (DataW H) → Nat
  | [] => 0
  | d :: r => uptoBulk d + uptoBulkAll r
def uptoBulkEntries {H : Type} : List (Lit × DataW H) → Nat
  | [] => 0
  | x :: r => uptoBulkEntry x + uptoBulkEntries r
def uptoBulkEntry {H : Type} : Lit × DataW H → Nat
  | (.string bytes, d) => bytes.length + uptoBulk d + 1
  | (_, d) => uptoBulk d + 1
 end
def uptoSmall : (H : Type) → List (DataW H) → Bool := fun _ ds => decide (uptoBulkAll ds ≤ 1048576)
def OpenSpec.upto (s : _root_.Go.ChangeSpec) : _root_.Go.OpenSpec := { _root_.Go.OpenSpec.ofChange s with cond := some uptoSmall }

/-- 'laws.FnExactBubbleNetwork', WHERE WHAT IT READS IS OF BULK AT MOST 1048576: true; the input reads as it did. -/
def fnExactBubbleNetworkUptoRow : OpenClaim := { program := "ytkgbmainabgamaa", sum := "01b44d084b684b2ef5374d23eafb90bf538f0af7b138a2b53ab9219cb87f5c4b", func := "loop.example/g03207/laws.FnExactBubbleNetwork", spec := "fnExactBubbleNetwork", apart := false, narrowed := true }
def FnExactBubbleNetworkUptoSaid : Prop := fnExactBubbleNetworkUptoRow.holds Try.pinned (OpenSpec.upto fnExactBubbleNetworkSpec)

/-- 'laws.FnExactInsertionNetwork', WHERE WHAT IT READS IS OF BULK AT MOST 1048576: true; the input reads as it did. -/
def fnExactInsertionNetworkUptoRow : OpenClaim := { program := "ytkgbmainabgamaa", sum := "01b44d084b684b2ef5374d23eafb90bf538f0af7b138a2b53ab9219cb87f5c4b", func := "loop.example/g03207/laws.FnExactInsertionNetwork", spec := "fnExactInsertionNetwork", apart := false, narrowed := true }
def FnExactInsertionNetworkUptoSaid : Prop := fnExactInsertionNetworkUptoRow.holds Try.pinned (OpenSpec.upto fnExactInsertionNetworkSpec)

/-- 'laws.FnExactSelectNetwork', WHERE WHAT IT READS IS OF BULK AT MOST 1048576: true; the input reads as it did. -/
def fnExactSelectNetworkUptoRow : OpenClaim := { program := "ytkgbmainabgamaa", sum := "01b44d084b684b2ef5374d23eafb90bf538f0af7b138a2b53ab9219cb87f5c4b", func := "loop.example/g03207/laws.FnExactSelectNetwork", spec := "fnExactSelectNetwork", apart := false, narrowed := true }
def FnExactSelectNetworkUptoSaid : Prop := fnExactSelectNetworkUptoRow.holds Try.pinned (OpenSpec.upto fnExactSelectNetworkSpec)

/-- 'laws.FnExactSelectionNetwork', WHERE WHAT IT READS IS OF BULK AT MOST 1048576: true; the input reads as it did. -/
def fnExactSelectionNetworkUptoRow : OpenClaim := { program := "ytkgbmainabgamaa", sum := "01b44d084b684b2ef5374d23eafb90bf538f0af7b138a2b53ab9219cb87f5c4b", func := "loop.example/g03207/laws.FnExactSelectionNetwork", spec := "fnExactSelectionNetwork", apart := false, narrowed := true }
def FnExactSelectionNetworkUptoSaid : Prop := fnExactSelectionNetworkUptoRow.holds Try.pinned (OpenSpec.upto fnExactSelectionNetworkSpec)

/-- 'laws.FnExactBrickNetwork', WHERE WHAT IT READS IS OF BULK AT MOST 1048576: true; the input reads as it did. -/
def fnExactBrickNetworkUptoRow : OpenClaim := { program := "ytkgbmainabgamaa", sum := "01b44d084b684b2ef5374d23eafb90bf538f0af7b138a2b53ab9219cb87f5c4b", func := "loop.example/g03207/laws.FnExactBrickNetwork", spec := "fnExactBrickNetwork", apart := false, narrowed := true }
def FnExactBrickNetworkUptoSaid : Prop := fnExactBrickNetworkUptoRow.holds Try.pinned (OpenSpec.upto fnExactBrickNetworkSpec)

/-- 'laws.FnExactBitonicMerge', WHERE WHAT IT READS IS OF BULK AT MOST 1048576: true; the input reads as it did. -/
def fnExactBitonicMergeUptoRow : OpenClaim := { program := "ytkgbmainabgamaa", sum := "01b44d084b684b2ef5374d23eafb90bf538f0af7b138a2b53ab9219cb87f5c4b", func := "loop.example/g03207/laws.FnExactBitonicMerge", spec := "fnExactBitonicMerge", recurses := true, apart := false, narrowed := true }
def FnExactBitonicMergeUptoSaid : Prop := fnExactBitonicMergeUptoRow.holds Try.pinned (OpenSpec.upto fnExactBitonicMergeSpec)

/-- 'laws.FnExactMergeSize', WHERE WHAT IT READS IS OF BULK AT MOST 1048576: true; the input reads as it did. -/
def fnExactMergeSizeUptoRow : OpenClaim := { program := "ytkgbmainabgamaa", sum := "01b44d084b684b2ef5374d23eafb90bf538f0af7b138a2b53ab9219cb87f5c4b", func := "loop.example/g03207/laws.FnExactMergeSize", spec := "fnExactMergeSize", recurses := true, apart := false, narrowed := true }
def FnExactMergeSizeUptoSaid : Prop := fnExactMergeSizeUptoRow.holds Try.pinned (OpenSpec.upto fnExactMergeSizeSpec)

/-- 'laws.FnExactBitonicNetwork', WHERE WHAT IT READS IS OF BULK AT MOST 1048576: true; the input reads as it did. -/
def fnExactBitonicNetworkUptoRow : OpenClaim := { program := "ytkgbmainabgamaa", sum := "01b44d084b684b2ef5374d23eafb90bf538f0af7b138a2b53ab9219cb87f5c4b", func := "loop.example/g03207/laws.FnExactBitonicNetwork", spec := "fnExactBitonicNetwork", recurses := true, apart := false, narrowed := true }
def FnExactBitonicNetworkUptoSaid : Prop := fnExactBitonicNetworkUptoRow.holds Try.pinned (OpenSpec.upto fnExactBitonicNetworkSpec)

/-- 'laws.FnExactBatcherSize', WHERE WHAT IT READS IS OF BULK AT MOST 1048576: true; the input reads as it did. -/
def fnExactBatcherSizeUptoRow : OpenClaim := { program := "ytkgbmainabgamaa", sum := "01b44d084b684b2ef5374d23eafb90bf538f0af7b138a2b53ab9219cb87f5c4b", func := "loop.example/g03207/laws.FnExactBatcherSize", spec := "fnExactBatcherSize", recurses := true, apart := false, narrowed := true }
def FnExactBatcherSizeUptoSaid : Prop := fnExactBatcherSizeUptoRow.holds Try.pinned (OpenSpec.upto fnExactBatcherSizeSpec)

/-- 'laws.FnExactPairwiseNetwork', WHERE WHAT IT READS IS OF BULK AT MOST 1048576: true; the input reads as it did. -/
def fnExactPairwiseNetworkUptoRow : OpenClaim := { program := "ytkgbmainabgamaa", sum := "01b44d084b684b2ef5374d23eafb90bf538f0af7b138a2b53ab9219cb87f5c4b", func := "loop.example/g03207/laws.FnExactPairwiseNetwork", spec := "fnExactPairwiseNetwork", recurses := true, apart := false, narrowed := true }
def FnExactPairwiseNetworkUptoSaid : Prop := fnExactPairwiseNetworkUptoRow.holds Try.pinned (OpenSpec.upto fnExactPairwiseNetworkSpec)

/-- 'laws.FnExactOddEvenMerge', WHERE WHAT IT READS IS OF BULK AT MOST 1048576: true; the input reads as it did. -/
def fnExactOddEvenMergeUptoRow : OpenClaim := { program := "ytkgbmainabgamaa", sum := "01b44d084b684b2ef5374d23eafb90bf538f0af7b138a2b53ab9219cb87f5c4b", func := "loop.example/g03207/laws.FnExactOddEvenMerge", spec := "fnExactOddEvenMerge", recurses := true, apart := false, narrowed := true }
def FnExactOddEvenMergeUptoSaid : Prop := fnExactOddEvenMergeUptoRow.holds Try.pinned (OpenSpec.upto fnExactOddEvenMergeSpec)

/-- 'laws.FnExactBatcherNetwork', WHERE WHAT IT READS IS OF BULK AT MOST 1048576: true; the input reads as it did. -/
def fnExactBatcherNetworkUptoRow : OpenClaim := { program := "ytkgbmainabgamaa", sum := "01b44d084b684b2ef5374d23eafb90bf538f0af7b138a2b53ab9219cb87f5c4b", func := "loop.example/g03207/laws.FnExactBatcherNetwork", spec := "fnExactBatcherNetwork", recurses := true, apart := false, narrowed := true }
def FnExactBatcherNetworkUptoSaid : Prop := fnExactBatcherNetworkUptoRow.holds Try.pinned (OpenSpec.upto fnExactBatcherNetworkSpec)

end Rows
end Go.Proofs.Ytkgbmainabgamaa
