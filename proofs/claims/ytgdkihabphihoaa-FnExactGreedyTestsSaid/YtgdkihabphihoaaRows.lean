/-
  No cell of these rows narrows 'for every input' (looked for: loops, veiled, ifaces, maps, wideKeys, modest, calm, conditions, laid).
  DERIVED. THE GIVEN ROWS OF THIS SEAT. 12 by the template 'for every input the law returns true; each argument reads behind the call as it read before'; 0 by the template 'total and deterministic' (their statements: YtgdkihabphihoaaTotals.lean).
  GIVEN WITH THE SEED: the statements are not yours to turn. If you find one false, say at which input.
  Laid BY PROGRAM, IN A SANDBOX (cutbox-rows.mjs): the forced cells as the released guide's own fill.sh prints them over the translation 38ff62e9997f78b0… (all of the seat's roots in one cut). By AI agents, Wed Nov 11 2026. No macro, syntax, notation, axiom, sorry.
-/
import Derived.Test.YtgdkihabphihoaaChecked
import GoSem.Claim
import GoSem.ClaimJoined
import GoSem.ClaimMapViews
import Derived.JoinedTies
import Derived.KernelRfl
namespace Go.Proofs.Ytgdkihabphihoaa
/- THE CELL 'sum', in the pinned program and in every row, IS THE sha256 OF THE DUMP (.gsa) THAT YtgdkihabphihoaaProg.lean LOADS. Nothing in Lean hashes anything: it is a label: what it is worth is what the hold of that sum in a sandbox is worth. -/
noncomputable def Try.pinned : Pinned := { name := "ytgdkihabphihoaa", sum := "38ff62e9997f78b0508ca49f4b26e3a59581154f3514dd6aa53ba9b8589c112b", checked := Try.checked }
namespace Rows
def none {H : Type} : Left H := { results := [], args := [] }

/-- 'laws.FnExactIsLean': WHATEVER THE INPUT: true; the input reads as it did. -/
def fnExactIsLeanSpec : ChangeSpec := { name := "fnExactIsLean", fn := fun _ => fun
  | [d] => { results := [.lit (.bool true)], args := [d] }
  | _ => none }
def fnExactIsLeanRow : OpenClaim := { program := "ytgdkihabphihoaa", sum := "38ff62e9997f78b0508ca49f4b26e3a59581154f3514dd6aa53ba9b8589c112b", func := "loop.example/g03207/laws.FnExactIsLean", spec := "fnExactIsLean", apart := false }
def FnExactIsLeanSaid : Prop := fnExactIsLeanRow.holds Try.pinned (OpenSpec.ofChange fnExactIsLeanSpec)

/-- ITS FALSE NEIGHBOUR: 'it returns false'. Refute it at one input. -/
def fnExactIsLeanWrong : ChangeSpec := { name := "fnExactIsLean", fn := fun _ => fun
  | [d] => { results := [.lit (.bool false)], args := [d] }
  | _ => none }
def FnExactIsLeanWrongFalsely : Prop := fnExactIsLeanRow.holds Try.pinned (OpenSpec.ofChange fnExactIsLeanWrong)

/-- 'laws.FnExactGreedyTests': WHATEVER THE INPUT: true; the input reads as it did. -/
def fnExactGreedyTestsSpec : ChangeSpec := { name := "fnExactGreedyTests", fn := fun _ => fun
  | [d] => { results := [.lit (.bool true)], args := [d] }
  | _ => none }
def fnExactGreedyTestsRow : OpenClaim := { program := "ytgdkihabphihoaa", sum := "38ff62e9997f78b0508ca49f4b26e3a59581154f3514dd6aa53ba9b8589c112b", func := "loop.example/g03207/laws.FnExactGreedyTests", spec := "fnExactGreedyTests", unfollowed := true, recurses := true, apart := false }
def FnExactGreedyTestsSaid : Prop := fnExactGreedyTestsRow.holds Try.pinned (OpenSpec.ofChange fnExactGreedyTestsSpec)

/-- ITS FALSE NEIGHBOUR: 'it returns false'. Refute it at one input. -/
def fnExactGreedyTestsWrong : ChangeSpec := { name := "fnExactGreedyTests", fn := fun _ => fun
  | [d] => { results := [.lit (.bool false)], args := [d] }
  | _ => none }
def FnExactGreedyTestsWrongFalsely : Prop := fnExactGreedyTestsRow.holds Try.pinned (OpenSpec.ofChange fnExactGreedyTestsWrong)

/-- 'laws.FnExactSortOn': WHATEVER THE INPUT: true; the input reads as it did. -/
def fnExactSortOnSpec : ChangeSpec := { name := "fnExactSortOn", fn := fun _ => fun
  | [d1, d2] => { results := [.lit (.bool true)], args := [d1, d2] }
  | _ => none }
def fnExactSortOnRow : OpenClaim := { program := "ytgdkihabphihoaa", sum := "38ff62e9997f78b0508ca49f4b26e3a59581154f3514dd6aa53ba9b8589c112b", func := "loop.example/g03207/laws.FnExactSortOn", spec := "fnExactSortOn", unfollowed := true, recurses := true, apart := false }
def FnExactSortOnSaid : Prop := fnExactSortOnRow.holds Try.pinned (OpenSpec.ofChange fnExactSortOnSpec)

/-- ITS FALSE NEIGHBOUR: 'it returns false'. Refute it at one input. -/
def fnExactSortOnWrong : ChangeSpec := { name := "fnExactSortOn", fn := fun _ => fun
  | [d1, d2] => { results := [.lit (.bool false)], args := [d1, d2] }
  | _ => none }
def FnExactSortOnWrongFalsely : Prop := fnExactSortOnRow.holds Try.pinned (OpenSpec.ofChange fnExactSortOnWrong)

/-- 'laws.FnExactPairwiseNetwork': WHATEVER THE INPUT: true; the input reads as it did. -/
def fnExactPairwiseNetworkSpec : ChangeSpec := { name := "fnExactPairwiseNetwork", fn := fun _ => fun
  | [d] => { results := [.lit (.bool true)], args := [d] }
  | _ => none }
def fnExactPairwiseNetworkRow : OpenClaim := { program := "ytgdkihabphihoaa", sum := "38ff62e9997f78b0508ca49f4b26e3a59581154f3514dd6aa53ba9b8589c112b", func := "loop.example/g03207/laws.FnExactPairwiseNetwork", spec := "fnExactPairwiseNetwork", recurses := true, apart := false }
def FnExactPairwiseNetworkSaid : Prop := fnExactPairwiseNetworkRow.holds Try.pinned (OpenSpec.ofChange fnExactPairwiseNetworkSpec)

/-- ITS FALSE NEIGHBOUR: 'it returns false'. Refute it at one input. -/
def fnExactPairwiseNetworkWrong : ChangeSpec := { name := "fnExactPairwiseNetwork", fn := fun _ => fun
  | [d] => { results := [.lit (.bool false)], args := [d] }
  | _ => none }
def FnExactPairwiseNetworkWrongFalsely : Prop := fnExactPairwiseNetworkRow.holds Try.pinned (OpenSpec.ofChange fnExactPairwiseNetworkWrong)

/-- 'laws.FnExactLeanNetwork': WHATEVER THE INPUT: true; the input reads as it did. -/
def fnExactLeanNetworkSpec : ChangeSpec := { name := "fnExactLeanNetwork", fn := fun _ => fun
  | [d] => { results := [.lit (.bool true)], args := [d] }
  | _ => none }
def fnExactLeanNetworkRow : OpenClaim := { program := "ytgdkihabphihoaa", sum := "38ff62e9997f78b0508ca49f4b26e3a59581154f3514dd6aa53ba9b8589c112b", func := "loop.example/g03207/laws.FnExactLeanNetwork", spec := "fnExactLeanNetwork", apart := false }
def FnExactLeanNetworkSaid : Prop := fnExactLeanNetworkRow.holds Try.pinned (OpenSpec.ofChange fnExactLeanNetworkSpec)

/-- ITS FALSE NEIGHBOUR: 'it returns false'. Refute it at one input. -/
def fnExactLeanNetworkWrong : ChangeSpec := { name := "fnExactLeanNetwork", fn := fun _ => fun
  | [d] => { results := [.lit (.bool false)], args := [d] }
  | _ => none }
def FnExactLeanNetworkWrongFalsely : Prop := fnExactLeanNetworkRow.holds Try.pinned (OpenSpec.ofChange fnExactLeanNetworkWrong)

/-- 'laws.FnExactMergeLists': WHATEVER THE INPUT: true; the input reads as it did. -/
def fnExactMergeListsSpec : ChangeSpec := { name := "fnExactMergeLists", fn := fun _ => fun
  | [d1, d2] => { results := [.lit (.bool true)], args := [d1, d2] }
  | _ => none }
def fnExactMergeListsRow : OpenClaim := { program := "ytgdkihabphihoaa", sum := "38ff62e9997f78b0508ca49f4b26e3a59581154f3514dd6aa53ba9b8589c112b", func := "loop.example/g03207/laws.FnExactMergeLists", spec := "fnExactMergeLists", recurses := true, apart := false }
def FnExactMergeListsSaid : Prop := fnExactMergeListsRow.holds Try.pinned (OpenSpec.ofChange fnExactMergeListsSpec)

/-- ITS FALSE NEIGHBOUR: 'it returns false'. Refute it at one input. -/
def fnExactMergeListsWrong : ChangeSpec := { name := "fnExactMergeLists", fn := fun _ => fun
  | [d1, d2] => { results := [.lit (.bool false)], args := [d1, d2] }
  | _ => none }
def FnExactMergeListsWrongFalsely : Prop := fnExactMergeListsRow.holds Try.pinned (OpenSpec.ofChange fnExactMergeListsWrong)

/-- 'laws.FnSelecting': WHATEVER THE INPUT: true; the input reads as it did. -/
def fnSelectingSpec : ChangeSpec := { name := "fnSelecting", fn := fun _ => fun
  | [d] => { results := [.lit (.bool true)], args := [d] }
  | _ => none }
def fnSelectingRow : OpenClaim := { program := "ytgdkihabphihoaa", sum := "38ff62e9997f78b0508ca49f4b26e3a59581154f3514dd6aa53ba9b8589c112b", func := "loop.example/g03207/laws.FnSelecting", spec := "fnSelecting", unfollowed := true, recurses := true, apart := false }
def FnSelectingSaid : Prop := fnSelectingRow.holds Try.pinned (OpenSpec.ofChange fnSelectingSpec)

/-- ITS FALSE NEIGHBOUR: 'it returns false'. Refute it at one input. -/
def fnSelectingWrong : ChangeSpec := { name := "fnSelecting", fn := fun _ => fun
  | [d] => { results := [.lit (.bool false)], args := [d] }
  | _ => none }
def FnSelectingWrongFalsely : Prop := fnSelectingRow.holds Try.pinned (OpenSpec.ofChange fnSelectingWrong)

/-- 'laws.FnFaults': WHATEVER THE INPUT: true; the input reads as it did. -/
def fnFaultsSpec : ChangeSpec := { name := "fnFaults", fn := fun _ => fun
  | [d] => { results := [.lit (.bool true)], args := [d] }
  | _ => none }
def fnFaultsRow : OpenClaim := { program := "ytgdkihabphihoaa", sum := "38ff62e9997f78b0508ca49f4b26e3a59581154f3514dd6aa53ba9b8589c112b", func := "loop.example/g03207/laws.FnFaults", spec := "fnFaults", unfollowed := true, recurses := true, apart := false }
def FnFaultsSaid : Prop := fnFaultsRow.holds Try.pinned (OpenSpec.ofChange fnFaultsSpec)

/-- ITS FALSE NEIGHBOUR: 'it returns false'. Refute it at one input. -/
def fnFaultsWrong : ChangeSpec := { name := "fnFaults", fn := fun _ => fun
  | [d] => { results := [.lit (.bool false)], args := [d] }
  | _ => none }
def FnFaultsWrongFalsely : Prop := fnFaultsRow.holds Try.pinned (OpenSpec.ofChange fnFaultsWrong)

/-- 'laws.FnIdle': WHATEVER THE INPUT: true; the input reads as it did. -/
def fnIdleSpec : ChangeSpec := { name := "fnIdle", fn := fun _ => fun
  | [d] => { results := [.lit (.bool true)], args := [d] }
  | _ => none }
def fnIdleRow : OpenClaim := { program := "ytgdkihabphihoaa", sum := "38ff62e9997f78b0508ca49f4b26e3a59581154f3514dd6aa53ba9b8589c112b", func := "loop.example/g03207/laws.FnIdle", spec := "fnIdle", recurses := true, apart := false }
def FnIdleSaid : Prop := fnIdleRow.holds Try.pinned (OpenSpec.ofChange fnIdleSpec)

/-- ITS FALSE NEIGHBOUR: 'it returns false'. Refute it at one input. -/
def fnIdleWrong : ChangeSpec := { name := "fnIdle", fn := fun _ => fun
  | [d] => { results := [.lit (.bool false)], args := [d] }
  | _ => none }
def FnIdleWrongFalsely : Prop := fnIdleRow.holds Try.pinned (OpenSpec.ofChange fnIdleWrong)

/-- 'laws.FnMerging': WHATEVER THE INPUT: true; the input reads as it did. -/
def fnMergingSpec : ChangeSpec := { name := "fnMerging", fn := fun _ => fun
  | [d] => { results := [.lit (.bool true)], args := [d] }
  | _ => none }
def fnMergingRow : OpenClaim := { program := "ytgdkihabphihoaa", sum := "38ff62e9997f78b0508ca49f4b26e3a59581154f3514dd6aa53ba9b8589c112b", func := "loop.example/g03207/laws.FnMerging", spec := "fnMerging", unfollowed := true, recurses := true, apart := false }
def FnMergingSaid : Prop := fnMergingRow.holds Try.pinned (OpenSpec.ofChange fnMergingSpec)

/-- ITS FALSE NEIGHBOUR: 'it returns false'. Refute it at one input. -/
def fnMergingWrong : ChangeSpec := { name := "fnMerging", fn := fun _ => fun
  | [d] => { results := [.lit (.bool false)], args := [d] }
  | _ => none }
def FnMergingWrongFalsely : Prop := fnMergingRow.holds Try.pinned (OpenSpec.ofChange fnMergingWrong)

/-- 'laws.FnSorters': WHATEVER THE INPUT: true; the input reads as it did. -/
def fnSortersSpec : ChangeSpec := { name := "fnSorters", fn := fun _ => fun
  | [d] => { results := [.lit (.bool true)], args := [d] }
  | _ => none }
def fnSortersRow : OpenClaim := { program := "ytgdkihabphihoaa", sum := "38ff62e9997f78b0508ca49f4b26e3a59581154f3514dd6aa53ba9b8589c112b", func := "loop.example/g03207/laws.FnSorters", spec := "fnSorters", unfollowed := true, recurses := true, apart := false }
def FnSortersSaid : Prop := fnSortersRow.holds Try.pinned (OpenSpec.ofChange fnSortersSpec)

/-- ITS FALSE NEIGHBOUR: 'it returns false'. Refute it at one input. -/
def fnSortersWrong : ChangeSpec := { name := "fnSorters", fn := fun _ => fun
  | [d] => { results := [.lit (.bool false)], args := [d] }
  | _ => none }
def FnSortersWrongFalsely : Prop := fnSortersRow.holds Try.pinned (OpenSpec.ofChange fnSortersWrong)

/-- 'laws.FnElementary': WHATEVER THE INPUT: true; the input reads as it did. -/
def fnElementarySpec : ChangeSpec := { name := "fnElementary", fn := fun _ => fun
  | [d] => { results := [.lit (.bool true)], args := [d] }
  | _ => none }
def fnElementaryRow : OpenClaim := { program := "ytgdkihabphihoaa", sum := "38ff62e9997f78b0508ca49f4b26e3a59581154f3514dd6aa53ba9b8589c112b", func := "loop.example/g03207/laws.FnElementary", spec := "fnElementary", unfollowed := true, recurses := true, apart := false }
def FnElementarySaid : Prop := fnElementaryRow.holds Try.pinned (OpenSpec.ofChange fnElementarySpec)

/-- ITS FALSE NEIGHBOUR: 'it returns false'. Refute it at one input. -/
def fnElementaryWrong : ChangeSpec := { name := "fnElementary", fn := fun _ => fun
  | [d] => { results := [.lit (.bool false)], args := [d] }
  | _ => none }
def FnElementaryWrongFalsely : Prop := fnElementaryRow.holds Try.pinned (OpenSpec.ofChange fnElementaryWrong)

/- THE SECOND FORM. 'bulk': how many values and letters a reading holds, each counted each time it is reached (what is shared counts as often as it is met; a slice's spare places count too). A statement '..UptoSaid' is the law's where the arguments, and the package variables that the reading takes, are together of bulk at most 1048576: NARROWER than '..Said'. Prove '..Said' where nothing that the law and all that it calls make is longer than what came in: it says more and counts as full. Else prove '..UptoSaid'. A law counts once. -/
mutual
def uptoBulk {H : Type} : DataW H → Nat
  | .lit (.string bytes) => bytes.length + 1
  | .lit _ => 1
  | .nil => 1
  | .ptr d => uptoBulk d + 1
  | .slice elems spare => uptoBulkAll elems + uptoBulkAll spare + 1
  | .agg parts => uptoBulkAll parts + 1
  | .iface _ d => uptoBulk d + 1
  | .map entries => uptoBulkEntries entries + 1
  | .held _ => 1
def uptoBulkAll {H : Type} : List (DataW H) → Nat
  | [] => 0
  | d :: r => uptoBulk d + uptoBulkAll r
def uptoBulkEntries {H : Type} : List (Lit × DataW H) → Nat
  | [] => 0
  | x :: r => uptoBulkEntry x + uptoBulkEntries r
def uptoBulkEntry {H : Type} : Lit × DataW H → Nat
  | (.string bytes, d) => bytes.length + uptoBulk d + 1
  | (_, d) => uptoBulk d + 1
 end
def uptoSmall : (H : Type) → List (DataW H) → Bool := fun _ ds => decide (uptoBulkAll ds ≤ 1048576)
def OpenSpec.upto (s : _root_.Go.ChangeSpec) : _root_.Go.OpenSpec := { _root_.Go.OpenSpec.ofChange s with cond := some uptoSmall }

/-- 'laws.FnExactIsLean', WHERE WHAT IT READS IS OF BULK AT MOST 1048576: true; the input reads as it did. -/
def fnExactIsLeanUptoRow : OpenClaim := { program := "ytgdkihabphihoaa", sum := "38ff62e9997f78b0508ca49f4b26e3a59581154f3514dd6aa53ba9b8589c112b", func := "loop.example/g03207/laws.FnExactIsLean", spec := "fnExactIsLean", apart := false, narrowed := true }
def FnExactIsLeanUptoSaid : Prop := fnExactIsLeanUptoRow.holds Try.pinned (OpenSpec.upto fnExactIsLeanSpec)

/-- 'laws.FnExactGreedyTests', WHERE WHAT IT READS IS OF BULK AT MOST 1048576: true; the input reads as it did. -/
def fnExactGreedyTestsUptoRow : OpenClaim := { program := "ytgdkihabphihoaa", sum := "38ff62e9997f78b0508ca49f4b26e3a59581154f3514dd6aa53ba9b8589c112b", func := "loop.example/g03207/laws.FnExactGreedyTests", spec := "fnExactGreedyTests", unfollowed := true, recurses := true, apart := false, narrowed := true }
def FnExactGreedyTestsUptoSaid : Prop := fnExactGreedyTestsUptoRow.holds Try.pinned (OpenSpec.upto fnExactGreedyTestsSpec)

/-- 'laws.FnExactSortOn', WHERE WHAT IT READS IS OF BULK AT MOST 1048576: true; the input reads as it did. -/
def fnExactSortOnUptoRow : OpenClaim := { program := "ytgdkihabphihoaa", sum := "38ff62e9997f78b0508ca49f4b26e3a59581154f3514dd6aa53ba9b8589c112b", func := "loop.example/g03207/laws.FnExactSortOn", spec := "fnExactSortOn", unfollowed := true, recurses := true, apart := false, narrowed := true }
def FnExactSortOnUptoSaid : Prop := fnExactSortOnUptoRow.holds Try.pinned (OpenSpec.upto fnExactSortOnSpec)

/-- 'laws.FnExactPairwiseNetwork', WHERE WHAT IT READS IS OF BULK AT MOST 1048576: true; the input reads as it did. -/
def fnExactPairwiseNetworkUptoRow : OpenClaim := { program := "ytgdkihabphihoaa", sum := "38ff62e9997f78b0508ca49f4b26e3a59581154f3514dd6aa53ba9b8589c112b", func := "loop.example/g03207/laws.FnExactPairwiseNetwork", spec := "fnExactPairwiseNetwork", recurses := true, apart := false, narrowed := true }
def FnExactPairwiseNetworkUptoSaid : Prop := fnExactPairwiseNetworkUptoRow.holds Try.pinned (OpenSpec.upto fnExactPairwiseNetworkSpec)

/-- 'laws.FnExactLeanNetwork', WHERE WHAT IT READS IS OF BULK AT MOST 1048576: true; the input reads as it did. -/
def fnExactLeanNetworkUptoRow : OpenClaim := { program := "ytgdkihabphihoaa", sum := "38ff62e9997f78b0508ca49f4b26e3a59581154f3514dd6aa53ba9b8589c112b", func := "loop.example/g03207/laws.FnExactLeanNetwork", spec := "fnExactLeanNetwork", apart := false, narrowed := true }
def FnExactLeanNetworkUptoSaid : Prop := fnExactLeanNetworkUptoRow.holds Try.pinned (OpenSpec.upto fnExactLeanNetworkSpec)

/-- 'laws.FnExactMergeLists', WHERE WHAT IT READS IS OF BULK AT MOST 1048576: true; the input reads as it did. -/
def fnExactMergeListsUptoRow : OpenClaim := { program := "ytgdkihabphihoaa", sum := "38ff62e9997f78b0508ca49f4b26e3a59581154f3514dd6aa53ba9b8589c112b", func := "loop.example/g03207/laws.FnExactMergeLists", spec := "fnExactMergeLists", recurses := true, apart := false, narrowed := true }
def FnExactMergeListsUptoSaid : Prop := fnExactMergeListsUptoRow.holds Try.pinned (OpenSpec.upto fnExactMergeListsSpec)

/-- 'laws.FnSelecting', WHERE WHAT IT READS IS OF BULK AT MOST 1048576: true; the input reads as it did. -/
def fnSelectingUptoRow : OpenClaim := { program := "ytgdkihabphihoaa", sum := "38ff62e9997f78b0508ca49f4b26e3a59581154f3514dd6aa53ba9b8589c112b", func := "loop.example/g03207/laws.FnSelecting", spec := "fnSelecting", unfollowed := true, recurses := true, apart := false, narrowed := true }
def FnSelectingUptoSaid : Prop := fnSelectingUptoRow.holds Try.pinned (OpenSpec.upto fnSelectingSpec)

/-- 'laws.FnFaults', WHERE WHAT IT READS IS OF BULK AT MOST 1048576: true; the input reads as it did. -/
def fnFaultsUptoRow : OpenClaim := { program := "ytgdkihabphihoaa", sum := "38ff62e9997f78b0508ca49f4b26e3a59581154f3514dd6aa53ba9b8589c112b", func := "loop.example/g03207/laws.FnFaults", spec := "fnFaults", unfollowed := true, recurses := true, apart := false, narrowed := true }
def FnFaultsUptoSaid : Prop := fnFaultsUptoRow.holds Try.pinned (OpenSpec.upto fnFaultsSpec)

/-- 'laws.FnIdle', WHERE WHAT IT READS IS OF BULK AT MOST 1048576: true; the input reads as it did. -/
def fnIdleUptoRow : OpenClaim := { program := "ytgdkihabphihoaa", sum := "38ff62e9997f78b0508ca49f4b26e3a59581154f3514dd6aa53ba9b8589c112b", func := "loop.example/g03207/laws.FnIdle", spec := "fnIdle", recurses := true, apart := false, narrowed := true }
def FnIdleUptoSaid : Prop := fnIdleUptoRow.holds Try.pinned (OpenSpec.upto fnIdleSpec)

/-- 'laws.FnMerging', WHERE WHAT IT READS IS OF BULK AT MOST 1048576: true; the input reads as it did. -/
def fnMergingUptoRow : OpenClaim := { program := "ytgdkihabphihoaa", sum := "38ff62e9997f78b0508ca49f4b26e3a59581154f3514dd6aa53ba9b8589c112b", func := "loop.example/g03207/laws.FnMerging", spec := "fnMerging", unfollowed := true, recurses := true, apart := false, narrowed := true }
def FnMergingUptoSaid : Prop := fnMergingUptoRow.holds Try.pinned (OpenSpec.upto fnMergingSpec)

/-- 'laws.FnSorters', WHERE WHAT IT READS IS OF BULK AT MOST 1048576: true; the input reads as it did. -/
def fnSortersUptoRow : OpenClaim := { program := "ytgdkihabphihoaa", sum := "38ff62e9997f78b0508ca49f4b26e3a59581154f3514dd6aa53ba9b8589c112b", func := "loop.example/g03207/laws.FnSorters", spec := "fnSorters", unfollowed := true, recurses := true, apart := false, narrowed := true }
def FnSortersUptoSaid : Prop := fnSortersUptoRow.holds Try.pinned (OpenSpec.upto fnSortersSpec)

/-- 'laws.FnElementary', WHERE WHAT IT READS IS OF BULK AT MOST 1048576: true; the input reads as it did. -/
def fnElementaryUptoRow : OpenClaim := { program := "ytgdkihabphihoaa", sum := "38ff62e9997f78b0508ca49f4b26e3a59581154f3514dd6aa53ba9b8589c112b", func := "loop.example/g03207/laws.FnElementary", spec := "fnElementary", unfollowed := true, recurses := true, apart := false, narrowed := true }
def FnElementaryUptoSaid : Prop := fnElementaryUptoRow.holds Try.pinned (OpenSpec.upto fnElementarySpec)

end Rows
end Go.Proofs.Ytgdkihabphihoaa
