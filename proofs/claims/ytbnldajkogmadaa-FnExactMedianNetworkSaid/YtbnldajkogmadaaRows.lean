/-
  No cell of these rows narrows 'for every input' (looked for: loops, veiled, ifaces, maps, wideKeys, modest, calm, conditions, laid).
  DERIVED. THE GIVEN ROWS OF THIS SEAT. 12 by the template 'for every input the law returns true; each argument reads behind the call as it read before'; 0 by the template 'total and deterministic' (their statements: YtbnldajkogmadaaTotals.lean).
  GIVEN WITH THE SEED: the statements are not yours to turn. If you find one false, say at which input.
  Laid BY PROGRAM, IN A SANDBOX (cutbox-rows.mjs): the forced cells as the released guide's own fill.sh prints them over the translation 6a9a06635e0c07a4… (all of the seat's roots in one cut). By AI agents, Wed Nov 11 2026. No macro, syntax, notation, axiom, sorry.
-/
import Derived.Test.YtbnldajkogmadaaChecked
import GoSem.Claim
import GoSem.ClaimJoined
import GoSem.ClaimMapViews
import Derived.JoinedTies
import Derived.KernelRfl
namespace Go.Proofs.Ytbnldajkogmadaa
/- THE CELL 'sum', in the pinned program and in every row, IS THE sha256 OF THE DUMP (.gsa) THAT YtbnldajkogmadaaProg.lean LOADS. Nothing in Lean hashes anything: it is a label: what it is worth is what the hold of that sum in a sandbox is worth. -/
noncomputable def Try.pinned : Pinned := { name := "ytbnldajkogmadaa", sum := "6a9a06635e0c07a4e2d4b6f87262a9bfc5289298dddcc9b3ef42ba21a32f6eea", checked := Try.checked }
namespace Rows
def none {H : Type} : Left H := { results := [], args := [] }

/-- 'laws.FnExactMergesBitonic': WHATEVER THE INPUT: true; the input reads as it did. -/
def fnExactMergesBitonicSpec : ChangeSpec := { name := "fnExactMergesBitonic", fn := fun _ => fun
  | [d] => { results := [.lit (.bool true)], args := [d] }
  | _ => none }
def fnExactMergesBitonicRow : OpenClaim := { program := "ytbnldajkogmadaa", sum := "6a9a06635e0c07a4e2d4b6f87262a9bfc5289298dddcc9b3ef42ba21a32f6eea", func := "loop.example/g03207/laws.FnExactMergesBitonic", spec := "fnExactMergesBitonic", apart := false }
def FnExactMergesBitonicSaid : Prop := fnExactMergesBitonicRow.holds Try.pinned (OpenSpec.ofChange fnExactMergesBitonicSpec)

/-- ITS FALSE NEIGHBOUR: 'it returns false'. Refute it at one input. -/
def fnExactMergesBitonicWrong : ChangeSpec := { name := "fnExactMergesBitonic", fn := fun _ => fun
  | [d] => { results := [.lit (.bool false)], args := [d] }
  | _ => none }
def FnExactMergesBitonicWrongFalsely : Prop := fnExactMergesBitonicRow.holds Try.pinned (OpenSpec.ofChange fnExactMergesBitonicWrong)

/-- 'laws.FnExactTestsFor': WHATEVER THE INPUT: true; the input reads as it did. -/
def fnExactTestsForSpec : ChangeSpec := { name := "fnExactTestsFor", fn := fun _ => fun
  | [d1, d2, d3] => { results := [.lit (.bool true)], args := [d1, d2, d3] }
  | _ => none }
def fnExactTestsForRow : OpenClaim := { program := "ytbnldajkogmadaa", sum := "6a9a06635e0c07a4e2d4b6f87262a9bfc5289298dddcc9b3ef42ba21a32f6eea", func := "loop.example/g03207/laws.FnExactTestsFor", spec := "fnExactTestsFor", apart := false }
def FnExactTestsForSaid : Prop := fnExactTestsForRow.holds Try.pinned (OpenSpec.ofChange fnExactTestsForSpec)

/-- ITS FALSE NEIGHBOUR: 'it returns false'. Refute it at one input. -/
def fnExactTestsForWrong : ChangeSpec := { name := "fnExactTestsFor", fn := fun _ => fun
  | [d1, d2, d3] => { results := [.lit (.bool false)], args := [d1, d2, d3] }
  | _ => none }
def FnExactTestsForWrongFalsely : Prop := fnExactTestsForRow.holds Try.pinned (OpenSpec.ofChange fnExactTestsForWrong)

/-- 'laws.FnExactMergesToRank': WHATEVER THE INPUT: true; the input reads as it did. -/
def fnExactMergesToRankSpec : ChangeSpec := { name := "fnExactMergesToRank", fn := fun _ => fun
  | [d1, d2, d3] => { results := [.lit (.bool true)], args := [d1, d2, d3] }
  | _ => none }
def fnExactMergesToRankRow : OpenClaim := { program := "ytbnldajkogmadaa", sum := "6a9a06635e0c07a4e2d4b6f87262a9bfc5289298dddcc9b3ef42ba21a32f6eea", func := "loop.example/g03207/laws.FnExactMergesToRank", spec := "fnExactMergesToRank", unfollowed := true, recurses := true, apart := false }
def FnExactMergesToRankSaid : Prop := fnExactMergesToRankRow.holds Try.pinned (OpenSpec.ofChange fnExactMergesToRankSpec)

/-- ITS FALSE NEIGHBOUR: 'it returns false'. Refute it at one input. -/
def fnExactMergesToRankWrong : ChangeSpec := { name := "fnExactMergesToRank", fn := fun _ => fun
  | [d1, d2, d3] => { results := [.lit (.bool false)], args := [d1, d2, d3] }
  | _ => none }
def FnExactMergesToRankWrongFalsely : Prop := fnExactMergesToRankRow.holds Try.pinned (OpenSpec.ofChange fnExactMergesToRankWrong)

/-- 'laws.FnExactStillSorts': WHATEVER THE INPUT: true; the input reads as it did. -/
def fnExactStillSortsSpec : ChangeSpec := { name := "fnExactStillSorts", fn := fun _ => fun
  | [d1, d2, d3] => { results := [.lit (.bool true)], args := [d1, d2, d3] }
  | _ => none }
def fnExactStillSortsRow : OpenClaim := { program := "ytbnldajkogmadaa", sum := "6a9a06635e0c07a4e2d4b6f87262a9bfc5289298dddcc9b3ef42ba21a32f6eea", func := "loop.example/g03207/laws.FnExactStillSorts", spec := "fnExactStillSorts", apart := false }
def FnExactStillSortsSaid : Prop := fnExactStillSortsRow.holds Try.pinned (OpenSpec.ofChange fnExactStillSortsSpec)

/-- ITS FALSE NEIGHBOUR: 'it returns false'. Refute it at one input. -/
def fnExactStillSortsWrong : ChangeSpec := { name := "fnExactStillSorts", fn := fun _ => fun
  | [d1, d2, d3] => { results := [.lit (.bool false)], args := [d1, d2, d3] }
  | _ => none }
def FnExactStillSortsWrongFalsely : Prop := fnExactStillSortsRow.holds Try.pinned (OpenSpec.ofChange fnExactStillSortsWrong)

/-- 'laws.FnExactIsShortest': WHATEVER THE INPUT: true; the input reads as it did. -/
def fnExactIsShortestSpec : ChangeSpec := { name := "fnExactIsShortest", fn := fun _ => fun
  | [d] => { results := [.lit (.bool true)], args := [d] }
  | _ => none }
def fnExactIsShortestRow : OpenClaim := { program := "ytbnldajkogmadaa", sum := "6a9a06635e0c07a4e2d4b6f87262a9bfc5289298dddcc9b3ef42ba21a32f6eea", func := "loop.example/g03207/laws.FnExactIsShortest", spec := "fnExactIsShortest", apart := false }
def FnExactIsShortestSaid : Prop := fnExactIsShortestRow.holds Try.pinned (OpenSpec.ofChange fnExactIsShortestSpec)

/-- ITS FALSE NEIGHBOUR: 'it returns false'. Refute it at one input. -/
def fnExactIsShortestWrong : ChangeSpec := { name := "fnExactIsShortest", fn := fun _ => fun
  | [d] => { results := [.lit (.bool false)], args := [d] }
  | _ => none }
def FnExactIsShortestWrongFalsely : Prop := fnExactIsShortestRow.holds Try.pinned (OpenSpec.ofChange fnExactIsShortestWrong)

/-- 'laws.FnExactSafeNetwork': WHATEVER THE INPUT: true; the input reads as it did. -/
def fnExactSafeNetworkSpec : ChangeSpec := { name := "fnExactSafeNetwork", fn := fun _ => fun
  | [d] => { results := [.lit (.bool true)], args := [d] }
  | _ => none }
def fnExactSafeNetworkRow : OpenClaim := { program := "ytbnldajkogmadaa", sum := "6a9a06635e0c07a4e2d4b6f87262a9bfc5289298dddcc9b3ef42ba21a32f6eea", func := "loop.example/g03207/laws.FnExactSafeNetwork", spec := "fnExactSafeNetwork", apart := false }
def FnExactSafeNetworkSaid : Prop := fnExactSafeNetworkRow.holds Try.pinned (OpenSpec.ofChange fnExactSafeNetworkSpec)

/-- ITS FALSE NEIGHBOUR: 'it returns false'. Refute it at one input. -/
def fnExactSafeNetworkWrong : ChangeSpec := { name := "fnExactSafeNetwork", fn := fun _ => fun
  | [d] => { results := [.lit (.bool false)], args := [d] }
  | _ => none }
def FnExactSafeNetworkWrongFalsely : Prop := fnExactSafeNetworkRow.holds Try.pinned (OpenSpec.ofChange fnExactSafeNetworkWrong)

/-- 'laws.FnExactHiddenFaults': WHATEVER THE INPUT: true; the input reads as it did. -/
def fnExactHiddenFaultsSpec : ChangeSpec := { name := "fnExactHiddenFaults", fn := fun _ => fun
  | [d] => { results := [.lit (.bool true)], args := [d] }
  | _ => none }
def fnExactHiddenFaultsRow : OpenClaim := { program := "ytbnldajkogmadaa", sum := "6a9a06635e0c07a4e2d4b6f87262a9bfc5289298dddcc9b3ef42ba21a32f6eea", func := "loop.example/g03207/laws.FnExactHiddenFaults", spec := "fnExactHiddenFaults", unfollowed := true, recurses := true, apart := false }
def FnExactHiddenFaultsSaid : Prop := fnExactHiddenFaultsRow.holds Try.pinned (OpenSpec.ofChange fnExactHiddenFaultsSpec)

/-- ITS FALSE NEIGHBOUR: 'it returns false'. Refute it at one input. -/
def fnExactHiddenFaultsWrong : ChangeSpec := { name := "fnExactHiddenFaults", fn := fun _ => fun
  | [d] => { results := [.lit (.bool false)], args := [d] }
  | _ => none }
def FnExactHiddenFaultsWrongFalsely : Prop := fnExactHiddenFaultsRow.holds Try.pinned (OpenSpec.ofChange fnExactHiddenFaultsWrong)

/-- 'laws.FnExactFoundBy': WHATEVER THE INPUT: true; the input reads as it did. -/
def fnExactFoundBySpec : ChangeSpec := { name := "fnExactFoundBy", fn := fun _ => fun
  | [d1, d2] => { results := [.lit (.bool true)], args := [d1, d2] }
  | _ => none }
def fnExactFoundByRow : OpenClaim := { program := "ytbnldajkogmadaa", sum := "6a9a06635e0c07a4e2d4b6f87262a9bfc5289298dddcc9b3ef42ba21a32f6eea", func := "loop.example/g03207/laws.FnExactFoundBy", spec := "fnExactFoundBy", unfollowed := true, recurses := true, apart := false }
def FnExactFoundBySaid : Prop := fnExactFoundByRow.holds Try.pinned (OpenSpec.ofChange fnExactFoundBySpec)

/-- ITS FALSE NEIGHBOUR: 'it returns false'. Refute it at one input. -/
def fnExactFoundByWrong : ChangeSpec := { name := "fnExactFoundBy", fn := fun _ => fun
  | [d1, d2] => { results := [.lit (.bool false)], args := [d1, d2] }
  | _ => none }
def FnExactFoundByWrongFalsely : Prop := fnExactFoundByRow.holds Try.pinned (OpenSpec.ofChange fnExactFoundByWrong)

/-- 'laws.FnExactIsLean': WHATEVER THE INPUT: true; the input reads as it did. -/
def fnExactIsLeanSpec : ChangeSpec := { name := "fnExactIsLean", fn := fun _ => fun
  | [d] => { results := [.lit (.bool true)], args := [d] }
  | _ => none }
def fnExactIsLeanRow : OpenClaim := { program := "ytbnldajkogmadaa", sum := "6a9a06635e0c07a4e2d4b6f87262a9bfc5289298dddcc9b3ef42ba21a32f6eea", func := "loop.example/g03207/laws.FnExactIsLean", spec := "fnExactIsLean", apart := false }
def FnExactIsLeanSaid : Prop := fnExactIsLeanRow.holds Try.pinned (OpenSpec.ofChange fnExactIsLeanSpec)

/-- ITS FALSE NEIGHBOUR: 'it returns false'. Refute it at one input. -/
def fnExactIsLeanWrong : ChangeSpec := { name := "fnExactIsLean", fn := fun _ => fun
  | [d] => { results := [.lit (.bool false)], args := [d] }
  | _ => none }
def FnExactIsLeanWrongFalsely : Prop := fnExactIsLeanRow.holds Try.pinned (OpenSpec.ofChange fnExactIsLeanWrong)

/-- 'laws.FnExactGreedyTests': WHATEVER THE INPUT: true; the input reads as it did. -/
def fnExactGreedyTestsSpec : ChangeSpec := { name := "fnExactGreedyTests", fn := fun _ => fun
  | [d] => { results := [.lit (.bool true)], args := [d] }
  | _ => none }
def fnExactGreedyTestsRow : OpenClaim := { program := "ytbnldajkogmadaa", sum := "6a9a06635e0c07a4e2d4b6f87262a9bfc5289298dddcc9b3ef42ba21a32f6eea", func := "loop.example/g03207/laws.FnExactGreedyTests", spec := "fnExactGreedyTests", unfollowed := true, recurses := true, apart := false }
def FnExactGreedyTestsSaid : Prop := fnExactGreedyTestsRow.holds Try.pinned (OpenSpec.ofChange fnExactGreedyTestsSpec)

/-- ITS FALSE NEIGHBOUR: 'it returns false'. Refute it at one input. -/
def fnExactGreedyTestsWrong : ChangeSpec := { name := "fnExactGreedyTests", fn := fun _ => fun
  | [d] => { results := [.lit (.bool false)], args := [d] }
  | _ => none }
def FnExactGreedyTestsWrongFalsely : Prop := fnExactGreedyTestsRow.holds Try.pinned (OpenSpec.ofChange fnExactGreedyTestsWrong)

/-- 'laws.FnExactMedianNetwork': WHATEVER THE INPUT: true; the input reads as it did. -/
def fnExactMedianNetworkSpec : ChangeSpec := { name := "fnExactMedianNetwork", fn := fun _ => fun
  | [d] => { results := [.lit (.bool true)], args := [d] }
  | _ => none }
def fnExactMedianNetworkRow : OpenClaim := { program := "ytbnldajkogmadaa", sum := "6a9a06635e0c07a4e2d4b6f87262a9bfc5289298dddcc9b3ef42ba21a32f6eea", func := "loop.example/g03207/laws.FnExactMedianNetwork", spec := "fnExactMedianNetwork", recurses := true, apart := false }
def FnExactMedianNetworkSaid : Prop := fnExactMedianNetworkRow.holds Try.pinned (OpenSpec.ofChange fnExactMedianNetworkSpec)

/-- ITS FALSE NEIGHBOUR: 'it returns false'. Refute it at one input. -/
def fnExactMedianNetworkWrong : ChangeSpec := { name := "fnExactMedianNetwork", fn := fun _ => fun
  | [d] => { results := [.lit (.bool false)], args := [d] }
  | _ => none }
def FnExactMedianNetworkWrongFalsely : Prop := fnExactMedianNetworkRow.holds Try.pinned (OpenSpec.ofChange fnExactMedianNetworkWrong)

/-- 'laws.FnExactSortOn': WHATEVER THE INPUT: true; the input reads as it did. -/
def fnExactSortOnSpec : ChangeSpec := { name := "fnExactSortOn", fn := fun _ => fun
  | [d1, d2] => { results := [.lit (.bool true)], args := [d1, d2] }
  | _ => none }
def fnExactSortOnRow : OpenClaim := { program := "ytbnldajkogmadaa", sum := "6a9a06635e0c07a4e2d4b6f87262a9bfc5289298dddcc9b3ef42ba21a32f6eea", func := "loop.example/g03207/laws.FnExactSortOn", spec := "fnExactSortOn", unfollowed := true, recurses := true, apart := false }
def FnExactSortOnSaid : Prop := fnExactSortOnRow.holds Try.pinned (OpenSpec.ofChange fnExactSortOnSpec)

/-- ITS FALSE NEIGHBOUR: 'it returns false'. Refute it at one input. -/
def fnExactSortOnWrong : ChangeSpec := { name := "fnExactSortOn", fn := fun _ => fun
  | [d1, d2] => { results := [.lit (.bool false)], args := [d1, d2] }
  | _ => none }
def FnExactSortOnWrongFalsely : Prop := fnExactSortOnRow.holds Try.pinned (OpenSpec.ofChange fnExactSortOnWrong)

/- THE SECOND FORM. 'bulk': how many values and letters a reading holds, each counted each time it is reached (what is shared counts as often as it is met; a slice's spare places count too). A statement '..UptoSaid' is the law's where the arguments, and the package variables that the reading takes, are together of bulk at most 1048576: NARROWER than '..Said'. Prove '..Said' where nothing that the law and all that it calls make is longer than what came in: it says more and counts as full. Else prove '..UptoSaid'. A law counts once. -/
mutual
def uptoBulk {H : Type} : DataW H → Nat
  | .lit (.string bytes) => bytes.length + 1
  | .lit _ => 1
  | .nil => 1
  | .ptr d => uptoBulk d + 1
  | .slice elems spare => uptoBulkAll elems + uptoBulkAll spare + 1
  | .agg parts => uptoBulkAll parts + 1
  | .iface _ d => uptoBulk d + 1
  | .map entries => uptoBulkEntries entries + 1
  | .held _ => 1
def uptoBulkAll {H : Type} : List (DataW H) → Nat
  | [] => 0
  | d :: r => uptoBulk d + uptoBulkAll r
def uptoBulkEntries {H : Type} : List (Lit × DataW H) → Nat
  | [] => 0
  | x :: r => uptoBulkEntry x + uptoBulkEntries r
def uptoBulkEntry {H : Type} : Lit × DataW H → Nat
  | (.string bytes, d) => bytes.length + uptoBulk d + 1
  | (_, d) => uptoBulk d + 1
 end
def uptoSmall : (H : Type) → List (DataW H) → Bool := fun _ ds => decide (uptoBulkAll ds ≤ 1048576)
def OpenSpec.upto (s : _root_.Go.ChangeSpec) : _root_.Go.OpenSpec := { _root_.Go.OpenSpec.ofChange s with cond := some uptoSmall }

/-- 'laws.FnExactMergesBitonic', WHERE WHAT IT READS IS OF BULK AT MOST 1048576: true; the input reads as it did. -/
def fnExactMergesBitonicUptoRow : OpenClaim := { program := "ytbnldajkogmadaa", sum := "6a9a06635e0c07a4e2d4b6f87262a9bfc5289298dddcc9b3ef42ba21a32f6eea", func := "loop.example/g03207/laws.FnExactMergesBitonic", spec := "fnExactMergesBitonic", apart := false, narrowed := true }
def FnExactMergesBitonicUptoSaid : Prop := fnExactMergesBitonicUptoRow.holds Try.pinned (OpenSpec.upto fnExactMergesBitonicSpec)

/-- 'laws.FnExactTestsFor', WHERE WHAT IT READS IS OF BULK AT MOST 1048576: true; the input reads as it did. -/
def fnExactTestsForUptoRow : OpenClaim := { program := "ytbnldajkogmadaa", sum := "6a9a06635e0c07a4e2d4b6f87262a9bfc5289298dddcc9b3ef42ba21a32f6eea", func := "loop.example/g03207/laws.FnExactTestsFor", spec := "fnExactTestsFor", apart := false, narrowed := true }
def FnExactTestsForUptoSaid : Prop := fnExactTestsForUptoRow.holds Try.pinned (OpenSpec.upto fnExactTestsForSpec)

/-- 'laws.FnExactMergesToRank', WHERE WHAT IT READS IS OF BULK AT MOST 1048576: true; the input reads as it did. -/
def fnExactMergesToRankUptoRow : OpenClaim := { program := "ytbnldajkogmadaa", sum := "6a9a06635e0c07a4e2d4b6f87262a9bfc5289298dddcc9b3ef42ba21a32f6eea", func := "loop.example/g03207/laws.FnExactMergesToRank", spec := "fnExactMergesToRank", unfollowed := true, recurses := true, apart := false, narrowed := true }
def FnExactMergesToRankUptoSaid : Prop := fnExactMergesToRankUptoRow.holds Try.pinned (OpenSpec.upto fnExactMergesToRankSpec)

/-- 'laws.FnExactStillSorts', WHERE WHAT IT READS IS OF BULK AT MOST 1048576: true; the input reads as it did. -/
def fnExactStillSortsUptoRow : OpenClaim := { program := "ytbnldajkogmadaa", sum := "6a9a06635e0c07a4e2d4b6f87262a9bfc5289298dddcc9b3ef42ba21a32f6eea", func := "loop.example/g03207/laws.FnExactStillSorts", spec := "fnExactStillSorts", apart := false, narrowed := true }
def FnExactStillSortsUptoSaid : Prop := fnExactStillSortsUptoRow.holds Try.pinned (OpenSpec.upto fnExactStillSortsSpec)

/-- 'laws.FnExactIsShortest', WHERE WHAT IT READS IS OF BULK AT MOST 1048576: true; the input reads as it did. -/
def fnExactIsShortestUptoRow : OpenClaim := { program := "ytbnldajkogmadaa", sum := "6a9a06635e0c07a4e2d4b6f87262a9bfc5289298dddcc9b3ef42ba21a32f6eea", func := "loop.example/g03207/laws.FnExactIsShortest", spec := "fnExactIsShortest", apart := false, narrowed := true }
def FnExactIsShortestUptoSaid : Prop := fnExactIsShortestUptoRow.holds Try.pinned (OpenSpec.upto fnExactIsShortestSpec)

/-- 'laws.FnExactSafeNetwork', WHERE WHAT IT READS IS OF BULK AT MOST 1048576: true; the input reads as it did. -/
def fnExactSafeNetworkUptoRow : OpenClaim := { program := "ytbnldajkogmadaa", sum := "6a9a06635e0c07a4e2d4b6f87262a9bfc5289298dddcc9b3ef42ba21a32f6eea", func := "loop.example/g03207/laws.FnExactSafeNetwork", spec := "fnExactSafeNetwork", apart := false, narrowed := true }
def FnExactSafeNetworkUptoSaid : Prop := fnExactSafeNetworkUptoRow.holds Try.pinned (OpenSpec.upto fnExactSafeNetworkSpec)

/-- 'laws.FnExactHiddenFaults', WHERE WHAT IT READS IS OF BULK AT MOST 1048576: true; the input reads as it did. -/
def fnExactHiddenFaultsUptoRow : OpenClaim := { program := "ytbnldajkogmadaa", sum := "6a9a06635e0c07a4e2d4b6f87262a9bfc5289298dddcc9b3ef42ba21a32f6eea", func := "loop.example/g03207/laws.FnExactHiddenFaults", spec := "fnExactHiddenFaults", unfollowed := true, recurses := true, apart := false, narrowed := true }
def FnExactHiddenFaultsUptoSaid : Prop := fnExactHiddenFaultsUptoRow.holds Try.pinned (OpenSpec.upto fnExactHiddenFaultsSpec)

/-- 'laws.FnExactFoundBy', WHERE WHAT IT READS IS OF BULK AT MOST 1048576: true; the input reads as it did. -/
def fnExactFoundByUptoRow : OpenClaim := { program := "ytbnldajkogmadaa", sum := "6a9a06635e0c07a4e2d4b6f87262a9bfc5289298dddcc9b3ef42ba21a32f6eea", func := "loop.example/g03207/laws.FnExactFoundBy", spec := "fnExactFoundBy", unfollowed := true, recurses := true, apart := false, narrowed := true }
def FnExactFoundByUptoSaid : Prop := fnExactFoundByUptoRow.holds Try.pinned (OpenSpec.upto fnExactFoundBySpec)

/-- 'laws.FnExactIsLean', WHERE WHAT IT READS IS OF BULK AT MOST 1048576: true; the input reads as it did. -/
def fnExactIsLeanUptoRow : OpenClaim := { program := "ytbnldajkogmadaa", sum := "6a9a06635e0c07a4e2d4b6f87262a9bfc5289298dddcc9b3ef42ba21a32f6eea", func := "loop.example/g03207/laws.FnExactIsLean", spec := "fnExactIsLean", apart := false, narrowed := true }
def FnExactIsLeanUptoSaid : Prop := fnExactIsLeanUptoRow.holds Try.pinned (OpenSpec.upto fnExactIsLeanSpec)

/-- 'laws.FnExactGreedyTests', WHERE WHAT IT READS IS OF BULK AT MOST 1048576: true; the input reads as it did. -/
def fnExactGreedyTestsUptoRow : OpenClaim := { program := "ytbnldajkogmadaa", sum := "6a9a06635e0c07a4e2d4b6f87262a9bfc5289298dddcc9b3ef42ba21a32f6eea", func := "loop.example/g03207/laws.FnExactGreedyTests", spec := "fnExactGreedyTests", unfollowed := true, recurses := true, apart := false, narrowed := true }
def FnExactGreedyTestsUptoSaid : Prop := fnExactGreedyTestsUptoRow.holds Try.pinned (OpenSpec.upto fnExactGreedyTestsSpec)

/-- 'laws.FnExactMedianNetwork', WHERE WHAT IT READS IS OF BULK AT MOST 1048576: true; the input reads as it did. -/
def fnExactMedianNetworkUptoRow : OpenClaim := { program := "ytbnldajkogmadaa", sum := "6a9a06635e0c07a4e2d4b6f87262a9bfc5289298dddcc9b3ef42ba21a32f6eea", func := "loop.example/g03207/laws.FnExactMedianNetwork", spec := "fnExactMedianNetwork", recurses := true, apart := false, narrowed := true }
def FnExactMedianNetworkUptoSaid : Prop := fnExactMedianNetworkUptoRow.holds Try.pinned (OpenSpec.upto fnExactMedianNetworkSpec)

/-- 'laws.FnExactSortOn', WHERE WHAT IT READS IS OF BULK AT MOST 1048576: true; the input reads as it did. -/
def fnExactSortOnUptoRow : OpenClaim := { program := "ytbnldajkogmadaa", sum := "6a9a06635e0c07a4e2d4b6f87262a9bfc5289298dddcc9b3ef42ba21a32f6eea", func := "loop.example/g03207/laws.FnExactSortOn", spec := "fnExactSortOn", unfollowed := true, recurses := true, apart := false, narrowed := true }
def FnExactSortOnUptoSaid : Prop := fnExactSortOnUptoRow.holds Try.pinned (OpenSpec.upto fnExactSortOnSpec)

end Rows
end Go.Proofs.Ytbnldajkogmadaa
