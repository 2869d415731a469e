/-
  No cell of these rows narrows 'for every input' (looked for: loops, veiled, ifaces, maps, wideKeys, modest, calm, conditions, laid).
  DERIVED. THE GIVEN ROWS OF THIS SEAT. 9 by the template 'for every input the law returns true; each argument reads behind the call as it read before'; 0 by the template 'total and deterministic' (their statements: YtiodolbgapjmkaaTotals.lean).
  GIVEN WITH THE SEED: the statements are not yours to turn. If you find one false, say at which input.
  Laid BY PROGRAM, IN A SANDBOX (cutbox-rows.mjs): the forced cells as the released guide's own fill.sh prints them over the translation 394d713e87c4f121… (all of the seat's roots in one cut). By AI agents, Wed Nov 11 2026. No macro, syntax, notation, axiom, sorry.
-/
import Derived.Test.YtiodolbgapjmkaaChecked
import GoSem.Claim
import GoSem.ClaimJoined
import GoSem.ClaimMapViews
import Derived.JoinedTies
import Derived.KernelRfl
namespace Go.Proofs.Ytiodolbgapjmkaa
/- THE CELL 'sum', in the pinned program and in every row, IS THE sha256 OF THE DUMP (.gsa) THAT YtiodolbgapjmkaaProg.lean LOADS. Nothing in Lean hashes anything: it is a label: what it is worth is what the hold of that sum in a sandbox is worth. -/
noncomputable def Try.pinned : Pinned := { name := "ytiodolbgapjmkaa", sum := "394d713e87c4f1218b7beba4790af0f03e9cf1ee02ffc67ca726a7f68f1e0ddf", checked := Try.checked }
namespace Rows
def none {H : Type} : Left H := { results := [], args := [] }

/-- 'laws.FnExactMergeLists': WHATEVER THE INPUT: true; the input reads as it did. -/
def fnExactMergeListsSpec : ChangeSpec := { name := "fnExactMergeLists", fn := fun _ => fun
  | [d1, d2] => { results := [.lit (.bool true)], args := [d1, d2] }
  | _ => none }
def fnExactMergeListsRow : OpenClaim := { program := "ytiodolbgapjmkaa", sum := "394d713e87c4f1218b7beba4790af0f03e9cf1ee02ffc67ca726a7f68f1e0ddf", func := "loop.example/g03207/laws.FnExactMergeLists", spec := "fnExactMergeLists", recurses := true, apart := false }
def FnExactMergeListsSaid : Prop := fnExactMergeListsRow.holds Try.pinned (OpenSpec.ofChange fnExactMergeListsSpec)

/-- ITS FALSE NEIGHBOUR: 'it returns false'. Refute it at one input. -/
def fnExactMergeListsWrong : ChangeSpec := { name := "fnExactMergeLists", fn := fun _ => fun
  | [d1, d2] => { results := [.lit (.bool false)], args := [d1, d2] }
  | _ => none }
def FnExactMergeListsWrongFalsely : Prop := fnExactMergeListsRow.holds Try.pinned (OpenSpec.ofChange fnExactMergeListsWrong)

/-- 'laws.FnFaults': WHATEVER THE INPUT: true; the input reads as it did. -/
def fnFaultsSpec : ChangeSpec := { name := "fnFaults", fn := fun _ => fun
  | [d] => { results := [.lit (.bool true)], args := [d] }
  | _ => none }
def fnFaultsRow : OpenClaim := { program := "ytiodolbgapjmkaa", sum := "394d713e87c4f1218b7beba4790af0f03e9cf1ee02ffc67ca726a7f68f1e0ddf", func := "loop.example/g03207/laws.FnFaults", spec := "fnFaults", unfollowed := true, recurses := true, apart := false }
def FnFaultsSaid : Prop := fnFaultsRow.holds Try.pinned (OpenSpec.ofChange fnFaultsSpec)

/-- ITS FALSE NEIGHBOUR: 'it returns false'. Refute it at one input. -/
def fnFaultsWrong : ChangeSpec := { name := "fnFaults", fn := fun _ => fun
  | [d] => { results := [.lit (.bool false)], args := [d] }
  | _ => none }
def FnFaultsWrongFalsely : Prop := fnFaultsRow.holds Try.pinned (OpenSpec.ofChange fnFaultsWrong)

/-- 'laws.FnMerging': WHATEVER THE INPUT: true; the input reads as it did. -/
def fnMergingSpec : ChangeSpec := { name := "fnMerging", fn := fun _ => fun
  | [d] => { results := [.lit (.bool true)], args := [d] }
  | _ => none }
def fnMergingRow : OpenClaim := { program := "ytiodolbgapjmkaa", sum := "394d713e87c4f1218b7beba4790af0f03e9cf1ee02ffc67ca726a7f68f1e0ddf", func := "loop.example/g03207/laws.FnMerging", spec := "fnMerging", unfollowed := true, recurses := true, apart := false }
def FnMergingSaid : Prop := fnMergingRow.holds Try.pinned (OpenSpec.ofChange fnMergingSpec)

/-- ITS FALSE NEIGHBOUR: 'it returns false'. Refute it at one input. -/
def fnMergingWrong : ChangeSpec := { name := "fnMerging", fn := fun _ => fun
  | [d] => { results := [.lit (.bool false)], args := [d] }
  | _ => none }
def FnMergingWrongFalsely : Prop := fnMergingRow.holds Try.pinned (OpenSpec.ofChange fnMergingWrong)

/-- 'laws.FnSorters': WHATEVER THE INPUT: true; the input reads as it did. -/
def fnSortersSpec : ChangeSpec := { name := "fnSorters", fn := fun _ => fun
  | [d] => { results := [.lit (.bool true)], args := [d] }
  | _ => none }
def fnSortersRow : OpenClaim := { program := "ytiodolbgapjmkaa", sum := "394d713e87c4f1218b7beba4790af0f03e9cf1ee02ffc67ca726a7f68f1e0ddf", func := "loop.example/g03207/laws.FnSorters", spec := "fnSorters", unfollowed := true, recurses := true, apart := false }
def FnSortersSaid : Prop := fnSortersRow.holds Try.pinned (OpenSpec.ofChange fnSortersSpec)

/-- ITS FALSE NEIGHBOUR: 'it returns false'. Refute it at one input. -/
def fnSortersWrong : ChangeSpec := { name := "fnSorters", fn := fun _ => fun
  | [d] => { results := [.lit (.bool false)], args := [d] }
  | _ => none }
def FnSortersWrongFalsely : Prop := fnSortersRow.holds Try.pinned (OpenSpec.ofChange fnSortersWrong)

/-- 'laws.FnElementary': WHATEVER THE INPUT: true; the input reads as it did. -/
def fnElementarySpec : ChangeSpec := { name := "fnElementary", fn := fun _ => fun
  | [d] => { results := [.lit (.bool true)], args := [d] }
  | _ => none }
def fnElementaryRow : OpenClaim := { program := "ytiodolbgapjmkaa", sum := "394d713e87c4f1218b7beba4790af0f03e9cf1ee02ffc67ca726a7f68f1e0ddf", func := "loop.example/g03207/laws.FnElementary", spec := "fnElementary", unfollowed := true, recurses := true, apart := false }
def FnElementarySaid : Prop := fnElementaryRow.holds Try.pinned (OpenSpec.ofChange fnElementarySpec)

/-- ITS FALSE NEIGHBOUR: 'it returns false'. Refute it at one input. -/
def fnElementaryWrong : ChangeSpec := { name := "fnElementary", fn := fun _ => fun
  | [d] => { results := [.lit (.bool false)], args := [d] }
  | _ => none }
def FnElementaryWrongFalsely : Prop := fnElementaryRow.holds Try.pinned (OpenSpec.ofChange fnElementaryWrong)

/-- 'laws.FnStandard': WHATEVER THE INPUT: true; the input reads as it did. -/
def fnStandardSpec : ChangeSpec := { name := "fnStandard", fn := fun _ => fun
  | [d] => { results := [.lit (.bool true)], args := [d] }
  | _ => none }
def fnStandardRow : OpenClaim := { program := "ytiodolbgapjmkaa", sum := "394d713e87c4f1218b7beba4790af0f03e9cf1ee02ffc67ca726a7f68f1e0ddf", func := "loop.example/g03207/laws.FnStandard", spec := "fnStandard", unfollowed := true, recurses := true, apart := false }
def FnStandardSaid : Prop := fnStandardRow.holds Try.pinned (OpenSpec.ofChange fnStandardSpec)

/-- ITS FALSE NEIGHBOUR: 'it returns false'. Refute it at one input. -/
def fnStandardWrong : ChangeSpec := { name := "fnStandard", fn := fun _ => fun
  | [d] => { results := [.lit (.bool false)], args := [d] }
  | _ => none }
def FnStandardWrongFalsely : Prop := fnStandardRow.holds Try.pinned (OpenSpec.ofChange fnStandardWrong)

/-- 'laws.FnExactCountNetworks': WHATEVER THE INPUT: true; the input reads as it did. -/
def fnExactCountNetworksSpec : ChangeSpec := { name := "fnExactCountNetworks", fn := fun _ => fun
  | [d1, d2] => { results := [.lit (.bool true)], args := [d1, d2] }
  | _ => none }
def fnExactCountNetworksRow : OpenClaim := { program := "ytiodolbgapjmkaa", sum := "394d713e87c4f1218b7beba4790af0f03e9cf1ee02ffc67ca726a7f68f1e0ddf", func := "loop.example/g03207/laws.FnExactCountNetworks", spec := "fnExactCountNetworks", unfollowed := true, recurses := true, apart := false }
def FnExactCountNetworksSaid : Prop := fnExactCountNetworksRow.holds Try.pinned (OpenSpec.ofChange fnExactCountNetworksSpec)

/-- ITS FALSE NEIGHBOUR: 'it returns false'. Refute it at one input. -/
def fnExactCountNetworksWrong : ChangeSpec := { name := "fnExactCountNetworks", fn := fun _ => fun
  | [d1, d2] => { results := [.lit (.bool false)], args := [d1, d2] }
  | _ => none }
def FnExactCountNetworksWrongFalsely : Prop := fnExactCountNetworksRow.holds Try.pinned (OpenSpec.ofChange fnExactCountNetworksWrong)

/-- 'laws.FnExactShortestNetwork': WHATEVER THE INPUT: true; the input reads as it did. -/
def fnExactShortestNetworkSpec : ChangeSpec := { name := "fnExactShortestNetwork", fn := fun _ => fun
  | [d] => { results := [.lit (.bool true)], args := [d] }
  | _ => none }
def fnExactShortestNetworkRow : OpenClaim := { program := "ytiodolbgapjmkaa", sum := "394d713e87c4f1218b7beba4790af0f03e9cf1ee02ffc67ca726a7f68f1e0ddf", func := "loop.example/g03207/laws.FnExactShortestNetwork", spec := "fnExactShortestNetwork", unfollowed := true, recurses := true, apart := false }
def FnExactShortestNetworkSaid : Prop := fnExactShortestNetworkRow.holds Try.pinned (OpenSpec.ofChange fnExactShortestNetworkSpec)

/-- ITS FALSE NEIGHBOUR: 'it returns false'. Refute it at one input. -/
def fnExactShortestNetworkWrong : ChangeSpec := { name := "fnExactShortestNetwork", fn := fun _ => fun
  | [d] => { results := [.lit (.bool false)], args := [d] }
  | _ => none }
def FnExactShortestNetworkWrongFalsely : Prop := fnExactShortestNetworkRow.holds Try.pinned (OpenSpec.ofChange fnExactShortestNetworkWrong)

/-- 'laws.FnExactResultSets': WHATEVER THE INPUT: true; the input reads as it did. -/
def fnExactResultSetsSpec : ChangeSpec := { name := "fnExactResultSets", fn := fun _ => fun
  | [d1, d2] => { results := [.lit (.bool true)], args := [d1, d2] }
  | _ => none }
def fnExactResultSetsRow : OpenClaim := { program := "ytiodolbgapjmkaa", sum := "394d713e87c4f1218b7beba4790af0f03e9cf1ee02ffc67ca726a7f68f1e0ddf", func := "loop.example/g03207/laws.FnExactResultSets", spec := "fnExactResultSets", unfollowed := true, recurses := true, apart := false }
def FnExactResultSetsSaid : Prop := fnExactResultSetsRow.holds Try.pinned (OpenSpec.ofChange fnExactResultSetsSpec)

/-- ITS FALSE NEIGHBOUR: 'it returns false'. Refute it at one input. -/
def fnExactResultSetsWrong : ChangeSpec := { name := "fnExactResultSets", fn := fun _ => fun
  | [d1, d2] => { results := [.lit (.bool false)], args := [d1, d2] }
  | _ => none }
def FnExactResultSetsWrongFalsely : Prop := fnExactResultSetsRow.holds Try.pinned (OpenSpec.ofChange fnExactResultSetsWrong)

/- THE SECOND FORM. 'bulk': how many values and letters a reading holds, each counted each time it is reached (what is shared counts as often as it is met; a slice's spare places count too). A statement '..UptoSaid' is the law's where the arguments, and the package variables that the reading takes, are together of bulk at most 1048576: NARROWER than '..Said'. Prove '..Said' where nothing that the law and all that it calls make is longer than what came in: it says more and counts as full. Else prove '..UptoSaid'. A law counts once. -/
mutual
def uptoBulk {H : Type} : DataW H → Nat
  | .lit (.string bytes) => bytes.length + 1
  | .lit _ => 1
  | .nil => 1
  | .ptr d => uptoBulk d + 1
  | .slice elems spare => uptoBulkAll elems + uptoBulkAll spare + 1
  | .agg parts => uptoBulkAll parts + 1
  | .iface _ d => uptoBulk d + 1
  | .map entries => uptoBulkEntries entries + 1
  | .held _ => 1
def uptoBulkAll {H : Type} : List (DataW H) → Nat
  | [] => 0
  | d :: r => uptoBulk d + uptoBulkAll r
def uptoBulkEntries {H : Type} : List (Lit × DataW H) → Nat
  | [] => 0
  | x :: r => uptoBulkEntry x + uptoBulkEntries r
def uptoBulkEntry {H : Type} : Lit × DataW H → Nat
  | (.string bytes, d) => bytes.length + uptoBulk d + 1
  | (_, d) => uptoBulk d + 1
 end
def uptoSmall : (H : Type) → List (DataW H) → Bool := fun _ ds => decide (uptoBulkAll ds ≤ 1048576)
def OpenSpec.upto (s : _root_.Go.ChangeSpec) : _root_.Go.OpenSpec := { _root_.Go.OpenSpec.ofChange s with cond := some uptoSmall }

/-- 'laws.FnExactMergeLists', WHERE WHAT IT READS IS OF BULK AT MOST 1048576: true; the input reads as it did. -/
def fnExactMergeListsUptoRow : OpenClaim := { program := "ytiodolbgapjmkaa", sum := "394d713e87c4f1218b7beba4790af0f03e9cf1ee02ffc67ca726a7f68f1e0ddf", func := "loop.example/g03207/laws.FnExactMergeLists", spec := "fnExactMergeLists", recurses := true, apart := false, narrowed := true }
def FnExactMergeListsUptoSaid : Prop := fnExactMergeListsUptoRow.holds Try.pinned (OpenSpec.upto fnExactMergeListsSpec)

/-- 'laws.FnFaults', WHERE WHAT IT READS IS OF BULK AT MOST 1048576: true; the input reads as it did. -/
def fnFaultsUptoRow : OpenClaim := { program := "ytiodolbgapjmkaa", sum := "394d713e87c4f1218b7beba4790af0f03e9cf1ee02ffc67ca726a7f68f1e0ddf", func := "loop.example/g03207/laws.FnFaults", spec := "fnFaults", unfollowed := true, recurses := true, apart := false, narrowed := true }
def FnFaultsUptoSaid : Prop := fnFaultsUptoRow.holds Try.pinned (OpenSpec.upto fnFaultsSpec)

/-- 'laws.FnMerging', WHERE WHAT IT READS IS OF BULK AT MOST 1048576: true; the input reads as it did. -/
def fnMergingUptoRow : OpenClaim := { program := "ytiodolbgapjmkaa", sum := "394d713e87c4f1218b7beba4790af0f03e9cf1ee02ffc67ca726a7f68f1e0ddf", func := "loop.example/g03207/laws.FnMerging", spec := "fnMerging", unfollowed := true, recurses := true, apart := false, narrowed := true }
def FnMergingUptoSaid : Prop := fnMergingUptoRow.holds Try.pinned (OpenSpec.upto fnMergingSpec)

/-- 'laws.FnSorters', WHERE WHAT IT READS IS OF BULK AT MOST 1048576: true; the input reads as it did. -/
def fnSortersUptoRow : OpenClaim := { program := "ytiodolbgapjmkaa", sum := "394d713e87c4f1218b7beba4790af0f03e9cf1ee02ffc67ca726a7f68f1e0ddf", func := "loop.example/g03207/laws.FnSorters", spec := "fnSorters", unfollowed := true, recurses := true, apart := false, narrowed := true }
def FnSortersUptoSaid : Prop := fnSortersUptoRow.holds Try.pinned (OpenSpec.upto fnSortersSpec)

/-- 'laws.FnElementary', WHERE WHAT IT READS IS OF BULK AT MOST 1048576: true; the input reads as it did. -/
def fnElementaryUptoRow : OpenClaim := { program := "ytiodolbgapjmkaa", sum := "394d713e87c4f1218b7beba4790af0f03e9cf1ee02ffc67ca726a7f68f1e0ddf", func := "loop.example/g03207/laws.FnElementary", spec := "fnElementary", unfollowed := true, recurses := true, apart := false, narrowed := true }
def FnElementaryUptoSaid : Prop := fnElementaryUptoRow.holds Try.pinned (OpenSpec.upto fnElementarySpec)

/-- 'laws.FnStandard', WHERE WHAT IT READS IS OF BULK AT MOST 1048576: true; the input reads as it did. -/
def fnStandardUptoRow : OpenClaim := { program := "ytiodolbgapjmkaa", sum := "394d713e87c4f1218b7beba4790af0f03e9cf1ee02ffc67ca726a7f68f1e0ddf", func := "loop.example/g03207/laws.FnStandard", spec := "fnStandard", unfollowed := true, recurses := true, apart := false, narrowed := true }
def FnStandardUptoSaid : Prop := fnStandardUptoRow.holds Try.pinned (OpenSpec.upto fnStandardSpec)

/-- 'laws.FnExactCountNetworks', WHERE WHAT IT READS IS OF BULK AT MOST 1048576: true; the input reads as it did. -/
def fnExactCountNetworksUptoRow : OpenClaim := { program := "ytiodolbgapjmkaa", sum := "394d713e87c4f1218b7beba4790af0f03e9cf1ee02ffc67ca726a7f68f1e0ddf", func := "loop.example/g03207/laws.FnExactCountNetworks", spec := "fnExactCountNetworks", unfollowed := true, recurses := true, apart := false, narrowed := true }
def FnExactCountNetworksUptoSaid : Prop := fnExactCountNetworksUptoRow.holds Try.pinned (OpenSpec.upto fnExactCountNetworksSpec)

/-- 'laws.FnExactShortestNetwork', WHERE WHAT IT READS IS OF BULK AT MOST 1048576: true; the input reads as it did. -/
def fnExactShortestNetworkUptoRow : OpenClaim := { program := "ytiodolbgapjmkaa", sum := "394d713e87c4f1218b7beba4790af0f03e9cf1ee02ffc67ca726a7f68f1e0ddf", func := "loop.example/g03207/laws.FnExactShortestNetwork", spec := "fnExactShortestNetwork", unfollowed := true, recurses := true, apart := false, narrowed := true }
def FnExactShortestNetworkUptoSaid : Prop := fnExactShortestNetworkUptoRow.holds Try.pinned (OpenSpec.upto fnExactShortestNetworkSpec)

/-- 'laws.FnExactResultSets', WHERE WHAT IT READS IS OF BULK AT MOST 1048576: true; the input reads as it did. -/
def fnExactResultSetsUptoRow : OpenClaim := { program := "ytiodolbgapjmkaa", sum := "394d713e87c4f1218b7beba4790af0f03e9cf1ee02ffc67ca726a7f68f1e0ddf", func := "loop.example/g03207/laws.FnExactResultSets", spec := "fnExactResultSets", unfollowed := true, recurses := true, apart := false, narrowed := true }
def FnExactResultSetsUptoSaid : Prop := fnExactResultSetsUptoRow.holds Try.pinned (OpenSpec.upto fnExactResultSetsSpec)

end Rows
end Go.Proofs.Ytiodolbgapjmkaa
