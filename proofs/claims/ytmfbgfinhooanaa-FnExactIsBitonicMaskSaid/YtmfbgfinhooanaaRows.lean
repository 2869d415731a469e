/-
  No cell of these rows narrows 'for every input' (looked for: loops, veiled, ifaces, maps, wideKeys, modest, calm, conditions, laid).
  DERIVED. THE GIVEN ROWS OF THIS SEAT. 6 by the template 'for every input the law returns true; each argument reads behind the call as it read before'; 0 by the template 'total and deterministic' (their statements: YtmfbgfinhooanaaTotals.lean).
  GIVEN WITH THE SEED: the statements are not yours to turn. If you find one false, say at which input.
  Laid BY PROGRAM, IN A SANDBOX (cutbox-rows.mjs): the forced cells as the released guide's own fill.sh prints them over the translation 03a507ce8a0fde5a… (all of the seat's roots in one cut). By AI agents, Wed Nov 11 2026. No macro, syntax, notation, axiom, sorry.
-/
import Derived.Test.YtmfbgfinhooanaaChecked
import GoSem.Claim
import GoSem.ClaimJoined
import GoSem.ClaimMapViews
import Derived.JoinedTies
import Derived.KernelRfl
namespace Go.Proofs.Ytmfbgfinhooanaa
/- THE CELL 'sum', in the pinned program and in every row, IS THE sha256 OF THE DUMP (.gsa) THAT YtmfbgfinhooanaaProg.lean LOADS. Nothing in Lean hashes anything: it is a label: what it is worth is what the hold of that sum in a sandbox is worth. -/
noncomputable def Try.pinned : Pinned := { name := "ytmfbgfinhooanaa", sum := "03a507ce8a0fde5a40c7d983dbb5a5b5c862df93a0bcb16ca1d25e51250f3d2a", checked := Try.checked }
namespace Rows
def none {H : Type} : Left H := { results := [], args := [] }

/-- 'laws.FnExactLeastDepth': WHATEVER THE INPUT: true; the input reads as it did. -/
def fnExactLeastDepthSpec : ChangeSpec := { name := "fnExactLeastDepth", fn := fun _ => fun
  | [d] => { results := [.lit (.bool true)], args := [d] }
  | _ => none }
def fnExactLeastDepthRow : OpenClaim := { program := "ytmfbgfinhooanaa", sum := "03a507ce8a0fde5a40c7d983dbb5a5b5c862df93a0bcb16ca1d25e51250f3d2a", func := "loop.example/g03207/laws.FnExactLeastDepth", spec := "fnExactLeastDepth", apart := false }
def FnExactLeastDepthSaid : Prop := fnExactLeastDepthRow.holds Try.pinned (OpenSpec.ofChange fnExactLeastDepthSpec)

/-- ITS FALSE NEIGHBOUR: 'it returns false'. Refute it at one input. -/
def fnExactLeastDepthWrong : ChangeSpec := { name := "fnExactLeastDepth", fn := fun _ => fun
  | [d] => { results := [.lit (.bool false)], args := [d] }
  | _ => none }
def FnExactLeastDepthWrongFalsely : Prop := fnExactLeastDepthRow.holds Try.pinned (OpenSpec.ofChange fnExactLeastDepthWrong)

/-- 'laws.FnExactLeastPairs': WHATEVER THE INPUT: true; the input reads as it did. -/
def fnExactLeastPairsSpec : ChangeSpec := { name := "fnExactLeastPairs", fn := fun _ => fun
  | [d] => { results := [.lit (.bool true)], args := [d] }
  | _ => none }
def fnExactLeastPairsRow : OpenClaim := { program := "ytmfbgfinhooanaa", sum := "03a507ce8a0fde5a40c7d983dbb5a5b5c862df93a0bcb16ca1d25e51250f3d2a", func := "loop.example/g03207/laws.FnExactLeastPairs", spec := "fnExactLeastPairs", apart := false }
def FnExactLeastPairsSaid : Prop := fnExactLeastPairsRow.holds Try.pinned (OpenSpec.ofChange fnExactLeastPairsSpec)

/-- ITS FALSE NEIGHBOUR: 'it returns false'. Refute it at one input. -/
def fnExactLeastPairsWrong : ChangeSpec := { name := "fnExactLeastPairs", fn := fun _ => fun
  | [d] => { results := [.lit (.bool false)], args := [d] }
  | _ => none }
def FnExactLeastPairsWrongFalsely : Prop := fnExactLeastPairsRow.holds Try.pinned (OpenSpec.ofChange fnExactLeastPairsWrong)

/-- 'laws.FnExactCountMergeMasks': WHATEVER THE INPUT: true; the input reads as it did. -/
def fnExactCountMergeMasksSpec : ChangeSpec := { name := "fnExactCountMergeMasks", fn := fun _ => fun
  | [d1, d2] => { results := [.lit (.bool true)], args := [d1, d2] }
  | _ => none }
def fnExactCountMergeMasksRow : OpenClaim := { program := "ytmfbgfinhooanaa", sum := "03a507ce8a0fde5a40c7d983dbb5a5b5c862df93a0bcb16ca1d25e51250f3d2a", func := "loop.example/g03207/laws.FnExactCountMergeMasks", spec := "fnExactCountMergeMasks", apart := false }
def FnExactCountMergeMasksSaid : Prop := fnExactCountMergeMasksRow.holds Try.pinned (OpenSpec.ofChange fnExactCountMergeMasksSpec)

/-- ITS FALSE NEIGHBOUR: 'it returns false'. Refute it at one input. -/
def fnExactCountMergeMasksWrong : ChangeSpec := { name := "fnExactCountMergeMasks", fn := fun _ => fun
  | [d1, d2] => { results := [.lit (.bool false)], args := [d1, d2] }
  | _ => none }
def FnExactCountMergeMasksWrongFalsely : Prop := fnExactCountMergeMasksRow.holds Try.pinned (OpenSpec.ofChange fnExactCountMergeMasksWrong)

/-- 'laws.FnExactPairBound': WHATEVER THE INPUT: true; the input reads as it did. -/
def fnExactPairBoundSpec : ChangeSpec := { name := "fnExactPairBound", fn := fun _ => fun
  | [d] => { results := [.lit (.bool true)], args := [d] }
  | _ => none }
def fnExactPairBoundRow : OpenClaim := { program := "ytmfbgfinhooanaa", sum := "03a507ce8a0fde5a40c7d983dbb5a5b5c862df93a0bcb16ca1d25e51250f3d2a", func := "loop.example/g03207/laws.FnExactPairBound", spec := "fnExactPairBound", apart := false }
def FnExactPairBoundSaid : Prop := fnExactPairBoundRow.holds Try.pinned (OpenSpec.ofChange fnExactPairBoundSpec)

/-- ITS FALSE NEIGHBOUR: 'it returns false'. Refute it at one input. -/
def fnExactPairBoundWrong : ChangeSpec := { name := "fnExactPairBound", fn := fun _ => fun
  | [d] => { results := [.lit (.bool false)], args := [d] }
  | _ => none }
def FnExactPairBoundWrongFalsely : Prop := fnExactPairBoundRow.holds Try.pinned (OpenSpec.ofChange fnExactPairBoundWrong)

/-- 'laws.FnExactIsBitonicMask': WHATEVER THE INPUT: true; the input reads as it did. -/
def fnExactIsBitonicMaskSpec : ChangeSpec := { name := "fnExactIsBitonicMask", fn := fun _ => fun
  | [d1, d2] => { results := [.lit (.bool true)], args := [d1, d2] }
  | _ => none }
def fnExactIsBitonicMaskRow : OpenClaim := { program := "ytmfbgfinhooanaa", sum := "03a507ce8a0fde5a40c7d983dbb5a5b5c862df93a0bcb16ca1d25e51250f3d2a", func := "loop.example/g03207/laws.FnExactIsBitonicMask", spec := "fnExactIsBitonicMask", apart := false }
def FnExactIsBitonicMaskSaid : Prop := fnExactIsBitonicMaskRow.holds Try.pinned (OpenSpec.ofChange fnExactIsBitonicMaskSpec)

/-- ITS FALSE NEIGHBOUR: 'it returns false'. Refute it at one input. -/
def fnExactIsBitonicMaskWrong : ChangeSpec := { name := "fnExactIsBitonicMask", fn := fun _ => fun
  | [d1, d2] => { results := [.lit (.bool false)], args := [d1, d2] }
  | _ => none }
def FnExactIsBitonicMaskWrongFalsely : Prop := fnExactIsBitonicMaskRow.holds Try.pinned (OpenSpec.ofChange fnExactIsBitonicMaskWrong)

/-- 'laws.FnExactBitonicSize': WHATEVER THE INPUT: true; the input reads as it did. -/
def fnExactBitonicSizeSpec : ChangeSpec := { name := "fnExactBitonicSize", fn := fun _ => fun
  | [d] => { results := [.lit (.bool true)], args := [d] }
  | _ => none }
def fnExactBitonicSizeRow : OpenClaim := { program := "ytmfbgfinhooanaa", sum := "03a507ce8a0fde5a40c7d983dbb5a5b5c862df93a0bcb16ca1d25e51250f3d2a", func := "loop.example/g03207/laws.FnExactBitonicSize", spec := "fnExactBitonicSize", recurses := true, apart := false }
def FnExactBitonicSizeSaid : Prop := fnExactBitonicSizeRow.holds Try.pinned (OpenSpec.ofChange fnExactBitonicSizeSpec)

/-- ITS FALSE NEIGHBOUR: 'it returns false'. Refute it at one input. -/
def fnExactBitonicSizeWrong : ChangeSpec := { name := "fnExactBitonicSize", fn := fun _ => fun
  | [d] => { results := [.lit (.bool false)], args := [d] }
  | _ => none }
def FnExactBitonicSizeWrongFalsely : Prop := fnExactBitonicSizeRow.holds Try.pinned (OpenSpec.ofChange fnExactBitonicSizeWrong)

/- THE SECOND FORM. 'bulk': how many values and letters a reading holds, each counted each time it is reached (what is shared counts as often as it is met; a slice's spare places count too). A statement '..UptoSaid' is the law's where the arguments, and the package variables that the reading takes, are together of bulk at most 1048576: NARROWER than '..Said'. Prove '..Said' where nothing that the law and all that it calls make is longer than what came in: it says more and counts as full. Else prove '..UptoSaid'. A law counts once. -/
mutual
def uptoBulk {H : Type} : DataW H → Nat
  | .lit (.string bytes) => bytes.length + 1
  | .lit _ => 1
  | .nil => 1
  | .ptr d => uptoBulk d + 1
  | .slice elems spare => uptoBulkAll elems + uptoBulkAll spare + 1
  | .agg parts => uptoBulkAll parts + 1
  | .iface _ d => uptoBulk d + 1
  | .map entries => uptoBulkEntries entries + 1
  | .held _ => 1
def uptoBulkAll {H : Type} : List (DataW H) → Nat
  | [] => 0
  | d :: r => uptoBulk d + uptoBulkAll r
def uptoBulkEntries {H : Type} : List (Lit × DataW H) → Nat
  | [] => 0
  | x :: r => uptoBulkEntry x + uptoBulkEntries r
def uptoBulkEntry {H : Type} : Lit × DataW H → Nat
  | (.string bytes, d) => bytes.length + uptoBulk d + 1
  | (_, d) => uptoBulk d + 1
 end
def uptoSmall : (H : Type) → List (DataW H) → Bool := fun _ ds => decide (uptoBulkAll ds ≤ 1048576)
def OpenSpec.upto (s : _root_.Go.ChangeSpec) : _root_.Go.OpenSpec := { _root_.Go.OpenSpec.ofChange s with cond := some uptoSmall }

/-- 'laws.FnExactLeastDepth', WHERE WHAT IT READS IS OF BULK AT MOST 1048576: true; the input reads as it did. -/
def fnExactLeastDepthUptoRow : OpenClaim := { program := "ytmfbgfinhooanaa", sum := "03a507ce8a0fde5a40c7d983dbb5a5b5c862df93a0bcb16ca1d25e51250f3d2a", func := "loop.example/g03207/laws.FnExactLeastDepth", spec := "fnExactLeastDepth", apart := false, narrowed := true }
def FnExactLeastDepthUptoSaid : Prop := fnExactLeastDepthUptoRow.holds Try.pinned (OpenSpec.upto fnExactLeastDepthSpec)

/-- 'laws.FnExactLeastPairs', WHERE WHAT IT READS IS OF BULK AT MOST 1048576: true; the input reads as it did. -/
def fnExactLeastPairsUptoRow : OpenClaim := { program := "ytmfbgfinhooanaa", sum := "03a507ce8a0fde5a40c7d983dbb5a5b5c862df93a0bcb16ca1d25e51250f3d2a", func := "loop.example/g03207/laws.FnExactLeastPairs", spec := "fnExactLeastPairs", apart := false, narrowed := true }
def FnExactLeastPairsUptoSaid : Prop := fnExactLeastPairsUptoRow.holds Try.pinned (OpenSpec.upto fnExactLeastPairsSpec)

/-- 'laws.FnExactCountMergeMasks', WHERE WHAT IT READS IS OF BULK AT MOST 1048576: true; the input reads as it did. -/
def fnExactCountMergeMasksUptoRow : OpenClaim := { program := "ytmfbgfinhooanaa", sum := "03a507ce8a0fde5a40c7d983dbb5a5b5c862df93a0bcb16ca1d25e51250f3d2a", func := "loop.example/g03207/laws.FnExactCountMergeMasks", spec := "fnExactCountMergeMasks", apart := false, narrowed := true }
def FnExactCountMergeMasksUptoSaid : Prop := fnExactCountMergeMasksUptoRow.holds Try.pinned (OpenSpec.upto fnExactCountMergeMasksSpec)

/-- 'laws.FnExactPairBound', WHERE WHAT IT READS IS OF BULK AT MOST 1048576: true; the input reads as it did. -/
def fnExactPairBoundUptoRow : OpenClaim := { program := "ytmfbgfinhooanaa", sum := "03a507ce8a0fde5a40c7d983dbb5a5b5c862df93a0bcb16ca1d25e51250f3d2a", func := "loop.example/g03207/laws.FnExactPairBound", spec := "fnExactPairBound", apart := false, narrowed := true }
def FnExactPairBoundUptoSaid : Prop := fnExactPairBoundUptoRow.holds Try.pinned (OpenSpec.upto fnExactPairBoundSpec)

/-- 'laws.FnExactIsBitonicMask', WHERE WHAT IT READS IS OF BULK AT MOST 1048576: true; the input reads as it did. -/
def fnExactIsBitonicMaskUptoRow : OpenClaim := { program := "ytmfbgfinhooanaa", sum := "03a507ce8a0fde5a40c7d983dbb5a5b5c862df93a0bcb16ca1d25e51250f3d2a", func := "loop.example/g03207/laws.FnExactIsBitonicMask", spec := "fnExactIsBitonicMask", apart := false, narrowed := true }
def FnExactIsBitonicMaskUptoSaid : Prop := fnExactIsBitonicMaskUptoRow.holds Try.pinned (OpenSpec.upto fnExactIsBitonicMaskSpec)

/-- 'laws.FnExactBitonicSize', WHERE WHAT IT READS IS OF BULK AT MOST 1048576: true; the input reads as it did. -/
def fnExactBitonicSizeUptoRow : OpenClaim := { program := "ytmfbgfinhooanaa", sum := "03a507ce8a0fde5a40c7d983dbb5a5b5c862df93a0bcb16ca1d25e51250f3d2a", func := "loop.example/g03207/laws.FnExactBitonicSize", spec := "fnExactBitonicSize", recurses := true, apart := false, narrowed := true }
def FnExactBitonicSizeUptoSaid : Prop := fnExactBitonicSizeUptoRow.holds Try.pinned (OpenSpec.upto fnExactBitonicSizeSpec)

end Rows
end Go.Proofs.Ytmfbgfinhooanaa
