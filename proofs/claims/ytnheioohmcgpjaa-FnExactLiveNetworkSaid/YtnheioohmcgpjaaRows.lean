/-
  No cell of these rows narrows 'for every input' (looked for: loops, veiled, ifaces, maps, wideKeys, modest, calm, conditions, laid).
  DERIVED. THE GIVEN ROWS OF THIS SEAT. 12 by the template 'for every input the law returns true; each argument reads behind the call as it read before'; 0 by the template 'total and deterministic' (their statements: YtnheioohmcgpjaaTotals.lean).
  GIVEN WITH THE SEED: the statements are not yours to turn. If you find one false, say at which input.
  Laid BY PROGRAM, IN A SANDBOX (cutbox-rows.mjs): the forced cells as the released guide's own fill.sh prints them over the translation 56fecd84bc5ad524… (all of the seat's roots in one cut). By AI agents, Wed Nov 11 2026. No macro, syntax, notation, axiom, sorry.
-/
import Derived.Test.YtnheioohmcgpjaaChecked
import GoSem.Claim
import GoSem.ClaimJoined
import GoSem.ClaimMapViews
import Derived.JoinedTies
import Derived.KernelRfl
namespace Go.Proofs.Ytnheioohmcgpjaa
/- THE CELL 'sum', in the pinned program and in every row, IS THE sha256 OF THE DUMP (.gsa) THAT YtnheioohmcgpjaaProg.lean LOADS. Nothing in Lean hashes anything: it is a label: what it is worth is what the hold of that sum in a sandbox is worth. -/
noncomputable def Try.pinned : Pinned := { name := "ytnheioohmcgpjaa", sum := "56fecd84bc5ad524ff50f86b56c8985e6bf30cd4b2345b592fd802ecd44a1b51", checked := Try.checked }
namespace Rows
def none {H : Type} : Left H := { results := [], args := [] }

/-- 'laws.FnExactBrickRounds': WHATEVER THE INPUT: true; the input reads as it did. -/
def fnExactBrickRoundsSpec : ChangeSpec := { name := "fnExactBrickRounds", fn := fun _ => fun
  | [d] => { results := [.lit (.bool true)], args := [d] }
  | _ => none }
def fnExactBrickRoundsRow : OpenClaim := { program := "ytnheioohmcgpjaa", sum := "56fecd84bc5ad524ff50f86b56c8985e6bf30cd4b2345b592fd802ecd44a1b51", func := "loop.example/g03207/laws.FnExactBrickRounds", spec := "fnExactBrickRounds", apart := false }
def FnExactBrickRoundsSaid : Prop := fnExactBrickRoundsRow.holds Try.pinned (OpenSpec.ofChange fnExactBrickRoundsSpec)

/-- ITS FALSE NEIGHBOUR: 'it returns false'. Refute it at one input. -/
def fnExactBrickRoundsWrong : ChangeSpec := { name := "fnExactBrickRounds", fn := fun _ => fun
  | [d] => { results := [.lit (.bool false)], args := [d] }
  | _ => none }
def FnExactBrickRoundsWrongFalsely : Prop := fnExactBrickRoundsRow.holds Try.pinned (OpenSpec.ofChange fnExactBrickRoundsWrong)

/-- 'laws.FnExactCountPairs': WHATEVER THE INPUT: true; the input reads as it did. -/
def fnExactCountPairsSpec : ChangeSpec := { name := "fnExactCountPairs", fn := fun _ => fun
  | [d] => { results := [.lit (.bool true)], args := [d] }
  | _ => none }
def fnExactCountPairsRow : OpenClaim := { program := "ytnheioohmcgpjaa", sum := "56fecd84bc5ad524ff50f86b56c8985e6bf30cd4b2345b592fd802ecd44a1b51", func := "loop.example/g03207/laws.FnExactCountPairs", spec := "fnExactCountPairs", apart := false }
def FnExactCountPairsSaid : Prop := fnExactCountPairsRow.holds Try.pinned (OpenSpec.ofChange fnExactCountPairsSpec)

/-- ITS FALSE NEIGHBOUR: 'it returns false'. Refute it at one input. -/
def fnExactCountPairsWrong : ChangeSpec := { name := "fnExactCountPairs", fn := fun _ => fun
  | [d] => { results := [.lit (.bool false)], args := [d] }
  | _ => none }
def FnExactCountPairsWrongFalsely : Prop := fnExactCountPairsRow.holds Try.pinned (OpenSpec.ofChange fnExactCountPairsWrong)

/-- 'laws.FnExactFaultyBits': WHATEVER THE INPUT: true; the input reads as it did. -/
def fnExactFaultyBitsSpec : ChangeSpec := { name := "fnExactFaultyBits", fn := fun _ => fun
  | [d1, d2, d3, d4] => { results := [.lit (.bool true)], args := [d1, d2, d3, d4] }
  | _ => none }
def fnExactFaultyBitsRow : OpenClaim := { program := "ytnheioohmcgpjaa", sum := "56fecd84bc5ad524ff50f86b56c8985e6bf30cd4b2345b592fd802ecd44a1b51", func := "loop.example/g03207/laws.FnExactFaultyBits", spec := "fnExactFaultyBits", apart := false }
def FnExactFaultyBitsSaid : Prop := fnExactFaultyBitsRow.holds Try.pinned (OpenSpec.ofChange fnExactFaultyBitsSpec)

/-- ITS FALSE NEIGHBOUR: 'it returns false'. Refute it at one input. -/
def fnExactFaultyBitsWrong : ChangeSpec := { name := "fnExactFaultyBits", fn := fun _ => fun
  | [d1, d2, d3, d4] => { results := [.lit (.bool false)], args := [d1, d2, d3, d4] }
  | _ => none }
def FnExactFaultyBitsWrongFalsely : Prop := fnExactFaultyBitsRow.holds Try.pinned (OpenSpec.ofChange fnExactFaultyBitsWrong)

/-- 'laws.FnExactFindsFault': WHATEVER THE INPUT: true; the input reads as it did. -/
def fnExactFindsFaultSpec : ChangeSpec := { name := "fnExactFindsFault", fn := fun _ => fun
  | [d1, d2, d3, d4] => { results := [.lit (.bool true)], args := [d1, d2, d3, d4] }
  | _ => none }
def fnExactFindsFaultRow : OpenClaim := { program := "ytnheioohmcgpjaa", sum := "56fecd84bc5ad524ff50f86b56c8985e6bf30cd4b2345b592fd802ecd44a1b51", func := "loop.example/g03207/laws.FnExactFindsFault", spec := "fnExactFindsFault", apart := false }
def FnExactFindsFaultSaid : Prop := fnExactFindsFaultRow.holds Try.pinned (OpenSpec.ofChange fnExactFindsFaultSpec)

/-- ITS FALSE NEIGHBOUR: 'it returns false'. Refute it at one input. -/
def fnExactFindsFaultWrong : ChangeSpec := { name := "fnExactFindsFault", fn := fun _ => fun
  | [d1, d2, d3, d4] => { results := [.lit (.bool false)], args := [d1, d2, d3, d4] }
  | _ => none }
def FnExactFindsFaultWrongFalsely : Prop := fnExactFindsFaultRow.holds Try.pinned (OpenSpec.ofChange fnExactFindsFaultWrong)

/-- 'laws.FnExactSelectWire': WHATEVER THE INPUT: true; the input reads as it did. -/
def fnExactSelectWireSpec : ChangeSpec := { name := "fnExactSelectWire", fn := fun _ => fun
  | [d] => { results := [.lit (.bool true)], args := [d] }
  | _ => none }
def fnExactSelectWireRow : OpenClaim := { program := "ytnheioohmcgpjaa", sum := "56fecd84bc5ad524ff50f86b56c8985e6bf30cd4b2345b592fd802ecd44a1b51", func := "loop.example/g03207/laws.FnExactSelectWire", spec := "fnExactSelectWire", unfollowed := true, recurses := true, apart := false }
def FnExactSelectWireSaid : Prop := fnExactSelectWireRow.holds Try.pinned (OpenSpec.ofChange fnExactSelectWireSpec)

/-- ITS FALSE NEIGHBOUR: 'it returns false'. Refute it at one input. -/
def fnExactSelectWireWrong : ChangeSpec := { name := "fnExactSelectWire", fn := fun _ => fun
  | [d] => { results := [.lit (.bool false)], args := [d] }
  | _ => none }
def FnExactSelectWireWrongFalsely : Prop := fnExactSelectWireRow.holds Try.pinned (OpenSpec.ofChange fnExactSelectWireWrong)

/-- 'laws.FnExactLiveNetwork': WHATEVER THE INPUT: true; the input reads as it did. -/
def fnExactLiveNetworkSpec : ChangeSpec := { name := "fnExactLiveNetwork", fn := fun _ => fun
  | [d1, d2] => { results := [.lit (.bool true)], args := [d1, d2] }
  | _ => none }
def fnExactLiveNetworkRow : OpenClaim := { program := "ytnheioohmcgpjaa", sum := "56fecd84bc5ad524ff50f86b56c8985e6bf30cd4b2345b592fd802ecd44a1b51", func := "loop.example/g03207/laws.FnExactLiveNetwork", spec := "fnExactLiveNetwork", apart := false }
def FnExactLiveNetworkSaid : Prop := fnExactLiveNetworkRow.holds Try.pinned (OpenSpec.ofChange fnExactLiveNetworkSpec)

/-- ITS FALSE NEIGHBOUR: 'it returns false'. Refute it at one input. -/
def fnExactLiveNetworkWrong : ChangeSpec := { name := "fnExactLiveNetwork", fn := fun _ => fun
  | [d1, d2] => { results := [.lit (.bool false)], args := [d1, d2] }
  | _ => none }
def FnExactLiveNetworkWrongFalsely : Prop := fnExactLiveNetworkRow.holds Try.pinned (OpenSpec.ofChange fnExactLiveNetworkWrong)

/-- 'laws.FnExactSortNetwork': WHATEVER THE INPUT: true; the input reads as it did. -/
def fnExactSortNetworkSpec : ChangeSpec := { name := "fnExactSortNetwork", fn := fun _ => fun
  | [d] => { results := [.lit (.bool true)], args := [d] }
  | _ => none }
def fnExactSortNetworkRow : OpenClaim := { program := "ytnheioohmcgpjaa", sum := "56fecd84bc5ad524ff50f86b56c8985e6bf30cd4b2345b592fd802ecd44a1b51", func := "loop.example/g03207/laws.FnExactSortNetwork", spec := "fnExactSortNetwork", recurses := true, apart := false }
def FnExactSortNetworkSaid : Prop := fnExactSortNetworkRow.holds Try.pinned (OpenSpec.ofChange fnExactSortNetworkSpec)

/-- ITS FALSE NEIGHBOUR: 'it returns false'. Refute it at one input. -/
def fnExactSortNetworkWrong : ChangeSpec := { name := "fnExactSortNetwork", fn := fun _ => fun
  | [d] => { results := [.lit (.bool false)], args := [d] }
  | _ => none }
def FnExactSortNetworkWrongFalsely : Prop := fnExactSortNetworkRow.holds Try.pinned (OpenSpec.ofChange fnExactSortNetworkWrong)

/-- 'laws.FnExactIsSelecting': WHATEVER THE INPUT: true; the input reads as it did. -/
def fnExactIsSelectingSpec : ChangeSpec := { name := "fnExactIsSelecting", fn := fun _ => fun
  | [d1, d2] => { results := [.lit (.bool true)], args := [d1, d2] }
  | _ => none }
def fnExactIsSelectingRow : OpenClaim := { program := "ytnheioohmcgpjaa", sum := "56fecd84bc5ad524ff50f86b56c8985e6bf30cd4b2345b592fd802ecd44a1b51", func := "loop.example/g03207/laws.FnExactIsSelecting", spec := "fnExactIsSelecting", apart := false }
def FnExactIsSelectingSaid : Prop := fnExactIsSelectingRow.holds Try.pinned (OpenSpec.ofChange fnExactIsSelectingSpec)

/-- ITS FALSE NEIGHBOUR: 'it returns false'. Refute it at one input. -/
def fnExactIsSelectingWrong : ChangeSpec := { name := "fnExactIsSelecting", fn := fun _ => fun
  | [d1, d2] => { results := [.lit (.bool false)], args := [d1, d2] }
  | _ => none }
def FnExactIsSelectingWrongFalsely : Prop := fnExactIsSelectingRow.holds Try.pinned (OpenSpec.ofChange fnExactIsSelectingWrong)

/-- 'laws.FnExactInsertWire': WHATEVER THE INPUT: true; the input reads as it did. -/
def fnExactInsertWireSpec : ChangeSpec := { name := "fnExactInsertWire", fn := fun _ => fun
  | [d] => { results := [.lit (.bool true)], args := [d] }
  | _ => none }
def fnExactInsertWireRow : OpenClaim := { program := "ytnheioohmcgpjaa", sum := "56fecd84bc5ad524ff50f86b56c8985e6bf30cd4b2345b592fd802ecd44a1b51", func := "loop.example/g03207/laws.FnExactInsertWire", spec := "fnExactInsertWire", apart := false }
def FnExactInsertWireSaid : Prop := fnExactInsertWireRow.holds Try.pinned (OpenSpec.ofChange fnExactInsertWireSpec)

/-- ITS FALSE NEIGHBOUR: 'it returns false'. Refute it at one input. -/
def fnExactInsertWireWrong : ChangeSpec := { name := "fnExactInsertWire", fn := fun _ => fun
  | [d] => { results := [.lit (.bool false)], args := [d] }
  | _ => none }
def FnExactInsertWireWrongFalsely : Prop := fnExactInsertWireRow.holds Try.pinned (OpenSpec.ofChange fnExactInsertWireWrong)

/-- 'laws.FnExactRankRange': WHATEVER THE INPUT: true; the input reads as it did. -/
def fnExactRankRangeSpec : ChangeSpec := { name := "fnExactRankRange", fn := fun _ => fun
  | [d1, d2] => { results := [.lit (.bool true)], args := [d1, d2] }
  | _ => none }
def fnExactRankRangeRow : OpenClaim := { program := "ytnheioohmcgpjaa", sum := "56fecd84bc5ad524ff50f86b56c8985e6bf30cd4b2345b592fd802ecd44a1b51", func := "loop.example/g03207/laws.FnExactRankRange", spec := "fnExactRankRange", apart := false }
def FnExactRankRangeSaid : Prop := fnExactRankRangeRow.holds Try.pinned (OpenSpec.ofChange fnExactRankRangeSpec)

/-- ITS FALSE NEIGHBOUR: 'it returns false'. Refute it at one input. -/
def fnExactRankRangeWrong : ChangeSpec := { name := "fnExactRankRange", fn := fun _ => fun
  | [d1, d2] => { results := [.lit (.bool false)], args := [d1, d2] }
  | _ => none }
def FnExactRankRangeWrongFalsely : Prop := fnExactRankRangeRow.holds Try.pinned (OpenSpec.ofChange fnExactRankRangeWrong)

/-- 'laws.FnExactPlacesRank': WHATEVER THE INPUT: true; the input reads as it did. -/
def fnExactPlacesRankSpec : ChangeSpec := { name := "fnExactPlacesRank", fn := fun _ => fun
  | [d1, d2] => { results := [.lit (.bool true)], args := [d1, d2] }
  | _ => none }
def fnExactPlacesRankRow : OpenClaim := { program := "ytnheioohmcgpjaa", sum := "56fecd84bc5ad524ff50f86b56c8985e6bf30cd4b2345b592fd802ecd44a1b51", func := "loop.example/g03207/laws.FnExactPlacesRank", spec := "fnExactPlacesRank", apart := false }
def FnExactPlacesRankSaid : Prop := fnExactPlacesRankRow.holds Try.pinned (OpenSpec.ofChange fnExactPlacesRankSpec)

/-- ITS FALSE NEIGHBOUR: 'it returns false'. Refute it at one input. -/
def fnExactPlacesRankWrong : ChangeSpec := { name := "fnExactPlacesRank", fn := fun _ => fun
  | [d1, d2] => { results := [.lit (.bool false)], args := [d1, d2] }
  | _ => none }
def FnExactPlacesRankWrongFalsely : Prop := fnExactPlacesRankRow.holds Try.pinned (OpenSpec.ofChange fnExactPlacesRankWrong)

/-- 'laws.FnExactIsMerging': WHATEVER THE INPUT: true; the input reads as it did. -/
def fnExactIsMergingSpec : ChangeSpec := { name := "fnExactIsMerging", fn := fun _ => fun
  | [d1, d2] => { results := [.lit (.bool true)], args := [d1, d2] }
  | _ => none }
def fnExactIsMergingRow : OpenClaim := { program := "ytnheioohmcgpjaa", sum := "56fecd84bc5ad524ff50f86b56c8985e6bf30cd4b2345b592fd802ecd44a1b51", func := "loop.example/g03207/laws.FnExactIsMerging", spec := "fnExactIsMerging", unfollowed := true, recurses := true, apart := false }
def FnExactIsMergingSaid : Prop := fnExactIsMergingRow.holds Try.pinned (OpenSpec.ofChange fnExactIsMergingSpec)

/-- ITS FALSE NEIGHBOUR: 'it returns false'. Refute it at one input. -/
def fnExactIsMergingWrong : ChangeSpec := { name := "fnExactIsMerging", fn := fun _ => fun
  | [d1, d2] => { results := [.lit (.bool false)], args := [d1, d2] }
  | _ => none }
def FnExactIsMergingWrongFalsely : Prop := fnExactIsMergingRow.holds Try.pinned (OpenSpec.ofChange fnExactIsMergingWrong)

/- THE SECOND FORM. 'bulk': how many values and letters a reading holds, each counted each time it is reached (what is shared counts as often as it is met; a slice's spare places count too). A statement '..UptoSaid' is the law's where the arguments, and the package variables that the reading takes, are together of bulk at most 1048576: NARROWER than '..Said'. Prove '..Said' where nothing that the law and all that it calls make is longer than what came in: it says more and counts as full. Else prove '..UptoSaid'. A law counts once. -/
mutual
def uptoBulk {H : Type} : DataW H → Nat
  | .lit (.string bytes) => bytes.length + 1
  | .lit _ => 1
  | .nil => 1
  | .ptr d => uptoBulk d + 1
  | .slice elems spare => uptoBulkAll elems + uptoBulkAll spare + 1
  | .agg parts => uptoBulkAll parts + 1
  | .iface _ d => uptoBulk d + 1
  | .map entries => uptoBulkEntries entries + 1
  | .held _ => 1
def uptoBulkAll {H : Type} : List (DataW H) → Nat
  | [] => 0
  | d :: r => uptoBulk d + uptoBulkAll r
def uptoBulkEntries {H : Type} : List (Lit × DataW H) → Nat
  | [] => 0
  | x :: r => uptoBulkEntry x + uptoBulkEntries r
def uptoBulkEntry {H : Type} : Lit × DataW H → Nat
  | (.string bytes, d) => bytes.length + uptoBulk d + 1
  | (_, d) => uptoBulk d + 1
 end
def uptoSmall : (H : Type) → List (DataW H) → Bool := fun _ ds => decide (uptoBulkAll ds ≤ 1048576)
def OpenSpec.upto (s : _root_.Go.ChangeSpec) : _root_.Go.OpenSpec := { _root_.Go.OpenSpec.ofChange s with cond := some uptoSmall }

/-- 'laws.FnExactBrickRounds', WHERE WHAT IT READS IS OF BULK AT MOST 1048576: true; the input reads as it did. -/
def fnExactBrickRoundsUptoRow : OpenClaim := { program := "ytnheioohmcgpjaa", sum := "56fecd84bc5ad524ff50f86b56c8985e6bf30cd4b2345b592fd802ecd44a1b51", func := "loop.example/g03207/laws.FnExactBrickRounds", spec := "fnExactBrickRounds", apart := false, narrowed := true }
def FnExactBrickRoundsUptoSaid : Prop := fnExactBrickRoundsUptoRow.holds Try.pinned (OpenSpec.upto fnExactBrickRoundsSpec)

/-- 'laws.FnExactCountPairs', WHERE WHAT IT READS IS OF BULK AT MOST 1048576: true; the input reads as it did. -/
def fnExactCountPairsUptoRow : OpenClaim := { program := "ytnheioohmcgpjaa", sum := "56fecd84bc5ad524ff50f86b56c8985e6bf30cd4b2345b592fd802ecd44a1b51", func := "loop.example/g03207/laws.FnExactCountPairs", spec := "fnExactCountPairs", apart := false, narrowed := true }
def FnExactCountPairsUptoSaid : Prop := fnExactCountPairsUptoRow.holds Try.pinned (OpenSpec.upto fnExactCountPairsSpec)

/-- 'laws.FnExactFaultyBits', WHERE WHAT IT READS IS OF BULK AT MOST 1048576: true; the input reads as it did. -/
def fnExactFaultyBitsUptoRow : OpenClaim := { program := "ytnheioohmcgpjaa", sum := "56fecd84bc5ad524ff50f86b56c8985e6bf30cd4b2345b592fd802ecd44a1b51", func := "loop.example/g03207/laws.FnExactFaultyBits", spec := "fnExactFaultyBits", apart := false, narrowed := true }
def FnExactFaultyBitsUptoSaid : Prop := fnExactFaultyBitsUptoRow.holds Try.pinned (OpenSpec.upto fnExactFaultyBitsSpec)

/-- 'laws.FnExactFindsFault', WHERE WHAT IT READS IS OF BULK AT MOST 1048576: true; the input reads as it did. -/
def fnExactFindsFaultUptoRow : OpenClaim := { program := "ytnheioohmcgpjaa", sum := "56fecd84bc5ad524ff50f86b56c8985e6bf30cd4b2345b592fd802ecd44a1b51", func := "loop.example/g03207/laws.FnExactFindsFault", spec := "fnExactFindsFault", apart := false, narrowed := true }
def FnExactFindsFaultUptoSaid : Prop := fnExactFindsFaultUptoRow.holds Try.pinned (OpenSpec.upto fnExactFindsFaultSpec)

/-- 'laws.FnExactSelectWire', WHERE WHAT IT READS IS OF BULK AT MOST 1048576: true; the input reads as it did. -/
def fnExactSelectWireUptoRow : OpenClaim := { program := "ytnheioohmcgpjaa", sum := "56fecd84bc5ad524ff50f86b56c8985e6bf30cd4b2345b592fd802ecd44a1b51", func := "loop.example/g03207/laws.FnExactSelectWire", spec := "fnExactSelectWire", unfollowed := true, recurses := true, apart := false, narrowed := true }
def FnExactSelectWireUptoSaid : Prop := fnExactSelectWireUptoRow.holds Try.pinned (OpenSpec.upto fnExactSelectWireSpec)

/-- 'laws.FnExactLiveNetwork', WHERE WHAT IT READS IS OF BULK AT MOST 1048576: true; the input reads as it did. -/
def fnExactLiveNetworkUptoRow : OpenClaim := { program := "ytnheioohmcgpjaa", sum := "56fecd84bc5ad524ff50f86b56c8985e6bf30cd4b2345b592fd802ecd44a1b51", func := "loop.example/g03207/laws.FnExactLiveNetwork", spec := "fnExactLiveNetwork", apart := false, narrowed := true }
def FnExactLiveNetworkUptoSaid : Prop := fnExactLiveNetworkUptoRow.holds Try.pinned (OpenSpec.upto fnExactLiveNetworkSpec)

/-- 'laws.FnExactSortNetwork', WHERE WHAT IT READS IS OF BULK AT MOST 1048576: true; the input reads as it did. -/
def fnExactSortNetworkUptoRow : OpenClaim := { program := "ytnheioohmcgpjaa", sum := "56fecd84bc5ad524ff50f86b56c8985e6bf30cd4b2345b592fd802ecd44a1b51", func := "loop.example/g03207/laws.FnExactSortNetwork", spec := "fnExactSortNetwork", recurses := true, apart := false, narrowed := true }
def FnExactSortNetworkUptoSaid : Prop := fnExactSortNetworkUptoRow.holds Try.pinned (OpenSpec.upto fnExactSortNetworkSpec)

/-- 'laws.FnExactIsSelecting', WHERE WHAT IT READS IS OF BULK AT MOST 1048576: true; the input reads as it did. -/
def fnExactIsSelectingUptoRow : OpenClaim := { program := "ytnheioohmcgpjaa", sum := "56fecd84bc5ad524ff50f86b56c8985e6bf30cd4b2345b592fd802ecd44a1b51", func := "loop.example/g03207/laws.FnExactIsSelecting", spec := "fnExactIsSelecting", apart := false, narrowed := true }
def FnExactIsSelectingUptoSaid : Prop := fnExactIsSelectingUptoRow.holds Try.pinned (OpenSpec.upto fnExactIsSelectingSpec)

/-- 'laws.FnExactInsertWire', WHERE WHAT IT READS IS OF BULK AT MOST 1048576: true; the input reads as it did. -/
def fnExactInsertWireUptoRow : OpenClaim := { program := "ytnheioohmcgpjaa", sum := "56fecd84bc5ad524ff50f86b56c8985e6bf30cd4b2345b592fd802ecd44a1b51", func := "loop.example/g03207/laws.FnExactInsertWire", spec := "fnExactInsertWire", apart := false, narrowed := true }
def FnExactInsertWireUptoSaid : Prop := fnExactInsertWireUptoRow.holds Try.pinned (OpenSpec.upto fnExactInsertWireSpec)

/-- 'laws.FnExactRankRange', WHERE WHAT IT READS IS OF BULK AT MOST 1048576: true; the input reads as it did. -/
def fnExactRankRangeUptoRow : OpenClaim := { program := "ytnheioohmcgpjaa", sum := "56fecd84bc5ad524ff50f86b56c8985e6bf30cd4b2345b592fd802ecd44a1b51", func := "loop.example/g03207/laws.FnExactRankRange", spec := "fnExactRankRange", apart := false, narrowed := true }
def FnExactRankRangeUptoSaid : Prop := fnExactRankRangeUptoRow.holds Try.pinned (OpenSpec.upto fnExactRankRangeSpec)

/-- 'laws.FnExactPlacesRank', WHERE WHAT IT READS IS OF BULK AT MOST 1048576: true; the input reads as it did. -/
def fnExactPlacesRankUptoRow : OpenClaim := { program := "ytnheioohmcgpjaa", sum := "56fecd84bc5ad524ff50f86b56c8985e6bf30cd4b2345b592fd802ecd44a1b51", func := "loop.example/g03207/laws.FnExactPlacesRank", spec := "fnExactPlacesRank", apart := false, narrowed := true }
def FnExactPlacesRankUptoSaid : Prop := fnExactPlacesRankUptoRow.holds Try.pinned (OpenSpec.upto fnExactPlacesRankSpec)

/-- 'laws.FnExactIsMerging', WHERE WHAT IT READS IS OF BULK AT MOST 1048576: true; the input reads as it did. -/
def fnExactIsMergingUptoRow : OpenClaim := { program := "ytnheioohmcgpjaa", sum := "56fecd84bc5ad524ff50f86b56c8985e6bf30cd4b2345b592fd802ecd44a1b51", func := "loop.example/g03207/laws.FnExactIsMerging", spec := "fnExactIsMerging", unfollowed := true, recurses := true, apart := false, narrowed := true }
def FnExactIsMergingUptoSaid : Prop := fnExactIsMergingUptoRow.holds Try.pinned (OpenSpec.upto fnExactIsMergingSpec)

end Rows
end Go.Proofs.Ytnheioohmcgpjaa
