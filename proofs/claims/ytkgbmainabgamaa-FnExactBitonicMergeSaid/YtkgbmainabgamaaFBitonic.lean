/- The laws over BitonicMerge and BitonicNetwork return true. Conditions: none. -/
import Derived.Test.YtkgbmainabgamaaWBitonic
import Derived.Test.YtkgbmainabgamaaLBitonicMerge
import Derived.Test.YtkgbmainabgamaaLBitonicNetwork
namespace Go.Proofs.Ytkgbmainabgamaa
open Go.RowKit
set_option maxRecDepth 100000
theorem fnExactBitonicMerge_walk (a0 : Int) (_w0 : (Lit.int .i64 a0).wf = true) (w : World) :
    Calls Try.prog 8 #[.int .i64 a0] w fun e w' => e = .returned (.bool true) ∧ Below w.heap.size w w' :=
  FnExactBitonicMerge_core a0 w _ _ _ (XBitonicMerge_small a0) (BitonicMerge_s_c a0) (BitonicMerge_i_c a0)
theorem fnExactBitonicNetwork_walk (a0 : Int) (_w0 : (Lit.int .i64 a0).wf = true) (w : World) :
    Calls Try.prog 10 #[.int .i64 a0] w fun e w' => e = .returned (.bool true) ∧ Below w.heap.size w w' :=
  FnExactBitonicNetwork_core a0 w _ _ _ (XBitonicNetwork_small a0) (BitonicNetwork_s_c a0) (BitonicNetwork_i_c a0)
end Go.Proofs.Ytkgbmainabgamaa
