/- The law over LiveNetwork. Conditions: none. -/
import Derived.Test.YtnheioohmcgpjaaLive2
import Derived.Test.YtnheioohmcgpjaaMLiveNetwork
namespace Go.Proofs.Ytnheioohmcgpjaa
open Go.RowKit
theorem fnExactLiveNetwork_walk (w : World) (a0 : Int) (u0 : Value) (us0 : List Value) (x0 : List (List Int)) (hu : RowsV w 0 w.heap.size u0 us0 x0) (hm : x0.length ≤ maxLen) (hn : ∀ xs ∈ x0, xs.length ≤ maxLen) (u1 : Value) (x1 : List Int) (hu1 : IntsV w 0 w.heap.size u1 x1) (hm1 : x1.length ≤ maxLen) :
    Calls Try.prog 8 #[.agg #[.int .i64 a0, u0], u1] w fun e w' => e = .returned (.bool true) ∧ Below w.heap.size w w' :=
  FnExactLiveNetwork_core w a0 u0 us0 x0 hu hm hn u1 x1 hu1 hm1 _ _ _ (liveX_small a0 x0 x1)
    (fun w l0 h0 v0 vs0 l1 h1 v1 a b _ d e f => LiveNetwork_s_c a0 l0 h0 l1 h1 v0 vs0 x0 v1 x1 w a b (OwnI.ints d) e f)
    (fun w l0 h0 v0 vs0 l1 h1 v1 a b _ d e f => LiveNetwork_i_c a0 l0 h0 l1 h1 v0 vs0 x0 v1 x1 w a b (OwnI.ints d) e f)
end Go.Proofs.Ytnheioohmcgpjaa
