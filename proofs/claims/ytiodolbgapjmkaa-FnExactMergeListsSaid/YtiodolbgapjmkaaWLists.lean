/- The walk of the law FnExactMergeLists. Conditions: none. -/
import Derived.Test.YtiodolbgapjmkaaMergeS
import Derived.Test.YtiodolbgapjmkaaMMergeLists
namespace Go.Proofs.Ytiodolbgapjmkaa
open Go.RowKit
theorem mergeL_len (a b : List Int) : (mergeL a b).length ≤ 1000000000 := by
  unfold mergeL
  split
  · rename_i h
    rw [sortI_len, List.length_append]; omega
  · simp
theorem fnExactMergeLists_walk (w : World) (u0 : Value) (x0 : List Int) (hu0 : IntsV w 0 w.heap.size u0 x0) (hm0 : x0.length ≤ maxLen) (u1 : Value) (x1 : List Int) (hu1 : IntsV w 0 w.heap.size u1 x1) (hm1 : x1.length ≤ maxLen) :
    Calls Try.prog 3 #[u0, u1] w fun e w' => e = .returned (.bool true) ∧ Below w.heap.size w w' :=
  FnExactMergeLists_core w u0 x0 hu0 hm0 u1 x1 hu1 hm1 (mergeL x0 x1) (mergeL_len x0 x1)
    (fun w l0 h0 v0 l1 h1 v1 a1 a2 a3 b1 b2 b3 => MergeLists_s_c l0 h0 v0 l1 h1 v1 x0 x1 w (OwnI.ints a1) a2 a3 (OwnI.ints b1) b2 b3)
    (fun w l0 h0 v0 l1 h1 v1 a1 a2 a3 b1 b2 b3 => MergeLists_i_c l0 h0 v0 l1 h1 v1 x0 x1 w (OwnI.ints a1) a2 a3 (OwnI.ints b1) b2 b3)
end Go.Proofs.Ytiodolbgapjmkaa
