/- One round of bricks, the reference's: the pairs of neighbors from 0 or 1 on. Conditions: at most eight wires and rounds. -/
import Derived.Test.YtiodolbgapjmkaaRowApp
import Derived.Test.YtiodolbgapjmkaaSmall
namespace Go.Proofs.Ytiodolbgapjmkaa
open Go.RowKit
set_option maxRecDepth 100000

/-- The pairs of a round. -/
def brickR (_n p k : Nat) : List (List Int) := (List.range k).map fun k : Nat => [(p : Int) + 2 * k, (p : Int) + 2 * k + 1]
theorem brickR_succ (n p k : Nat) : brickR n p (k + 1) = brickR n p k ++ [[(p : Int) + 2 * k, (p : Int) + 2 * k + 1]] := by simp [brickR, List.range_succ]
theorem brickR_length (n p k : Nat) : (brickR n p k).length = k := by simp [brickR]

end Go.Proofs.Ytiodolbgapjmkaa
