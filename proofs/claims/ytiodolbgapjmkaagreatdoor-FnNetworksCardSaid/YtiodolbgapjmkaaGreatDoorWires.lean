/- Lists of wires: a run of numbers, every second element, lists put together; the program's functions and the reference's, by their contracts. Conditions: lists are short. -/
import Derived.Test.YtiodolbgapjmkaaGreatDoorInts
import Derived.Test.YtiodolbgapjmkaaGreatDoorSmall
namespace Go.Proofs.YtiodolbgapjmkaaGreatDoor
open Go.RowKit
set_option maxRecDepth 100000

/-- n numbers from one on. -/
def upI (a : Int) (n : Nat) : List Int := (List.range n).map fun i : Nat => a + (i : Int)
theorem upI_length (a : Int) (n : Nat) : (upI a n).length = n := by simp [upI]
theorem upI_succ (a : Int) (n : Nat) : upI a (n + 1) = upI a n ++ [a + (n : Int)] := by simp [upI, List.range_succ]


/-- Of the first k elements those at indexes of parity p. -/
def halfK (p : Nat) (xs : List Int) (k : Nat) : List Int := ((List.range k).filter fun i => i % 2 == p).map fun i => xs.getD i 0
/-- Every second element. -/
def halfI (p : Nat) (xs : List Int) : List Int := halfK p xs xs.length
theorem halfK_hit (p : Nat) (xs : List Int) (k : Nat) (h : k % 2 = p) : halfK p xs (k + 1) = halfK p xs k ++ [xs.getD k 0] := by simp [halfK, List.range_succ, List.filter_append, h]
theorem halfK_miss (p : Nat) (xs : List Int) (k : Nat) (h : k % 2 ≠ p) : halfK p xs (k + 1) = halfK p xs k := by simp [halfK, List.range_succ, List.filter_append, h]
theorem halfK_le (p : Nat) (xs : List Int) (k : Nat) : (halfK p xs k).length ≤ k := by
  unfold halfK
  rw [List.length_map]
  exact Nat.le_trans (List.length_filter_le _ _) (by simp)

end Go.Proofs.YtiodolbgapjmkaaGreatDoor
