/- The contracts of the small tests of the program and of the reference: each call returns the test's value and leaves the world as it was. Conditions: none. -/
import Derived.Test.YtiodolbgapjmkaaGreatDoorChecked
import Derived.WalkKit
import Derived.WalkLawsBesides
namespace Go.Proofs.YtiodolbgapjmkaaGreatDoor
open Go.RowKit

/-- 'n' lies from 'lo' to 'hi'. -/
def inB (n lo hi : Int) : Bool := decide (lo ≤ n) && decide (n ≤ hi)
theorem inB_of {n lo hi : Int} (h : inB n lo hi = true) : lo ≤ n ∧ n ≤ hi := by simpa [inB] using h
theorem inB_mk {n lo hi : Int} (h : lo ≤ n ∧ n ≤ hi) : inB n lo hi = true := by simpa [inB] using h
theorem inB_no {n lo hi : Int} (h : n < lo ∨ hi < n) : inB n lo hi = false := by simp [inB]; omega

theorem isWires_c (n : Int) (w : World) : Calls Tryz.prog 51 #[.int .i64 n] w fun e w' => e = .returned (.bool (inB n 1 8)) ∧ w = w' := by
  by_cases h1 : 1 ≤ n
  all_goals by_cases h2 : n ≤ 8
  all_goals
    go_enter Tryz.func51, Tryz.ntmps51
    go_wp2
    go_ret
    exact ⟨by simp [inB, h1, h2], rfl⟩
/-- Two sizes of parts. -/
def sizesB (m n : Int) : Bool := inB m 0 8 && (inB n 0 8 && inB (m + n) 1 8)
/-- 1, 2, 4 or 8. -/
def powB (n : Int) : Bool := n == 1 || n == 2 || n == 4 || n == 8
end Go.Proofs.YtiodolbgapjmkaaGreatDoor
