/- The contracts of the small tests of the program and of the reference: each call returns the test's value and leaves the world as it was. Conditions: none. -/
import Derived.Test.YtbnldajkogmadaaChecked
import Derived.WalkKit
import Derived.WalkLawsBesides
namespace Go.Proofs.Ytbnldajkogmadaa
open Go.RowKit

/-- 'n' lies from 'lo' to 'hi'. -/
def inB (n lo hi : Int) : Bool := decide (lo ≤ n) && decide (n ≤ hi)
theorem inB_of {n lo hi : Int} (h : inB n lo hi = true) : lo ≤ n ∧ n ≤ hi := by simpa [inB] using h
theorem inB_mk {n lo hi : Int} (h : lo ≤ n ∧ n ≤ hi) : inB n lo hi = true := by simpa [inB] using h
theorem inB_no {n lo hi : Int} (h : n < lo ∨ hi < n) : inB n lo hi = false := by simp [inB]; omega

theorem l01In_c (n lo hi : Int) (w : World) : Calls Try.prog 65 #[.int .i64 n, .int .i64 lo, .int .i64 hi] w fun e w' => e = .returned (.bool (inB n lo hi)) ∧ w = w' := by
  by_cases h1 : lo ≤ n
  all_goals by_cases h2 : n ≤ hi
  all_goals
    go_enter Try.func65, Try.ntmps65
    go_wp2
    go_ret
    exact ⟨by simp [inB, h1, h2], rfl⟩
theorem l12N_c (n : Int) (w : World) : Calls Try.prog 104 #[.int .i64 n] w fun e w' => e = .returned (.bool (inB n 1 4)) ∧ w = w' := by
  go_enter Try.func104, Try.ntmps104
  go_wp2_with (go_at_call 65; refine (l01In_c _ _ _ _).mono ?_; rintro e w' ⟨rfl, rfl⟩)
  go_ret
  exact ⟨rfl, rfl⟩
theorem l07N_c (n : Int) (w : World) : Calls Try.prog 109 #[.int .i64 n] w fun e w' => e = .returned (.bool (inB n 1 8)) ∧ w = w' := by
  go_enter Try.func109, Try.ntmps109
  go_wp2_with (go_at_call 65; refine (l01In_c _ _ _ _).mono ?_; rintro e w' ⟨rfl, rfl⟩)
  go_ret
  exact ⟨rfl, rfl⟩
theorem isFew_c (n : Int) (w : World) : Calls Try.prog 106 #[.int .i64 n] w fun e w' => e = .returned (.bool (inB n 1 4)) ∧ w = w' := by
  by_cases h1 : 1 ≤ n
  all_goals by_cases h2 : n ≤ 4
  all_goals
    go_enter Try.func106, Try.ntmps106
    go_wp2
    go_ret
    exact ⟨by simp [inB, h1, h2], rfl⟩
theorem isWires_c (n : Int) (w : World) : Calls Try.prog 98 #[.int .i64 n] w fun e w' => e = .returned (.bool (inB n 1 8)) ∧ w = w' := by
  by_cases h1 : 1 ≤ n
  all_goals by_cases h2 : n ≤ 8
  all_goals
    go_enter Try.func98, Try.ntmps98
    go_wp2
    go_ret
    exact ⟨by simp [inB, h1, h2], rfl⟩
/-- Two sizes of parts. -/
def sizesB (m n : Int) : Bool := inB m 0 8 && (inB n 0 8 && inB (m + n) 1 8)
/-- 1, 2, 4 or 8. -/
def powB (n : Int) : Bool := n == 1 || n == 2 || n == 4 || n == 8
end Go.Proofs.Ytbnldajkogmadaa
