/- The contracts of the small tests of the program and of the reference: each call returns the test's value and leaves the world as it was. Conditions: none. -/
import Derived.Test.YtiodolbgapjmkaaChecked
import Derived.WalkKit
import Derived.WalkLawsBesides
namespace Go.Proofs.Ytiodolbgapjmkaa
open Go.RowKit

/-- 'n' lies from 'lo' to 'hi'. -/
def inB (n lo hi : Int) : Bool := decide (lo ≤ n) && decide (n ≤ hi)
theorem inB_of {n lo hi : Int} (h : inB n lo hi = true) : lo ≤ n ∧ n ≤ hi := by simpa [inB] using h
theorem inB_mk {n lo hi : Int} (h : lo ≤ n ∧ n ≤ hi) : inB n lo hi = true := by simpa [inB] using h
theorem inB_no {n lo hi : Int} (h : n < lo ∨ hi < n) : inB n lo hi = false := by simp [inB]; omega

theorem l01In_c (n lo hi : Int) (w : World) : Calls Try.prog 151 #[.int .i64 n, .int .i64 lo, .int .i64 hi] w fun e w' => e = .returned (.bool (inB n lo hi)) ∧ w = w' := by
  by_cases h1 : lo ≤ n
  all_goals by_cases h2 : n ≤ hi
  all_goals
    go_enter Try.func151, Try.ntmps151
    go_wp2
    go_ret
    exact ⟨by simp [inB, h1, h2], rfl⟩
theorem l12N_c (n : Int) (w : World) : Calls Try.prog 150 #[.int .i64 n] w fun e w' => e = .returned (.bool (inB n 1 4)) ∧ w = w' := by
  go_enter Try.func150, Try.ntmps150
  go_wp2_with (go_at_call 151; refine (l01In_c _ _ _ _).mono ?_; rintro e w' ⟨rfl, rfl⟩)
  go_ret
  exact ⟨rfl, rfl⟩
theorem l07N_c (n : Int) (w : World) : Calls Try.prog 175 #[.int .i64 n] w fun e w' => e = .returned (.bool (inB n 1 8)) ∧ w = w' := by
  go_enter Try.func175, Try.ntmps175
  go_wp2_with (go_at_call 151; refine (l01In_c _ _ _ _).mono ?_; rintro e w' ⟨rfl, rfl⟩)
  go_ret
  exact ⟨rfl, rfl⟩
theorem isFew_c (n : Int) (w : World) : Calls Try.prog 160 #[.int .i64 n] w fun e w' => e = .returned (.bool (inB n 1 4)) ∧ w = w' := by
  by_cases h1 : 1 ≤ n
  all_goals by_cases h2 : n ≤ 4
  all_goals
    go_enter Try.func160, Try.ntmps160
    go_wp2
    go_ret
    exact ⟨by simp [inB, h1, h2], rfl⟩
theorem isWires_c (n : Int) (w : World) : Calls Try.prog 105 #[.int .i64 n] w fun e w' => e = .returned (.bool (inB n 1 8)) ∧ w = w' := by
  by_cases h1 : 1 ≤ n
  all_goals by_cases h2 : n ≤ 8
  all_goals
    go_enter Try.func105, Try.ntmps105
    go_wp2
    go_ret
    exact ⟨by simp [inB, h1, h2], rfl⟩
/-- Two sizes of parts. -/
def sizesB (m n : Int) : Bool := inB m 0 8 && (inB n 0 8 && inB (m + n) 1 8)
theorem areParts_c (m n : Int) (w : World) : Calls Try.prog 107 #[.int .i64 m, .int .i64 n] w fun e w' => e = .returned (.bool (sizesB m n)) ∧ w = w' := by
  rcases (by omega : m < 0 ∨ (0 ≤ m ∧ n < 0) ∨ (0 ≤ m ∧ 0 ≤ n ∧ 8 < m) ∨ (0 ≤ m ∧ 0 ≤ n ∧ m ≤ 8 ∧ 8 < n) ∨ (0 ≤ m ∧ 0 ≤ n ∧ m ≤ 8 ∧ n ≤ 8)) with h | ⟨h1, h⟩ | ⟨h1, h2, h⟩ | ⟨h1, h2, h3, h⟩ | ⟨h1, h2, h3, h4⟩
  all_goals
    have hs : Hid (sizesB m n = sizesB m n) := rfl
    go_enter Try.func107, Try.ntmps107
    go_wp2_with (go_at_call 105; refine (isWires_c _ _).mono ?_; rintro e w' ⟨rfl, rfl⟩)
    go_ret
    refine ⟨?_, rfl⟩
  · simp [sizesB, inB_no (Or.inl h)]
  · simp [sizesB, inB_no (n := n) (lo := 0) (hi := 8) (Or.inl h)]
  · simp [sizesB, inB_no (n := m) (lo := 0) (hi := 8) (Or.inr h)]
  · simp [sizesB, inB_no (n := n) (lo := 0) (hi := 8) (Or.inr h)]
  · simp [sizesB, inB_mk (n := m) (lo := 0) (hi := 8) ⟨h1, h3⟩, inB_mk (n := n) (lo := 0) (hi := 8) ⟨h2, h4⟩]
/-- 1, 2, 4 or 8. -/
def powB (n : Int) : Bool := n == 1 || n == 2 || n == 4 || n == 8
theorem isPower_c (n : Int) (w : World) : Calls Try.prog 118 #[.int .i64 n] w fun e w' => e = .returned (.bool (powB n)) ∧ w = w' := by
  by_cases h1 : n = 1
  · subst h1
    go_enter Try.func118, Try.ntmps118
    go_wp2
    go_ret
    exact ⟨rfl, rfl⟩
  by_cases h2 : n = 2
  · subst h2
    go_enter Try.func118, Try.ntmps118
    go_wp2
    go_ret
    exact ⟨rfl, rfl⟩
  by_cases h4 : n = 4
  · subst h4
    go_enter Try.func118, Try.ntmps118
    go_wp2
    go_ret
    exact ⟨rfl, rfl⟩
  by_cases h8 : n = 8
  · subst h8
    go_enter Try.func118, Try.ntmps118
    go_wp2
    go_ret
    exact ⟨rfl, rfl⟩
  have e1 : (n == 1) = false := by rw [beq_eq_false_iff_ne]; exact h1
  have e2 : (n == 2) = false := by rw [beq_eq_false_iff_ne]; exact h2
  have e4 : (n == 4) = false := by rw [beq_eq_false_iff_ne]; exact h4
  have e8 : (n == 8) = false := by rw [beq_eq_false_iff_ne]; exact h8
  have HP : Hid (powB n = false) := by show powB n = false; simp [powB, e1, e2, e4, e8]
  clear h1 h2 h4 h8
  go_enter Try.func118, Try.ntmps118
  go_wp2
  go_ret
  exact ⟨congrArg (fun b => Ending.returned (.bool b)) HP.out.symm, rfl⟩
end Go.Proofs.Ytiodolbgapjmkaa
