/- MergeSize on all arguments, and the laws over OddEvenMerge and MergeSize. Conditions: none. -/
import Derived.Test.YtiodolbgapjmkaaWMerge
namespace Go.Proofs.Ytiodolbgapjmkaa
open Go.RowKit
set_option maxRecDepth 100000

/-- The number of comparators of the merge, or -1. -/
def mrgSz (a b : Int) : Int := if sizesB a b = true then ((XOddEvenMerge a b).length : Nat) else -1
theorem MergeSize_i (a b : Int) (w : World) : Calls Try.prog 36 #[.int .i64 a, .int .i64 b] w fun e w' => e = .returned (.int .i64 (mrgSz a b)) ∧ Below w.heap.size w w' := by
  have hc := fun w => OddEvenMerge_i_c a b w
  have HC := Lib.hid hc
  clear hc
  cases h : sizesB a b
  · have HX : Hid ((if sizesB a b = true then a + b else 0) = 0 ∧ sizesB a b = false ∧ mrgSz a b = -1) := ⟨if_neg (by simp [h]), h, if_neg (by simp [h])⟩
    clear h
    go_enter Try.func36, Try.ntmps36
    go_wp2_with fail
    refine (HC.out _).mono ?_
    rintro e w1 ⟨v, vs, rfl, o1, b1⟩
    rw [HX.out.1, HX.out.2.1]
    obtain ⟨ao, g, cap, e, -, -, -⟩ := o1.rows
    obtain ⟨L, hL⟩ : ∃ L, L = (XOddEvenMerge a b).length := ⟨_, rfl⟩
    rw [← hL] at e
    subst e
    clear hL o1
    go_wp2
    go_ret
    refine ⟨?_, b1.alloc b1.size _⟩
    rw [HX.out.2.2]
    rfl
  · have HX : Hid ((if sizesB a b = true then a + b else 0) = a + b ∧ sizesB a b = true ∧ mrgSz a b = ((XOddEvenMerge a b).length : Nat)) := ⟨if_pos h, h, if_pos h⟩
    clear h
    go_enter Try.func36, Try.ntmps36
    go_wp2_with fail
    refine (HC.out _).mono ?_
    rintro e w1 ⟨v, vs, rfl, o1, b1⟩
    rw [HX.out.1, HX.out.2.1]
    obtain ⟨ao, g, cap, e, -, -, -⟩ := o1.rows
    obtain ⟨L, hL⟩ : ∃ L, L = (XOddEvenMerge a b).length := ⟨_, rfl⟩
    rw [← hL] at e
    subst e
    have HL := Lib.hid hL
    clear hL o1
    go_wp2
    go_ret
    refine ⟨?_, b1.alloc b1.size _⟩
    rw [HX.out.2.2, ← HL.out]
    rfl
end Go.Proofs.Ytiodolbgapjmkaa
