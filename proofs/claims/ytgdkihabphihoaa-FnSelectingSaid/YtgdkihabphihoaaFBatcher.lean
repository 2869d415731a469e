/- BatcherNetwork and BatcherSize on all arguments, and the laws over them. Conditions: none. -/
import Derived.Test.YtgdkihabphihoaaBatN
namespace Go.Proofs.Ytgdkihabphihoaa
open Go.RowKit
set_option maxRecDepth 100000
/-- The number of comparators of Batcher's sorter, or -1. -/
def batSz (a : Int) : Int := if inB a 1 8 = true then ((XBatcherNetwork a).length : Nat) else -1
theorem BatcherSize_i (a : Int) (w : World) : Calls Try.prog 42 #[.int .i64 a] w fun e w' => e = .returned (.int .i64 (batSz a)) ∧ Below w.heap.size w w' := by
  have hc := fun w => BatcherNetwork_i_c a w
  have HC := Lib.hid hc
  clear hc
  cases h : inB a 1 8
  · have HX : Hid ((if inB a 1 8 = true then a else 0) = 0 ∧ inB a 1 8 = false ∧ batSz a = -1) := ⟨if_neg (by simp [h]), h, if_neg (by simp [h])⟩
    clear h
    go_enter Try.func42, Try.ntmps42
    go_wp2_with fail
    refine (HC.out _).mono ?_
    rintro e w1 ⟨v, vs, rfl, o1, b1⟩
    rw [HX.out.1, HX.out.2.1]
    obtain ⟨ao, g, cap, e, -, -, -⟩ := o1.rows
    obtain ⟨L, hL⟩ : ∃ L, L = (XBatcherNetwork a).length := ⟨_, rfl⟩
    rw [← hL] at e
    subst e
    clear hL o1
    go_wp2
    go_ret
    refine ⟨?_, b1.alloc b1.size _⟩
    rw [HX.out.2.2]
    rfl
  · have HX : Hid ((if inB a 1 8 = true then a else 0) = a ∧ inB a 1 8 = true ∧ batSz a = ((XBatcherNetwork a).length : Nat)) := ⟨if_pos h, h, if_pos h⟩
    clear h
    go_enter Try.func42, Try.ntmps42
    go_wp2_with fail
    refine (HC.out _).mono ?_
    rintro e w1 ⟨v, vs, rfl, o1, b1⟩
    rw [HX.out.1, HX.out.2.1]
    obtain ⟨ao, g, cap, e, -, -, -⟩ := o1.rows
    obtain ⟨L, hL⟩ : ∃ L, L = (XBatcherNetwork a).length := ⟨_, rfl⟩
    rw [← hL] at e
    subst e
    have HL := Lib.hid hL
    clear hL o1
    go_wp2
    go_ret
    refine ⟨?_, b1.alloc b1.size _⟩
    rw [HX.out.2.2, ← HL.out]
    rfl
end Go.Proofs.Ytgdkihabphihoaa
