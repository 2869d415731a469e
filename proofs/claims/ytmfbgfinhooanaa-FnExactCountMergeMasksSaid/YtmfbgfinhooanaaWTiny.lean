/- The laws over least depth, least pairs, merge masks and the pair bound return true, by their walks. Conditions: none. -/
import Derived.Test.YtmfbgfinhooanaaPairB
namespace Go.Proofs.Ytmfbgfinhooanaa
open Go.RowKit

theorem fnExactLeastDepth_walk (a0 : Int) (_w0 : (Lit.int .i64 a0).wf = true) (w : World) :
    Calls Try.prog 3 #[.int .i64 a0] w fun e w' => e = .returned (.bool true) ∧ Below w.heap.size w w' := by
  by_cases h : inB a0 1 4 = true
  · have h' : 1 ≤ a0 ∧ a0 ≤ 4 := by simpa [inB] using h
    rcases (by omega : a0 = 1 ∨ a0 = 2 ∨ a0 = 3 ∨ a0 = 4) with rfl | rfl | rfl | rfl
    all_goals
      go_enter Try.func3, Try.ntmps3
      go_wp2
      go_ret
      exact ⟨rfl, by repeat (first | exact Below.refl _ _ | apply Below.drew | refine Below.alloc ?_ (by simp) _)⟩
  · have h' : inB a0 1 4 = false := by simpa using h
    clear h
    go_enter Try.func3, Try.ntmps3
    go_wp2_with (first | (go_at_call 21; refine (l12N_c _ _).mono ?_; rintro e w' ⟨rfl, rfl⟩) | (go_at_call 22; refine (isFew_c _ _).mono ?_; rintro e w' ⟨rfl, rfl⟩) | go_in)
    go_ret
    exact ⟨rfl, Below.refl _ _⟩
theorem fnExactLeastPairs_walk (a0 : Int) (_w0 : (Lit.int .i64 a0).wf = true) (w : World) :
    Calls Try.prog 4 #[.int .i64 a0] w fun e w' => e = .returned (.bool true) ∧ Below w.heap.size w w' := by
  by_cases h : inB a0 1 4 = true
  · have h' : 1 ≤ a0 ∧ a0 ≤ 4 := by simpa [inB] using h
    rcases (by omega : a0 = 1 ∨ a0 = 2 ∨ a0 = 3 ∨ a0 = 4) with rfl | rfl | rfl | rfl
    all_goals
      go_enter Try.func4, Try.ntmps4
      go_wp2
      go_ret
      exact ⟨rfl, by repeat (first | exact Below.refl _ _ | apply Below.drew | refine Below.alloc ?_ (by simp) _)⟩
  · have h' : inB a0 1 4 = false := by simpa using h
    clear h
    go_enter Try.func4, Try.ntmps4
    go_wp2_with (first | (go_at_call 21; refine (l12N_c _ _).mono ?_; rintro e w' ⟨rfl, rfl⟩) | (go_at_call 22; refine (isFew_c _ _).mono ?_; rintro e w' ⟨rfl, rfl⟩) | go_in)
    go_ret
    exact ⟨rfl, Below.refl _ _⟩

theorem fnExactCountMergeMasks_walk (a0 : Int) (_w0 : (Lit.int .i64 a0).wf = true) (a1 : Int) (_w1 : (Lit.int .i64 a1).wf = true) (w : World) :
    Calls Try.prog 5 #[.int .i64 a0, .int .i64 a1] w fun e w' => e = .returned (.bool true) ∧ Below w.heap.size w w' := by
  by_cases h : sizesB a0 a1 = true
  · have h' : (0 ≤ a0 ∧ a0 ≤ 8) ∧ (0 ≤ a1 ∧ a1 ≤ 8) ∧ (1 ≤ a0 + a1 ∧ a0 + a1 ≤ 8) := by simpa [sizesB, inB] using h
    obtain ⟨⟨b1, b2⟩, ⟨b3, b4⟩, b5, b6⟩ := h'
    go_enter Try.func5, Try.ntmps5
    go_wp2_with (first | (go_at_call 23; refine (l08Sizes_c _ _ _).mono ?_; rintro e w' ⟨rfl, rfl⟩) | (go_at_call 24; refine (areParts_c _ _ _).mono ?_; rintro e w' ⟨rfl, rfl⟩) | go_in)
    go_ret
    exact ⟨rfl, Below.refl _ _⟩
  · have h' : sizesB a0 a1 = false := by simpa using h
    clear h
    go_enter Try.func5, Try.ntmps5
    go_wp2_with (first | (go_at_call 23; refine (l08Sizes_c _ _ _).mono ?_; rintro e w' ⟨rfl, rfl⟩) | (go_at_call 24; refine (areParts_c _ _ _).mono ?_; rintro e w' ⟨rfl, rfl⟩) | go_in)
    go_ret
    exact ⟨rfl, Below.refl _ _⟩

theorem fnExactPairBound_walk (a0 : Int) (_w0 : (Lit.int .i64 a0).wf = true) (w : World) :
    Calls Try.prog 6 #[.int .i64 a0] w fun e w' => e = .returned (.bool true) ∧ Below w.heap.size w w' := by
  by_cases h : inB a0 1 8 = true
  · have h' : 1 ≤ a0 ∧ a0 ≤ 8 := by simpa [inB] using h
    obtain ⟨n, rfl⟩ := Int.eq_ofNat_of_zero_le (by omega : 0 ≤ a0)
    have h1 : 1 ≤ n := by omega
    have h2 : n ≤ 8 := by omega
    go_enter Try.func6, Try.ntmps6
    go_wp2_with (first | (go_at_call 15; refine (PairBound_s n _ h1 h2 h).mono ?_; rintro e w' ⟨rfl, rfl⟩) | (go_at_call 16; refine (PairBound_i n _ h1 h2 h).mono ?_; rintro e w' ⟨rfl, rfl⟩))
    go_ret
    exact ⟨rfl, Below.refl _ _⟩
  · have h' : inB a0 1 8 = false := by simpa using h
    clear h
    go_enter Try.func6, Try.ntmps6
    go_wp2_with (first | (go_at_call 15; refine (PairBound_s_no _ _ h').mono ?_; rintro e w' ⟨rfl, rfl⟩) | (go_at_call 16; refine (PairBound_i_no _ _ h').mono ?_; rintro e w' ⟨rfl, rfl⟩))
    go_ret
    exact ⟨rfl, Below.refl _ _⟩
end Go.Proofs.Ytmfbgfinhooanaa
