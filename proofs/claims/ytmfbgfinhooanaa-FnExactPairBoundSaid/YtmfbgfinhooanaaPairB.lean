/- The pair bound, in the program and in the reference, by its contract. Conditions: none. -/
import Derived.Test.YtmfbgfinhooanaaSmall
namespace Go.Proofs.Ytmfbgfinhooanaa
open Go.RowKit
def fct : Nat → Nat | 0 => 1 | k+1 => fct k * (k+1)
def lgf (n : Nat) : Nat := [0,0,1,3,5,7,10,13,16].getD n 0
theorem fct_wrap (k : Nat) (h : k < 8) : wrap64 ((fct k : Int) * ((k : Int) + 1)) = ((fct (k+1) : Nat) : Int) := by
  have : ∀ k < 8, wrap64 ((fct k : Int) * ((k : Int) + 1)) = ((fct (k+1) : Nat) : Int) := by decide +kernel
  exact this k h
theorem lgf_le (n : Nat) (h : n ≤ 8) : lgf n ≤ 16 := by
  have : ∀ n ≤ 8, lgf n ≤ 16 := by decide +kernel
  exact this n h
theorem lgf_lt (n j : Nat) (h : n ≤ 8) (h1 : 1 ≤ n) (hj : j < lgf n) : wrap64 (2 ^ j) < (fct n : Int) := by
  have : ∀ n ≤ 8, 1 ≤ n → ∀ j < lgf n, wrap64 (2 ^ j) < (fct n : Int) := by decide +kernel
  exact this n h h1 j hj
theorem lgf_ge (n : Nat) (h : n ≤ 8) (h1 : 1 ≤ n) : ¬ wrap64 (2 ^ lgf n) < (fct n : Int) := by
  have : ∀ n ≤ 8, 1 ≤ n → ¬ wrap64 (2 ^ lgf n) < (fct n : Int) := by decide +kernel
  exact this n h h1
theorem PairBound_i (n : Nat) (w : World) (h1 : 1 ≤ n) (h2 : n ≤ 8) (hb : inB (n : Int) 1 8 = true) : Calls Try.prog 16 #[.int .i64 n] w fun e w' => e = .returned (.int .i64 (lgf n)) ∧ w = w' := by
  have hl := lgf_le n h2
  go_enter Try.func16, Try.ntmps16
  go_wp2_with (first | (go_at_call 26; refine (isWires_c _ _).mono ?_; rintro e w' ⟨rfl, rfl⟩) )
  go_loop [3, 10] (fun o i => ∃ k : Nat, k ≤ n ∧ i = .int .i64 k ∧ o = .int .i64 (fct k)) (fun _ i => n - (intOf i).toNat)
  case atStart => exact ⟨0, Nat.zero_le _, rfl, rfl⟩
  case round =>
    obtain ⟨k, hk, rfl, rfl⟩ := hrel
    by_cases hlt : k < n
    · have HW : Hid (wrap64 ((fct k : Int) * ((k : Int) + 1)) = ((fct (k+1) : Nat) : Int)) := fct_wrap k (by omega)
      go_wp2
      go_round
      case rel => exact ⟨k+1, by omega, by go_num, by rw [HW.out]⟩
      case measure => simp [intOf]; omega
    · obtain rfl : k = n := by omega
      go_wp2
      go_loop [5] (fun o => ∃ j : Nat, j ≤ lgf k ∧ o = .int .i64 j) (fun o => lgf k - (intOf o).toNat)
      case atStart => exact ⟨0, Nat.zero_le _, rfl⟩
      case round =>
        obtain ⟨j, hj, rfl⟩ := hrel
        by_cases hjl : j < lgf k
        · have hf := lgf_lt k j h2 h1 hjl
          go_wp2
          go_round
          case rel => exact ⟨j+1, by omega, by go_num⟩
          case measure => simp [intOf]; omega
        · have HE : Hid (j = lgf k) := by show j = lgf k; omega
          have hf : (fct k : Int) ≤ wrap64 (2 ^ j) := by rw [HE.out]; exact Int.not_lt.1 (lgf_ge k h2 h1)
          go_wp2
          go_ret
          exact ⟨congrArg (fun n : Nat => Ending.returned (.int .i64 n)) HE.out, rfl⟩
theorem PairBound_i_no (n : Int) (w : World) (hb : inB n 1 8 = false) : Calls Try.prog 16 #[.int .i64 n] w fun e w' => e = .returned (.int .i64 (-1)) ∧ w = w' := by
  go_enter Try.func16, Try.ntmps16
  go_wp2_with (go_at_call 26; refine (isWires_c _ _).mono ?_; rintro e w' ⟨rfl, rfl⟩)
  go_ret
  exact ⟨rfl, rfl⟩
theorem PairBound_s (n : Nat) (w : World) (h1 : 1 ≤ n) (h2 : n ≤ 8) (hb : inB (n : Int) 1 8 = true) : Calls Try.prog 15 #[.int .i64 n] w fun e w' => e = .returned (.int .i64 (lgf n)) ∧ w = w' := by
  have hl := lgf_le n h2
  go_enter Try.func15, Try.ntmps15
  go_wp2_with (first | (go_at_call 25; refine (l07N_c _ _).mono ?_; rintro e w' ⟨rfl, rfl⟩) )
  go_loop [3, 4] (fun o i => ∃ k : Nat, 1 ≤ k ∧ k ≤ n ∧ i = .int .i64 ((k : Int) + 1) ∧ o = .int .i64 (fct k)) (fun _ i => n + 1 - (intOf i).toNat)
  case atStart => exact ⟨1, by omega, h1, by go_num, rfl⟩
  case round =>
    obtain ⟨k, hk1, hk, rfl, rfl⟩ := hrel
    by_cases hlt : k < n
    · have HW : Hid (wrap64 ((fct k : Int) * ((k : Int) + 1)) = ((fct (k+1) : Nat) : Int)) := fct_wrap k (by omega)
      go_wp2
      go_round
      case rel => exact ⟨k+1, by omega, by omega, by go_num, by rw [HW.out]⟩
      case measure => simp [intOf]; omega
    · obtain rfl : k = n := by omega
      go_wp2
      go_loop [5] (fun o => ∃ j : Nat, j ≤ lgf k ∧ o = .int .i64 j) (fun o => lgf k - (intOf o).toNat)
      case atStart => exact ⟨0, Nat.zero_le _, rfl⟩
      case round =>
        obtain ⟨j, hj, rfl⟩ := hrel
        by_cases hjl : j < lgf k
        · have hf := lgf_lt k j h2 h1 hjl
          go_wp2
          go_round
          case rel => exact ⟨j+1, by omega, by go_num⟩
          case measure => simp [intOf]; omega
        · have HE : Hid (j = lgf k) := by show j = lgf k; omega
          have hf : (fct k : Int) ≤ wrap64 (2 ^ j) := by rw [HE.out]; exact Int.not_lt.1 (lgf_ge k h2 h1)
          go_wp2
          go_ret
          exact ⟨congrArg (fun n : Nat => Ending.returned (.int .i64 n)) HE.out, rfl⟩
theorem PairBound_s_no (n : Int) (w : World) (hb : inB n 1 8 = false) : Calls Try.prog 15 #[.int .i64 n] w fun e w' => e = .returned (.int .i64 (-1)) ∧ w = w' := by
  go_enter Try.func15, Try.ntmps15
  go_wp2_with (go_at_call 25; refine (l07N_c _ _).mono ?_; rintro e w' ⟨rfl, rfl⟩)
  go_ret
  exact ⟨rfl, rfl⟩
end Go.Proofs.Ytmfbgfinhooanaa
