/- The bits of masks: how many ones, the sorted mask, one comparator's step, in the program and in the reference, by their contracts. Conditions: at most eight wires. -/
import Derived.Test.YtiodolbgapjmkaaGreatDoorSmall
import Derived.Test.YtiodolbgapjmkaaGreatDoorLater
namespace Go.Proofs.YtiodolbgapjmkaaGreatDoor
open Go.RowKit
set_option maxRecDepth 100000

theorem ret_int {k : IntKind} {a b : Int} (h : a = b) : Ending.returned (.int k a) = .returned (.int k b) := by rw [h]
/-- How many ones a mask of eight bits has. -/
def popc (m : Nat) : Nat := m % 2 + m / 2 % 2 + m / 4 % 2 + m / 8 % 2 + m / 16 % 2 + m / 32 % 2 + m / 64 % 2 + m / 128 % 2
theorem popc_le (m : Nat) : popc m ≤ 8 := by unfold popc; omega
theorem popc_half (m : Nat) (h : m < 256) : popc m = m % 2 + popc (m / 2) := by unfold popc; omega
theorem popc_lt (n m : Nat) (hn : n ≤ 8) (h : m < 2 ^ n) : popc m ≤ n := by
  have : ∀ n ≤ 8, ∀ m < 2 ^ n, popc m ≤ n := by decide +kernel
  exact this n hn m h
theorem pow_le_256 (n : Nat) (hn : n ≤ 8) : 2 ^ n ≤ 256 := by
  have : 2 ^ n ≤ 2 ^ 8 := Nat.pow_le_pow_right (by omega) hn
  omega
/-- The sorted mask with as many ones. -/
def srt (n m : Nat) : Nat := (2 ^ popc m - 1) * 2 ^ (n - popc m)

theorem bits_one (m i : Nat) (h : m < 256) (hi : i < 8) : bits BinOp.and IntKind.i64 ((m : Int) / 2 ^ i) 1 = ((m / 2 ^ i % 2 : Nat) : Int) := by
  have : ∀ m < 256, ∀ i < 8, bits BinOp.and IntKind.i64 (((m : Nat) : Int) / 2 ^ i) 1 = ((m / 2 ^ i % 2 : Nat) : Int) := by decide +kernel
  exact this m h i hi
/-- What a comparator does to a mask. -/
def stp (m i k : Nat) : Nat := if m / 2 ^ i % 2 = 1 ∧ m / 2 ^ k % 2 = 0 then m - 2 ^ i + 2 ^ k else m
theorem stp_lt (m i k : Nat) (h : m < 256) (hi : i < 8) (hk : k < 8) : stp m i k < 256 := by
  have : ∀ m < 256, ∀ i < 8, ∀ k < 8, stp m i k < 256 := by decide +kernel
  exact this m h i hi k hk
theorem srt_wrap (n p : Nat) (hn : n ≤ 8) (hp : p ≤ n) : wrap64 (wrap64 (wrap64 (2 ^ p) - 1) * 2 ^ (n - p)) = (((2 ^ p - 1) * 2 ^ (n - p) : Nat) : Int) := by
  have : ∀ n ≤ 8, ∀ p ≤ n, wrap64 (wrap64 (wrap64 (2 ^ p) - 1) * 2 ^ (n - p)) = (((2 ^ p - 1) * 2 ^ (n - p) : Nat) : Int) := by decide +kernel
  exact this n hn p hp
theorem stp_xor (m i k : Nat) (h : m < 256) (hi : i < 8) (hk : k < 8) (h1 : m / 2 ^ i % 2 = 1) (h2 : m / 2 ^ k % 2 = 0) :
    bits BinOp.xor IntKind.i64 (bits BinOp.xor IntKind.i64 (m : Int) (wrap64 (2 ^ i))) (wrap64 (2 ^ k)) = ((stp m i k : Nat) : Int) := by
  have : ∀ m < 256, ∀ i < 8, ∀ k < 8, m / 2 ^ i % 2 = 1 → m / 2 ^ k % 2 = 0 → bits BinOp.xor IntKind.i64 (bits BinOp.xor IntKind.i64 ((m : Nat) : Int) (wrap64 (2 ^ i))) (wrap64 (2 ^ k)) = ((stp m i k : Nat) : Int) := by decide +kernel
  exact this m h i hi k hk h1 h2
theorem step_c (m i k : Nat) (w : World) (h : m < 256) (hi : i < 8) (hk : k < 8) : Calls Tryz.prog 55 #[.int .i64 m, .int .i64 i, .int .i64 k] w fun e w' => e = .returned (.int .i64 (stp m i k)) ∧ Below w.heap.size w w' := by
  have e1 := bits_one m i h hi
  have e2 := bits_one m k h hk
  rcases Nat.mod_two_eq_zero_or_one (m / 2 ^ i) with b1 | b1
  · have HS : Hid (stp m i k = m) := by show stp m i k = m; unfold stp; rw [if_neg (by omega)]
    rw [b1] at e1
    replace e1 : bits BinOp.and IntKind.i64 ((m : Int) / 2 ^ i) 1 = 0 := e1
    clear e2 b1
    go_enter Tryz.func55, Tryz.ntmps55
    go_wp2
    go_ret
    exact ⟨ret_int (by rw [HS.out]), Below.refl _ _⟩
  · rw [b1] at e1
    replace e1 : bits BinOp.and IntKind.i64 ((m : Int) / 2 ^ i) 1 = 1 := e1
    rcases Nat.mod_two_eq_zero_or_one (m / 2 ^ k) with b2 | b2
    · have HS := Lib.hid (stp_xor m i k h hi hk b1 b2)
      rw [b2] at e2
      replace e2 : bits BinOp.and IntKind.i64 ((m : Int) / 2 ^ k) 1 = 0 := e2
      clear b1 b2
      go_enter Tryz.func55, Tryz.ntmps55
      go_wp2_with fail
      clear e1 e2
      refine wp_region_later w.heap.size w (by kernel_rfl) (by kernel_rfl) (Below.refl _ _) ?_
      have hLW := LW.cells (B := w.heap.size) (w0 := w)
      repeat (go_big_quiet_step (fail))
      refine wpQuiet_nil ?_
      rintro w2 ⟨⟨w2s, hb2⟩, rfl⟩
      clear hLW
      go_wp2
      go_ret
      exact ⟨ret_int HS.out, hb2⟩
    · have HS : Hid (stp m i k = m) := by show stp m i k = m; unfold stp; rw [if_neg (by omega)]
      rw [b2] at e2
      replace e2 : bits BinOp.and IntKind.i64 ((m : Int) / 2 ^ k) 1 = 1 := e2
      clear b1 b2
      go_enter Tryz.func55, Tryz.ntmps55
      go_wp2
      go_ret
      exact ⟨ret_int (by rw [HS.out]), Below.refl _ _⟩
end Go.Proofs.YtiodolbgapjmkaaGreatDoor
