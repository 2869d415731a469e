/- Facts on masks that the walks over all masks of a network use, in plain terms. Conditions: at most eight wires. -/
import Derived.Test.YtiodolbgapjmkaaGreatDoorNetBits
namespace Go.Proofs.YtiodolbgapjmkaaGreatDoor
open Go.RowKit
set_option maxRecDepth 100000

theorem bits_xor_nat (a b : Nat) (ha : a < 256) (hb : b < 256) : bits BinOp.xor IntKind.i64 (a : Int) (b : Int) = ((a ^^^ b : Nat) : Int) := by
  have : ∀ a < 256, ∀ b < 256, bits BinOp.xor IntKind.i64 ((a : Nat) : Int) ((b : Nat) : Int) = ((a ^^^ b : Nat) : Int) := by decide +kernel
  exact this a ha b hb
theorem xor_lt (a b : Nat) (ha : a < 256) (hb : b < 256) : a ^^^ b < 256 := Nat.xor_lt_two_pow (n := 8) ha hb
theorem xor_bit (a b k : Nat) : (a ^^^ b) / 2 ^ k % 2 = 0 ↔ a / 2 ^ k % 2 = b / 2 ^ k % 2 := by
  have h : ∀ x, x / 2 ^ k % 2 = (x.testBit k).toNat := fun x => by
    rw [Nat.toNat_testBit]
  rw [h, h, h, Nat.testBit_xor]
  cases a.testBit k <;> cases b.testBit k <;> simp
theorem srt_lt (n m : Nat) (hn : n ≤ 8) (hp : popc m ≤ n) : srt n m < 2 ^ n := by
  have : ∀ n ≤ 8, ∀ p ≤ n, (2 ^ p - 1) * 2 ^ (n - p) < 2 ^ n := by decide +kernel
  exact this n hn _ hp
theorem srt_bit (n m k : Nat) (hn : n ≤ 8) (hp : popc m ≤ n) (hk : k < n) : srt n m / 2 ^ k % 2 = if n - popc m ≤ k then 1 else 0 := by
  have : ∀ n ≤ 8, ∀ p ≤ n, ∀ k < n, (2 ^ p - 1) * 2 ^ (n - p) / 2 ^ k % 2 = if n - p ≤ k then 1 else 0 := by decide +kernel
  exact this n hn _ hp k hk
/-- Something holds of all masks below a bound. -/
def allB (f : Nat → Bool) (k : Nat) : Bool := (List.range k).all f
theorem allB_zero (f : Nat → Bool) : allB f 0 = true := rfl
theorem allB_snoc {f : Nat → Bool} {k : Nat} (h : allB f k = true) (hf : f k = true) : allB f (k + 1) = true := by
  simp only [allB, List.range_succ, List.all_append, List.all_cons, List.all_nil, Bool.and_true, Bool.and_eq_true]
  exact ⟨h, hf⟩
theorem allB_no {f : Nat → Bool} {k N : Nat} (hk : k < N) (hf : f k = false) : allB f N = false := by
  rw [allB, List.all_eq_false]
  exact ⟨k, List.mem_range.2 hk, by simp [hf]⟩
theorem allB_congr {f g : Nat → Bool} {N : Nat} (h : ∀ k, k < N → f k = g k) : allB f N = allB g N := by
  rw [Bool.eq_iff_iff, allB, allB, List.all_eq_true, List.all_eq_true]
  exact ⟨fun H x hx => by rw [← h x (List.mem_range.1 hx)]; exact H x hx, fun H x hx => by rw [h x (List.mem_range.1 hx)]; exact H x hx⟩
theorem wrap_pow (n : Nat) (hn : n ≤ 8) : wrap64 (2 ^ n) = ((2 ^ n : Nat) : Int) := by
  have : ∀ n ≤ 8, wrap64 (2 ^ n) = ((2 ^ n : Nat) : Int) := by decide +kernel
  exact this n hn
theorem boxC {W w1 : World} {b : Nat} {x y : Value} (hb : Below W.heap.size W w1) (h : b < W.heap.size) (c0 : W.cell? ⟨b, 0, none⟩ = some x) (c1 : W.cell? ⟨b, 1, none⟩ = some y) : w1.cell? ⟨b, 0, none⟩ = some x ∧ w1.cell? ⟨b, 1, none⟩ = some y ∧ b < w1.heap.size :=
  ⟨(hb.cell (p := ⟨b, 0, none⟩) h).trans c0, (hb.cell (p := ⟨b, 1, none⟩) h).trans c1, by have := hb.size; omega⟩
/-- What wire k bears in the end is what it bears in the sorted mask. -/
def rankB (n : Nat) (xss : List (List Int)) (k : Nat) (m : Nat) : Bool := bitsP xss m / 2 ^ k % 2 == srt n m / 2 ^ k % 2
theorem xor_test (E S K : Nat) (hE : E < 256) (hS : S < 256) (hK : K < 8) : bits BinOp.and IntKind.i64 (bits BinOp.xor IntKind.i64 (E : Int) (S : Int) / 2 ^ K) 1 = if E / 2 ^ K % 2 = S / 2 ^ K % 2 then 0 else 1 := by
  rw [bits_xor_nat E S hE hS, bits_one _ K (xor_lt E S hE hS) hK]
  split
  · rename_i h
    rw [(xor_bit E S K).2 h]
    rfl
  · rename_i h
    have := mt (xor_bit E S K).1 h
    omega
theorem wrap_sub (n p : Nat) (hn : n ≤ 8) (hp : p ≤ n) : wrap64 ((n : Int) - (p : Int)) = ((n - p : Nat) : Int) := by
  have : ∀ n ≤ 8, ∀ p ≤ n, wrap64 (((n : Nat) : Int) - ((p : Nat) : Int)) = ((n - p : Nat) : Int) := by decide +kernel
  exact this n hn p hp
end Go.Proofs.YtiodolbgapjmkaaGreatDoor
