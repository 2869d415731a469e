/- The law over IsBitonicMask returns true: both ask whether a mask changes at most two times. Conditions: none. -/
import Derived.Test.YtiodolbgapjmkaaBits
namespace Go.Proofs.Ytiodolbgapjmkaa
open Go.RowKit
set_option maxRecDepth 100000

/-- How often a mask of n wires changes. -/
def chgs (m : Nat) : Nat → Nat
  | 0 => 0
  | 1 => 0
  | k + 2 => chgs m (k + 1) + if m / 2 ^ (k + 1) % 2 = m / 2 ^ k % 2 then 0 else 1
theorem chgs_le (m n : Nat) : chgs m n ≤ n := by
  induction n with
  | zero => simp [chgs]
  | succ n ih =>
    cases n with
    | zero => simp [chgs]
    | succ n => simp only [chgs]; split <;> omega
theorem chgs_succ (m k : Nat) : chgs m (k + 2) = chgs m (k + 1) + if m / 2 ^ (k + 1) % 2 = m / 2 ^ k % 2 then 0 else 1 := rfl

/-- Whether a mask of n wires changes at most two times. -/
def bitB (n m : Int) : Bool := inB n 1 8 && (inB m 0 ((2 ^ n.toNat : Nat) - 1) && decide (chgs m.toNat n.toNat ≤ 2))
theorem pow_wrap (n : Nat) (hn : n ≤ 8) : wrap64 (2 ^ n) = ((2 ^ n : Nat) : Int) := by
  have : ∀ n ≤ 8, wrap64 (2 ^ n) = ((2 ^ n : Nat) : Int) := by decide +kernel
  exact this n hn
/-- Where a mask of n wires changes. -/
def gx (n m : Nat) : Nat := (m ^^^ (m / 2)) % 2 ^ (n - 1)
theorem gx_bits (n m : Nat) (hn : n ≤ 8) (h1 : 1 ≤ n) (h : m < 256) : bits BinOp.and IntKind.i64 (bits BinOp.xor IntKind.i64 (m : Int) ((m : Int) / 2)) (wrap64 (wrap64 (2 ^ (n - 1)) - 1)) = ((gx n m : Nat) : Int) := by
  have : ∀ n ≤ 8, 1 ≤ n → ∀ m < 256, bits BinOp.and IntKind.i64 (bits BinOp.xor IntKind.i64 ((m : Nat) : Int) (((m : Nat) : Int) / 2)) (wrap64 (wrap64 (2 ^ (n - 1)) - 1)) = ((gx n m : Nat) : Int) := by decide +kernel
  exact this n hn h1 m h
theorem gx_popc (n m : Nat) (hn : n ≤ 8) (h1 : 1 ≤ n) (h : m < 2 ^ n) : popc (gx n m) = chgs m n := by
  have : ∀ n ≤ 8, 1 ≤ n → ∀ m < 2 ^ n, popc (gx n m) = chgs m n := by decide +kernel
  exact this n hn h1 m h
theorem gx_lt (n m : Nat) (hn : n ≤ 8) : gx n m < 256 := by
  unfold gx
  have h1 : 0 < 2 ^ (n - 1) := Nat.pow_pos (by omega)
  have h2 := pow_le_256 (n - 1) (by omega)
  have := Nat.mod_lt (m ^^^ (m / 2)) h1
  omega
theorem IsBitonicMask_i (a b : Int) (w : World) : Calls Try.prog 42 #[.int .i64 a, .int .i64 b] w fun e w' => e = .returned (.bool (bitB a b)) ∧ Below w.heap.size w w' := by
  by_cases h : inB a 1 8 = true
  · obtain ⟨h1, h8⟩ := inB_of h
    obtain ⟨n, rfl⟩ := Int.eq_ofNat_of_zero_le (by omega : 0 ≤ a)
    have hp := pow_wrap n (by omega)
    have h256 := pow_le_256 n (by omega)
    obtain ⟨p, hpp⟩ : ∃ p : Nat, p = 2 ^ n := ⟨_, rfl⟩
    rw [← hpp] at hp h256
    have hpos : 1 ≤ p := by rw [hpp]; exact Nat.one_le_two_pow
    by_cases h2 : inB b 0 ((p : Int) - 1) = true
    · obtain ⟨b0, b1⟩ := inB_of h2
      obtain ⟨m, rfl⟩ := Int.eq_ofNat_of_zero_le b0
      have HB : Hid (bitB (n : Int) (m : Int) = decide (chgs m n ≤ 2)) := by
        show bitB (n : Int) (m : Int) = _
        unfold bitB
        rw [show ((n : Int)).toNat = n from by omega, show ((m : Int)).toNat = m from by omega, ← hpp, h, h2]
        rfl
      have hc := fun w => ones_c (gx n m) w (gx_lt n m (by omega))
      have hg := gx_bits n m (by omega) (by omega) (by omega)
      have hgp := gx_popc n m (by omega) (by omega) (by rw [← hpp]; omega)
      have hm := fun w => isMask_c n (m : Int) w (by omega)
      rw [← hpp] at hm
      obtain ⟨c, hcc⟩ : ∃ c, c = chgs m n := ⟨_, rfl⟩
      rw [hgp, ← hcc] at hc
      rw [← hcc] at HB
      obtain ⟨g, hgg⟩ : ∃ g, g = gx n m := ⟨_, rfl⟩
      rw [← hgg] at hc hg
      have HC := Lib.hid hc
      have HM := Lib.hid hm
      clear hc hm hcc hpp hgg hgp
      go_enter Try.func42, Try.ntmps42
      go_wp2_with (first | (go_at_call 105; refine (isWires_c _ _).mono ?_; rintro e w' ⟨rfl, rfl⟩) | (go_at_call 100; refine (HM.out _).mono ?_; rintro e w' ⟨rfl, rfl⟩) | (go_at_call 120; refine (HC.out _).mono ?_; rintro e w' ⟨rfl, rfl⟩))
      go_ret
      exact ⟨congrArg (fun b => Ending.returned (.bool b)) (by rw [HB.out]; exact decide_eq_decide.2 (by omega)), Below.refl _ _⟩
    · replace h2 : inB b 0 ((p : Int) - 1) = false := by simpa using h2
      have HB : Hid (bitB (n : Int) b = false) := by
        show bitB (n : Int) b = _
        unfold bitB
        rw [show ((n : Int)).toNat = n from by omega, ← hpp, h, h2]
        rfl
      have hm := fun w => isMask_c n b w (by omega)
      rw [← hpp] at hm
      have HM := Lib.hid hm
      clear hm
      clear hpp
      go_enter Try.func42, Try.ntmps42
      go_wp2_with (first | (go_at_call 105; refine (isWires_c _ _).mono ?_; rintro e w' ⟨rfl, rfl⟩) | (go_at_call 100; refine (HM.out _).mono ?_; rintro e w' ⟨rfl, rfl⟩))
      go_ret
      exact ⟨congrArg (fun b => Ending.returned (.bool b)) HB.out.symm, Below.refl _ _⟩
  · replace h : inB a 1 8 = false := by simpa using h
    have HB : Hid (bitB a b = false) := by
      show bitB a b = _
      unfold bitB
      rw [h]
      rfl
    go_enter Try.func42, Try.ntmps42
    go_wp2_with (first | (go_at_call 105; refine (isWires_c _ _).mono ?_; rintro e w' ⟨rfl, rfl⟩) | (go_at_call 100; refine (HM.out _).mono ?_; rintro e w' ⟨rfl, rfl⟩))
    go_ret
    exact ⟨congrArg (fun b => Ending.returned (.bool b)) HB.out.symm, Below.refl _ _⟩
end Go.Proofs.Ytiodolbgapjmkaa
