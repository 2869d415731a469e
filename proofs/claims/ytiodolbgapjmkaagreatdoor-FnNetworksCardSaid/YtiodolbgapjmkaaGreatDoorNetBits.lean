/- What a valid network does to a mask, in plain terms. Conditions: none. -/
import Derived.Test.YtiodolbgapjmkaaGreatDoorNetOk
import Derived.Test.YtiodolbgapjmkaaGreatDoorBits
namespace Go.Proofs.YtiodolbgapjmkaaGreatDoor
open Go.RowKit
set_option maxRecDepth 100000

theorem netOk_pair {n : Nat} {xss : List (List Int)} (h : netOk n xss = true) (k : Nat) (hk : k < xss.length) : ∃ i j : Nat, xss.getD k [] = [(i : Int), (j : Int)] ∧ i < n ∧ j < n ∧ i ≠ j := by
  simp only [netOk, Bool.and_eq_true, List.all_eq_true] at h
  have h2 := h.2 (xss.getD k []) (by simp [List.getD, List.getElem?_eq_getElem hk])
  simp only [pairOk, Bool.and_eq_true, decide_eq_true_eq] at h2
  obtain ⟨⟨⟨e1, e2⟩, e3⟩, e4⟩ := h2
  have b1 := inB_of e3
  have b2 := inB_of e4
  match hp : xss.getD k [], e1 with
  | [x, y], _ =>
    rw [hp] at b1 b2 e2
    simp at b1 b2 e2
    exact ⟨x.toNat, y.toNat, by rw [Int.toNat_of_nonneg b1.1, Int.toNat_of_nonneg b2.1], by omega, by omega, by omega⟩
theorem netOk_n {n : Int} {xss : List (List Int)} (h : netOk n xss = true) : 1 ≤ n ∧ n ≤ 8 := by
  simp only [netOk, Bool.and_eq_true] at h
  exact inB_of h.1.1
theorem netOk_len {n : Int} {xss : List (List Int)} (h : netOk n xss = true) : xss.length ≤ 60 := by
  simp only [netOk, Bool.and_eq_true, decide_eq_true_eq] at h
  exact h.1.2

/-- A mask behind some comparators. -/
def bitsP (xss : List (List Int)) (m : Nat) : Nat := xss.foldl (fun m p => stp m (p.getD 0 0).toNat (p.getD 1 0).toNat) m
theorem bitsP_take {xss : List (List Int)} {k : Nat} (hk : k < xss.length) {i j : Nat} (h : xss.getD k [] = [(i : Int), (j : Int)]) (m : Nat) : bitsP (xss.take (k + 1)) m = stp (bitsP (xss.take k) m) i j := by
  rw [take_snoc_getD [] hk, bitsP, List.foldl_append, h]
  rfl
theorem stp_facts (m i k : Nat) (h : m < 256) (hi : i < 8) (hk : k < 8) (hne : i ≠ k) : popc (stp m i k) = popc m ∧ stp m i k / 2 ^ (max i k + 1) = m / 2 ^ (max i k + 1) := by
  have : ∀ m < 256, ∀ i < 8, ∀ k < 8, i ≠ k → popc (stp m i k) = popc m ∧ stp m i k / 2 ^ (max i k + 1) = m / 2 ^ (max i k + 1) := by decide +kernel
  exact this m h i hi k hk hne
theorem stp_lt2 (n m i k : Nat) (hn : n ≤ 8) (h : m < 2 ^ n) (hi : i < n) (hk : k < n) (hne : i ≠ k) : stp m i k < 2 ^ n := by
  have h256 := pow_le_256 n hn
  have := (stp_facts m i k (by omega) (by omega) (by omega) hne).2
  obtain ⟨d, hd⟩ : ∃ d, n = (max i k + 1) + d := ⟨n - (max i k + 1), by omega⟩
  have e : stp m i k / 2 ^ n = m / 2 ^ n := by rw [hd, Nat.pow_add, ← Nat.div_div_eq_div_mul, ← Nat.div_div_eq_div_mul, this]
  rw [Nat.div_eq_of_lt h] at e
  exact (Nat.div_eq_zero_iff_lt (Nat.pow_pos (by omega))).1 e
theorem bitsP_lt {n : Nat} {xss : List (List Int)} (hok : netOk n xss = true) {m : Nat} (hm : m < 2 ^ n) : ∀ k, k ≤ xss.length → bitsP (xss.take k) m < 2 ^ n ∧ popc (bitsP (xss.take k) m) = popc m := by
  have hn := netOk_n hok
  have h256 := pow_le_256 n (by omega)
  intro k
  induction k with
  | zero => intro _; exact ⟨by simpa [bitsP] using hm, by simp [bitsP]⟩
  | succ k ih =>
    intro hk
    obtain ⟨i, j, hr, hi, hj, hne⟩ := netOk_pair hok k (by omega)
    obtain ⟨i1, i2⟩ := ih (by omega)
    rw [bitsP_take (by omega) hr]
    exact ⟨stp_lt2 n _ i j (by omega) i1 hi hj hne, by rw [(stp_facts _ i j (by omega) (by omega) (by omega) hne).1, i2]⟩
theorem bitsP_lt' {n : Nat} {xss : List (List Int)} (hok : netOk n xss = true) {m : Nat} (hm : m < 2 ^ n) : bitsP xss m < 2 ^ n ∧ popc (bitsP xss m) = popc m := by
  have := bitsP_lt hok hm xss.length (Nat.le_refl _)
  rwa [List.take_length] at this
end Go.Proofs.YtiodolbgapjmkaaGreatDoor
