/- The zero-one principle: a network that sorts all masks sorts all lists, and a list's thresholds follow it. Conditions: at most eight wires. -/
import Derived.Test.YtiodolbgapjmkaaGreatDoorApply
import Derived.Test.YtiodolbgapjmkaaGreatDoorMaskL
namespace Go.Proofs.YtiodolbgapjmkaaGreatDoor
open Go.RowKit
set_option maxRecDepth 100000

/-- A list that does not fall. -/
def risesB (l : List Int) : Bool := (List.range (l.length - 1)).all fun i => decide (l.getD i 0 ≤ l.getD (i + 1) 0)
theorem risesB_iff (l : List Int) : risesB l = true ↔ ∀ i, i + 1 < l.length → l.getD i 0 ≤ l.getD (i + 1) 0 := by
  simp only [risesB, List.all_eq_true, List.mem_range, decide_eq_true_eq]
  exact ⟨fun h i hi => h i (by omega), fun h i hi => h i (by omega)⟩
/-- The mask of the numbers that are at least t. -/
def thr (t : Int) : List Int → Nat
  | [] => 0
  | x :: r => (if t ≤ x then 1 else 0) + 2 * thr t r
theorem thr_bit (t : Int) : ∀ (l : List Int) (k : Nat), thr t l / 2 ^ k % 2 = if k < l.length ∧ t ≤ l.getD k 0 then 1 else 0
  | [], k => by simp [thr]
  | x :: r, 0 => by
    simp only [thr, Nat.pow_zero, Nat.div_one, List.length_cons, List.getD_cons_zero]
    split <;> rename_i h <;> simp [h] <;> omega
  | x :: r, k + 1 => by
    have e : ((if t ≤ x then 1 else 0) + 2 * thr t r) / 2 ^ (k + 1) = thr t r / 2 ^ k := by
      rw [Nat.pow_succ, Nat.mul_comm (2 ^ k) 2, ← Nat.div_div_eq_div_mul]
      congr 1
      split <;> omega
    show ((if t ≤ x then 1 else 0) + 2 * thr t r) / 2 ^ (k + 1) % 2 = _
    rw [e, thr_bit t r k]
    simp
theorem thr_lt (t : Int) : ∀ l : List Int, thr t l < 2 ^ l.length
  | [] => by simp [thr]
  | x :: r => by
    have := thr_lt t r
    simp only [thr, List.length_cons, Nat.pow_succ]
    split <;> omega
theorem bit_test (m k : Nat) : m / 2 ^ k % 2 = (m.testBit k).toNat := by rw [Nat.toNat_testBit]
theorem mask_ext {a b : Nat} (h : ∀ k, a / 2 ^ k % 2 = b / 2 ^ k % 2) : a = b := by
  apply Nat.eq_of_testBit_eq
  intro k
  have := h k
  rw [bit_test, bit_test] at this
  cases ha : a.testBit k <;> cases hb : b.testBit k <;> simp [ha, hb] at this ⊢
theorem stp_bits (m i j k : Nat) (h : m < 256) (hi : i < 8) (hj : j < 8) (hne : i ≠ j) :
    stp m i j / 2 ^ k % 2 = if k = i then min (m / 2 ^ i % 2) (m / 2 ^ j % 2) else if k = j then max (m / 2 ^ i % 2) (m / 2 ^ j % 2) else m / 2 ^ k % 2 := by
  by_cases hk : k < 8
  · have : ∀ i < 8, ∀ j < 8, ∀ m < 256, i ≠ j → ∀ k < 8, stp m i j / 2 ^ k % 2 = if k = i then min (m / 2 ^ i % 2) (m / 2 ^ j % 2) else if k = j then max (m / 2 ^ i % 2) (m / 2 ^ j % 2) else m / 2 ^ k % 2 := by decide +kernel
    exact this i hi j hj m h hne k hk
  · have h1 := stp_lt m i j h hi hj
    have h2 : 2 ^ 8 ≤ 2 ^ k := Nat.pow_le_pow_right (by omega) (by omega)
    rw [if_neg (by omega), if_neg (by omega), Nat.div_eq_of_lt (by omega), Nat.div_eq_of_lt (by omega)]
theorem min_ite (p q : Prop) [Decidable p] [Decidable q] : min (if p then 1 else 0) (if q then 1 else 0) = (if p ∧ q then 1 else 0 : Nat) := by
  by_cases p <;> by_cases q <;> simp [*]
theorem max_ite (p q : Prop) [Decidable p] [Decidable q] : max (if p then 1 else 0) (if q then 1 else 0) = (if p ∨ q then 1 else 0 : Nat) := by
  by_cases p <;> by_cases q <;> simp [*]
theorem thr_cmpx (t : Int) (l : List Int) (i j : Nat) (hl : l.length ≤ 8) (hi : i < l.length) (hj : j < l.length) (hne : i ≠ j) :
    thr t (cmpx [(i : Int), (j : Int)] l) = stp (thr t l) i j := by
  have h256 : thr t l < 256 := by
    have h1 := thr_lt t l
    have h2 : 2 ^ l.length ≤ 2 ^ 8 := Nat.pow_le_pow_right (by omega) hl
    omega
  apply mask_ext
  intro k
  rw [stp_bits _ i j k h256 (by omega) (by omega) hne, thr_bit, thr_bit, thr_bit, thr_bit, cmpx_len]
  have e : cmpx [(i : Int), (j : Int)] l = (l.set i (min (l.getD i 0) (l.getD j 0))).set j (max (l.getD i 0) (l.getD j 0)) := rfl
  rw [e]
  by_cases h1 : k = i
  · subst h1
    rw [if_pos rfl, getD_set_ne' _ _ _ _ (Ne.symm hne), min_ite]
    have : (l.set k (min (l.getD k 0) (l.getD j 0))).getD k 0 = min (l.getD k 0) (l.getD j 0) := by simp [List.getD, hi]
    rw [this]
    congr 1
    apply propext
    constructor
    · rintro ⟨a, b⟩; exact ⟨⟨hi, by omega⟩, hj, by omega⟩
    · rintro ⟨⟨a, b⟩, c, d⟩; exact ⟨hi, by omega⟩
  · rw [if_neg h1]
    by_cases h2 : k = j
    · subst h2
      rw [if_pos rfl, max_ite]
      have : ((l.set i (min (l.getD i 0) (l.getD k 0))).set k (max (l.getD i 0) (l.getD k 0))).getD k 0 = max (l.getD i 0) (l.getD k 0) := by simp [List.getD, hj]
      rw [this]
      congr 1
      apply propext
      constructor
      · rintro ⟨a, b⟩
        rcases (by omega : t ≤ l.getD i 0 ∨ t ≤ l.getD k 0) with h | h
        · exact .inl ⟨hi, h⟩
        · exact .inr ⟨hj, h⟩
      · rintro (⟨a, b⟩ | ⟨a, b⟩)
        · exact ⟨hj, by omega⟩
        · exact ⟨hj, by omega⟩
    · rw [if_neg h2, getD_set_ne' _ _ _ _ (fun e => h2 e.symm), getD_set_ne' _ _ _ _ (fun e => h1 e.symm)]
theorem thr_take (t : Int) {n : Nat} {xss : List (List Int)} (hP : pairsOf n xss) (l : List Int) (hl : l.length = n) (h8 : n ≤ 8) : ∀ k, k ≤ xss.length → thr t (applyP (xss.take k) l) = bitsP (xss.take k) (thr t l) := by
  intro k
  induction k with
  | zero => intro _; rfl
  | succ k ih =>
    intro hk
    obtain ⟨i, j, hr, hi, hj, hne⟩ := hP k (by omega)
    rw [bitsP_take (by omega) hr, ← ih (by omega), ← thr_cmpx t _ i j (by rw [applyP_len]; omega) (by rw [applyP_len]; omega) (by rw [applyP_len]; omega) hne, take_snoc_getD [] (by omega), applyP, List.foldl_append, hr]
    rfl
/-- The thresholds of a list go through the network as masks do. -/
theorem thr_apply (t : Int) {n : Nat} {xss : List (List Int)} (hP : pairsOf n xss) (l : List Int) (hl : l.length = n) (h8 : n ≤ 8) : thr t (applyP xss l) = bitsP xss (thr t l) := by
  have := thr_take t hP l hl h8 xss.length (Nat.le_refl _)
  rwa [List.take_length] at this
theorem popc_lt8 (n m : Nat) (hn : n ≤ 8) (h : m < 2 ^ n) : popc m ≤ n := popc_lt n m hn h
/-- The zero-one principle. -/
theorem zero_one {n : Nat} {xss : List (List Int)} (hP : pairsOf n xss) (h8 : n ≤ 8) (hs : ∀ m, m < 2 ^ n → bitsP xss m = srt n m) (l : List Int) (hl : l.length = n) : risesB (applyP xss l) = true := by
  rw [risesB_iff]
  intro i hi
  rw [applyP_len, hl] at hi
  obtain ⟨t, ht⟩ : ∃ t, t = (applyP xss l).getD i 0 := ⟨_, rfl⟩
  have h1 := thr_apply t hP l hl h8
  have hm : thr t l < 2 ^ n := by have := thr_lt t l; rwa [hl] at this
  rw [hs _ hm] at h1
  have hp := popc_lt n _ h8 hm
  have b1 := thr_bit t (applyP xss l) i
  have b2 := thr_bit t (applyP xss l) (i + 1)
  rw [h1, srt_bit n _ i h8 hp (by omega), applyP_len, hl, if_pos (⟨by omega, by omega⟩ : i < n ∧ t ≤ (applyP xss l).getD i 0)] at b1
  rw [h1, srt_bit n _ (i + 1) h8 hp (by omega), applyP_len, hl] at b2
  have hc : n - popc (thr t l) ≤ i := by
    by_cases h : n - popc (thr t l) ≤ i
    · exact h
    · rw [if_neg h] at b1; omega
  rw [if_pos (by omega)] at b2
  by_cases h : i + 1 < n ∧ t ≤ (applyP xss l).getD (i + 1) 0
  · rw [← ht]; exact h.2
  · rw [if_neg h] at b2; omega
end Go.Proofs.YtiodolbgapjmkaaGreatDoor
