/- What comes out of a network on a list: the same numbers, and in order if the masks of its thresholds come out sorted. Conditions: at most eight wires. -/
import Derived.Test.YtiodolbgapjmkaaGreatDoorSortI
namespace Go.Proofs.YtiodolbgapjmkaaGreatDoor
open Go.RowKit
set_option linter.unusedVariables false

theorem thr_append (t : Int) : ∀ a b : List Int, thr t (a ++ b) = thr t a + 2 ^ a.length * thr t b
  | [], b => by simp [thr]
  | x :: a, b => by
    have := thr_append t a b
    simp only [List.cons_append, thr, this, List.length_cons, Nat.pow_succ]
    rw [Nat.mul_add, Nat.mul_comm (2 ^ a.length) 2, Nat.mul_assoc]
    omega
/-- A mask that does not fall is the sorted one. -/
theorem mono_srt (n m : Nat) (hn : n ≤ 8) (hm : m < 2 ^ n) (h : ∀ k, k + 1 < n → m / 2 ^ k % 2 ≤ m / 2 ^ (k + 1) % 2) : m = srt n m := by
  have : ∀ n < 9, ∀ m < 2 ^ n, (∀ k < n, k + 1 < n → m / 2 ^ k % 2 ≤ m / 2 ^ (k + 1) % 2) → m = srt n m := by decide +kernel
  exact this n (by omega) m hm fun k _ hk => h k hk
/-- The thresholds of a list that does not fall are sorted masks. -/
theorem thr_srt {a : List Int} (h8 : a.length ≤ 8) (h : risesB a = true) (t : Int) : thr t a = srt a.length (thr t a) := by
  refine mono_srt _ _ h8 (thr_lt t a) fun k hk => ?_
  rw [thr_bit, thr_bit]
  have := (risesB_iff a).1 h k hk
  by_cases h1 : k < a.length ∧ t ≤ a.getD k 0
  · rw [if_pos h1, if_pos ⟨hk, by omega⟩]; exact Nat.le_refl _
  · rw [if_neg h1]; omega
/-- Where all thresholds come out sorted, the list does. -/
theorem rises_of_thr {n : Nat} {xss : List (List Int)} (hP : pairsOf n xss) (h8 : n ≤ 8) (l : List Int) (hl : l.length = n) (hs : ∀ t, bitsP xss (thr t l) = srt n (thr t l)) : risesB (applyP xss l) = true := by
  rw [risesB_iff]
  intro i hi
  rw [applyP_len, hl] at hi
  obtain ⟨t, ht⟩ : ∃ t, t = (applyP xss l).getD i 0 := ⟨_, rfl⟩
  have h1 := thr_apply t hP l hl h8
  have hm : thr t l < 2 ^ n := by have := thr_lt t l; rwa [hl] at this
  rw [hs t] at h1
  have hp := popc_lt n _ h8 hm
  have b1 := thr_bit t (applyP xss l) i
  have b2 := thr_bit t (applyP xss l) (i + 1)
  rw [h1, srt_bit n _ i h8 hp (by omega), applyP_len, hl, if_pos (⟨by omega, by omega⟩ : i < n ∧ t ≤ (applyP xss l).getD i 0)] at b1
  rw [h1, srt_bit n _ (i + 1) h8 hp (by omega), applyP_len, hl] at b2
  have hc : n - popc (thr t l) ≤ i := by
    by_cases h : n - popc (thr t l) ≤ i
    · exact h
    · rw [if_neg h] at b1; omega
  rw [if_pos (by omega)] at b2
  by_cases h : i + 1 < n ∧ t ≤ (applyP xss l).getD (i + 1) 0
  · rw [← ht]; exact h.2
  · rw [if_neg h] at b2; omega
theorem swap_perm (l : List Int) (i j : Nat) (hi : i < l.length) (hj : j < l.length) (hne : i ≠ j) : ((l.set i (l.getD j 0)).set j (l.getD i 0)).Perm l := by
  rw [List.perm_iff_count]
  intro a
  have e1 : l.getD i 0 = l[i] := by simp [List.getD, hi]
  have e2 : l.getD j 0 = l[j] := by simp [List.getD, hj]
  rw [e1, e2, List.count_set (by rw [List.length_set]; exact hj), List.getElem_set_ne hne, List.count_set hi]
  have c1 : (if (l[i] == a) = true then 1 else 0) ≤ l.count a := by
    split
    · rename_i h
      have : l[i] = a := beq_iff_eq.1 h
      exact List.count_pos_iff.2 (this ▸ List.getElem_mem hi)
    · omega
  have c2 : (if (l[j] == a) = true then 1 else 0) ≤ l.count a := by
    split
    · rename_i h
      have : l[j] = a := beq_iff_eq.1 h
      exact List.count_pos_iff.2 (this ▸ List.getElem_mem hj)
    · omega
  omega
theorem set_same' (l : List Int) (i : Nat) (hi : i < l.length) : l.set i (l.getD i 0) = l := by
  apply List.ext_getElem?
  intro k
  rw [List.getElem?_set]
  by_cases h : i = k
  · subst h; rw [if_pos rfl, if_pos hi]; simp [List.getD, hi]
  · rw [if_neg h]
theorem cmpx_perm (l : List Int) (i j : Nat) (hi : i < l.length) (hj : j < l.length) (hne : i ≠ j) : (cmpx [(i : Int), (j : Int)] l).Perm l := by
  have e : cmpx [(i : Int), (j : Int)] l = (l.set i (min (l.getD i 0) (l.getD j 0))).set j (max (l.getD i 0) (l.getD j 0)) := rfl
  rw [e]
  rcases (by omega : l.getD i 0 ≤ l.getD j 0 ∨ l.getD j 0 ≤ l.getD i 0) with h | h
  · rw [show min (l.getD i 0) (l.getD j 0) = l.getD i 0 by omega, show max (l.getD i 0) (l.getD j 0) = l.getD j 0 by omega, set_same' l i hi, set_same' l j hj]
  · rw [show min (l.getD i 0) (l.getD j 0) = l.getD j 0 by omega, show max (l.getD i 0) (l.getD j 0) = l.getD i 0 by omega]
    exact swap_perm l i j hi hj hne
theorem applyP_perm {n : Nat} {xss : List (List Int)} (hP : pairsOf n xss) (l : List Int) (hl : l.length = n) : (applyP xss l).Perm l := by
  have key : ∀ k, k ≤ xss.length → (applyP (xss.take k) l).Perm l := by
    intro k
    induction k with
    | zero => intro _; exact List.Perm.refl _
    | succ k ih =>
      intro hk
      obtain ⟨i, j, hr, hi, hj, hne⟩ := hP k (by omega)
      rw [take_snoc_getD [] (by omega), applyP, List.foldl_append, hr]
      refine (cmpx_perm _ i j ?_ ?_ hne).trans (ih (by omega))
      · show i < (applyP (xss.take k) l).length; rw [applyP_len]; omega
      · show j < (applyP (xss.take k) l).length; rw [applyP_len]; omega
  have := key xss.length (Nat.le_refl _)
  rwa [List.take_length] at this
/-- A network that sorts the thresholds of a list sorts it. -/
theorem apply_sorted {n : Nat} {xss : List (List Int)} (hP : pairsOf n xss) (h8 : n ≤ 8) (l : List Int) (hl : l.length = n) (hs : ∀ t, bitsP xss (thr t l) = srt n (thr t l)) : applyP xss l = sortI l :=
  (sortI_eq (applyP_perm hP l hl) (rises_up.1 (rises_of_thr hP h8 l hl hs))).symm
end Go.Proofs.YtiodolbgapjmkaaGreatDoor
