/- Tests chosen one by one, each the one that tells the most faults that are left, in plain terms. Conditions: none. -/
import Derived.Test.YtiodolbgapjmkaaFaults
import Derived.Test.YtiodolbgapjmkaaWFaultyC
namespace Go.Proofs.Ytiodolbgapjmkaa
open Go.RowKit
set_option maxRecDepth 100000
set_option linter.unusedVariables false

/-- How many of the faults of P the mask m tells. -/
def cntP (xss : List (List Int)) (L : Nat) (P : Nat → Nat → Bool) (m : Nat) : Nat := (faultsL (fun i k => P i k && findB xss i k m) L).length
def bestS (f : Nat → Nat) (b : Nat × Nat) (m : Nat) : Nat × Nat := if b.2 < f m then (m, f m) else b
/-- The first mask below k that tells the most, and how many. -/
def bestK (f : Nat → Nat) (k : Nat) : Nat × Nat := (List.range k).foldl (bestS f) (0, 0)
theorem bestK_succ (f : Nat → Nat) (k : Nat) : bestK f (k + 1) = bestS f (bestK f k) k := by simp [bestK, List.range_succ]
theorem bestK_facts (f : Nat → Nat) : ∀ k, (bestK f k).2 = 0 ∧ (bestK f k).1 = 0 ∨ (bestK f k).1 < k ∧ f (bestK f k).1 = (bestK f k).2 ∧ 0 < (bestK f k).2
  | 0 => Or.inl ⟨rfl, rfl⟩
  | k + 1 => by
    rw [bestK_succ]
    unfold bestS
    split
    · exact Or.inr ⟨by show k < k + 1; omega, rfl, by show 0 < f k; omega⟩
    · rcases bestK_facts f k with h | ⟨h1, h2, h3⟩
      · exact Or.inl h
      · exact Or.inr ⟨by omega, h2, h3⟩
theorem bestK_most (f : Nat → Nat) : ∀ k m, m < k → f m ≤ (bestK f k).2
  | 0, m, h => by omega
  | k + 1, m, h => by
    rw [bestK_succ]
    unfold bestS
    rcases (by omega : m < k ∨ m = k) with h1 | h1
    · have := bestK_most f k m h1
      split
      · show f m ≤ f k; omega
      · exact this
    · subst h1
      split
      · exact Nat.le_refl _
      · omega
/-- The faults that are left behind a test. -/
def minusP (xss : List (List Int)) (P : Nat → Nat → Bool) (m : Nat) : Nat → Nat → Bool := fun i k => P i k && !findB xss i k m
/-- The tests, at most so many. -/
def greedyF (xss : List (List Int)) (n L : Nat) : Nat → (Nat → Nat → Bool) → List Int
  | 0, _ => []
  | f + 1, P => if (bestK (cntP xss L P) (2 ^ n)).2 = 0 then [] else ((bestK (cntP xss L P) (2 ^ n)).1 : Int) :: greedyF xss n L f (minusP xss P (bestK (cntP xss L P) (2 ^ n)).1)
def greedyL (n : Nat) (xss : List (List Int)) : List Int := greedyF xss n xss.length (3 * xss.length + 1) (fun _ _ => true)
/-- Whether a pair's fault is told. -/
def fndR (xss : List (List Int)) (m : Nat) (r : List Int) : Bool := findB xss (r.getD 0 0).toNat (r.getD 1 0) m
theorem faultsL_filter (P Q : Nat → Nat → Bool) (q : List Int → Bool) (h : ∀ i k : Nat, k < 3 → q [(i : Int), (k : Int)] = Q i k) : ∀ L, (faultsL P L).filter q = faultsL (fun i k => P i k && Q i k) L
  | 0 => by simp [faultsL]
  | L + 1 => by
    rw [faultsL_succ, faultsL_succ, List.filter_append, faultsL_filter P Q q h L]
    congr 1
    unfold rowF
    rw [List.filter_map, List.filter_filter]
    congr 1
    refine List.filter_congr fun t ht => ?_
    have : t < 3 := List.mem_range.1 ht
    show (q [(L : Int), (t : Int)] && P L t) = (P L t && Q L t)
    rw [h L t this, Bool.and_comm]
theorem cntP_filter (xss : List (List Int)) (L : Nat) (P : Nat → Nat → Bool) (m : Nat) : cntP xss L P m = ((faultsL P L).filter (fndR xss m)).length := by
  rw [cntP, faultsL_filter P (fun i k => findB xss i k m) (fndR xss m) (fun i k _ => by simp [fndR])]
theorem minusP_filter (xss : List (List Int)) (L : Nat) (P : Nat → Nat → Bool) (m : Nat) : faultsL (minusP xss P m) L = (faultsL P L).filter (fun r => !fndR xss m r) :=
  (faultsL_filter P (fun i k => !findB xss i k m) (fun r => !fndR xss m r) (fun i k _ => by simp [fndR]) L).symm
theorem filter_two {α : Type} (q : α → Bool) (l : List α) : (l.filter q).length + (l.filter (fun r => !q r)).length = l.length := by
  induction l with
  | nil => rfl
  | cons a r ih => cases h : q a <;> simp [h] <;> omega
theorem minusP_len (xss : List (List Int)) (L : Nat) (P : Nat → Nat → Bool) (m : Nat) : (faultsL (minusP xss P m) L).length + cntP xss L P m = (faultsL P L).length := by
  rw [minusP_filter, cntP_filter]
  have := filter_two (fndR xss m) (faultsL P L)
  omega
theorem faultsL_at {P : Nat → Nat → Bool} {L j : Nat} (hj : j < (faultsL P L).length) : ∃ i k : Nat, (faultsL P L).getD j [] = [(i : Int), (k : Int)] ∧ i < L ∧ k < 3 ∧ P i k = true := by
  have hm : (faultsL P L).getD j [] ∈ faultsL P L := by
    rw [List.getD_eq_getElem?_getD, List.getElem?_eq_getElem hj]
    exact List.getElem_mem _
  generalize (faultsL P L).getD j [] = r at hm ⊢
  simp only [faultsL, rowF, List.mem_flatMap, List.mem_map, List.mem_filter, List.mem_range] at hm
  obtain ⟨i, hi, k, ⟨hk, hp⟩, rfl⟩ := hm
  exact ⟨i, k, rfl, hi, hk, hp⟩
/-- How many of the first j are told. -/
def cntJ (q : List Int → Bool) (F : List (List Int)) (j : Nat) : Nat := ((F.take j).filter q).length
theorem cntJ_succ {q : List Int → Bool} {F : List (List Int)} {j : Nat} (hj : j < F.length) : cntJ q F (j + 1) = cntJ q F j + (if q (F.getD j []) = true then 1 else 0) := by
  rw [cntJ, take_snoc_getD [] hj, List.filter_append, List.length_append, cntJ]
  generalize F.getD j [] = r
  cases h : q r <;> simp [h]
theorem cntJ_le (q : List Int → Bool) (F : List (List Int)) (j : Nat) : cntJ q F j ≤ F.length := by
  have h1 := List.length_filter_le q (F.take j)
  rw [List.length_take] at h1
  unfold cntJ
  omega
theorem keepJ_succ {q : List Int → Bool} {F : List (List Int)} {j : Nat} (hj : j < F.length) : (F.take (j + 1)).filter q = (F.take j).filter q ++ (if q (F.getD j []) = true then [F.getD j []] else []) := by
  rw [take_snoc_getD [] hj, List.filter_append]
  generalize F.getD j [] = r
  cases h : q r <;> simp [h]
theorem greedyF_stop {xss : List (List Int)} {n L f : Nat} {P : Nat → Nat → Bool} (h : (bestK (cntP xss L P) (2 ^ n)).2 = 0) : greedyF xss n L f P = [] := by
  cases f with
  | zero => rfl
  | succ f => rw [greedyF, if_pos h]
theorem greedyF_go {xss : List (List Int)} {n L f : Nat} {P : Nat → Nat → Bool} (h : ¬ (bestK (cntP xss L P) (2 ^ n)).2 = 0) (hf : (faultsL P L).length < f) :
    ∃ f', greedyF xss n L f P = ((bestK (cntP xss L P) (2 ^ n)).1 : Int) :: greedyF xss n L f' (minusP xss P (bestK (cntP xss L P) (2 ^ n)).1) ∧ (faultsL (minusP xss P (bestK (cntP xss L P) (2 ^ n)).1) L).length < f' ∧
      (faultsL (minusP xss P (bestK (cntP xss L P) (2 ^ n)).1) L).length < (faultsL P L).length ∧ (bestK (cntP xss L P) (2 ^ n)).1 < 2 ^ n := by
  obtain ⟨f', rfl⟩ : ∃ f', f = f' + 1 := ⟨f - 1, by omega⟩
  rcases bestK_facts (cntP xss L P) (2 ^ n) with h1 | ⟨h1, h2, h3⟩
  · exact absurd h1.1 h
  · have := minusP_len xss L P (bestK (cntP xss L P) (2 ^ n)).1
    exact ⟨f', by rw [greedyF, if_neg h], by omega, by omega, h1⟩
theorem greedyF_len (xss : List (List Int)) (n L : Nat) : ∀ f P, (greedyF xss n L f P).length ≤ (faultsL P L).length
  | 0, P => by simp [greedyF]
  | f + 1, P => by
    rw [greedyF]
    split
    · simp
    · rename_i h
      have ih := greedyF_len xss n L f (minusP xss P (bestK (cntP xss L P) (2 ^ n)).1)
      have e := minusP_len xss L P (bestK (cntP xss L P) (2 ^ n)).1
      rcases bestK_facts (cntP xss L P) (2 ^ n) with h1 | ⟨h1, h2, h3⟩
      · exact absurd h1.1 h
      · rw [List.length_cons]
        omega
/-- Each test is a mask; each fault that some mask tells is told by a test, or is not among those of P. -/
theorem greedyF_all (xss : List (List Int)) (n L : Nat) : ∀ f P, (faultsL P L).length < f → ∀ i k m, i < L → k < 3 → P i k = true → m < 2 ^ n → findB xss i k m = true → ∃ t : Nat, (t : Int) ∈ greedyF xss n L f P ∧ t < 2 ^ n ∧ findB xss i k t = true
  | 0, P, h => by omega
  | f + 1, P, hf => by
    intro i k m hi hk hp hm hq
    have hin : [(i : Int), (k : Int)] ∈ (faultsL P L).filter (fndR xss m) := by
      rw [List.mem_filter]
      refine ⟨?_, by simpa [fndR] using hq⟩
      simp only [faultsL, rowF, List.mem_flatMap, List.mem_map, List.mem_filter, List.mem_range]
      exact ⟨i, hi, k, ⟨hk, hp⟩, rfl⟩
    have h1 : 0 < cntP xss L P m := by rw [cntP_filter]; exact List.length_pos_of_mem hin
    have h2 := bestK_most (cntP xss L P) (2 ^ n) m hm
    have h3 : ¬ (bestK (cntP xss L P) (2 ^ n)).2 = 0 := by omega
    obtain ⟨b1, b2⟩ : (bestK (cntP xss L P) (2 ^ n)).1 < 2 ^ n ∧ cntP xss L P (bestK (cntP xss L P) (2 ^ n)).1 = (bestK (cntP xss L P) (2 ^ n)).2 := by
      rcases bestK_facts (cntP xss L P) (2 ^ n) with h | ⟨q1, q2, q3⟩
      · exact absurd h.1 h3
      · exact ⟨q1, q2⟩
    rw [greedyF, if_neg h3]
    cases hb : findB xss i k (bestK (cntP xss L P) (2 ^ n)).1
    · have hlen := minusP_len xss L P (bestK (cntP xss L P) (2 ^ n)).1
      obtain ⟨t, t1, t2, t3⟩ := greedyF_all xss n L f (minusP xss P (bestK (cntP xss L P) (2 ^ n)).1) (by omega) i k m hi hk (by simp [minusP, hp, hb]) hm hq
      exact ⟨t, List.mem_cons_of_mem _ t1, t2, t3⟩
    · exact ⟨_, List.mem_cons_self .., b1, hb⟩
theorem greedyF_masks (xss : List (List Int)) (n L : Nat) : ∀ f P, ∀ x ∈ greedyF xss n L f P, ∃ t : Nat, x = (t : Int) ∧ t < 2 ^ n
  | 0, P => by simp [greedyF]
  | f + 1, P => by
    intro x hx
    rw [greedyF] at hx
    split at hx
    · simp at hx
    · rename_i h
      rcases List.mem_cons.1 hx with rfl | hx
      · rcases bestK_facts (cntP xss L P) (2 ^ n) with h1 | ⟨h1, h2, h3⟩
        · exact absurd h1.1 h
        · exact ⟨_, rfl, h1⟩
      · exact greedyF_masks xss n L f _ x hx
end Go.Proofs.Ytiodolbgapjmkaa
