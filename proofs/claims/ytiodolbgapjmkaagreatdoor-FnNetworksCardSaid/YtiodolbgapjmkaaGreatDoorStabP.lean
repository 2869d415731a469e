/- The library's stable sort of at most 21 numbers by a key, as changes of a list. Conditions: none. -/
import Derived.Test.YtiodolbgapjmkaaGreatDoorThrL
namespace Go.Proofs.YtiodolbgapjmkaaGreatDoor
open Go.RowKit
set_option linter.unusedVariables false

/-- Two places exchanged. -/
def swL (l : List Int) (i j : Nat) : List Int := (l.set i (l.getD j 0)).set j (l.getD i 0)
theorem swL_len (l : List Int) (i j : Nat) : (swL l i j).length = l.length := by simp [swL]
theorem swL_getD (l : List Int) (i j p : Nat) (hi : i < l.length) (hj : j < l.length) (hne : i ≠ j) : (swL l i j).getD p 0 = if p = i then l.getD j 0 else if p = j then l.getD i 0 else l.getD p 0 := by
  unfold swL
  by_cases h1 : p = i
  · rw [if_pos h1, h1, getD_set_ne' _ _ _ _ (Ne.symm hne)]
    simp [List.getD, hi]
  · rw [if_neg h1]
    by_cases h2 : p = j
    · rw [if_pos h2, h2]
      simp [List.getD, hj]
    · rw [if_neg h2, getD_set_ne' _ _ _ _ (fun e => h2 e.symm), getD_set_ne' _ _ _ _ (fun e => h1 e.symm)]
theorem swL_perm (l : List Int) (i j : Nat) (hi : i < l.length) (hj : j < l.length) (hne : i ≠ j) : (swL l i j).Perm l := swap_perm l i j hi hj hne
variable {key : Int → Int}
/-- In order from a up to b. -/
def ordOn (key : Int → Int) (l : List Int) (a b : Nat) : Prop := ∀ p q, a ≤ p → p < q → q < b → key (l.getD p 0) ≤ key (l.getD q 0)
/-- In order from a up to i, but for what stands at j, which is no greater than what follows it. -/
def insOn (key : Int → Int) (l : List Int) (a i j : Nat) : Prop := ∀ p q, a ≤ p → p < q → q ≤ i → q ≠ j → key (l.getD p 0) ≤ key (l.getD q 0)
theorem ins_start {l : List Int} {a i : Nat} (h : ordOn key l a i) : insOn key l a i i := fun p q h1 h2 h3 h4 => h p q h1 h2 (by omega)
theorem ins_step {l : List Int} {a i j : Nat} (h : insOn key l a i j) (haj : a < j) (hji : j ≤ i) (hil : i < l.length) (hlt : key (l.getD j 0) < key (l.getD (j - 1) 0)) : insOn key (swL l j (j - 1)) a i (j - 1) := by
  intro p q h1 h2 h3 h4
  rw [swL_getD _ _ _ _ (by omega) (by omega) (by omega), swL_getD _ _ _ _ (by omega) (by omega) (by omega)]
  by_cases hqj : q = j
  · subst hqj
    rw [if_pos rfl, if_neg (by omega)]
    by_cases hp : p = q - 1
    · rw [if_pos hp]; omega
    · rw [if_neg hp]; exact h p (q - 1) h1 (by omega) (by omega) (by omega)
  · rw [if_neg hqj, if_neg h4]
    by_cases hp : p = j
    · rw [if_pos hp]; exact h (j - 1) q (by omega) (by omega) h3 hqj
    · rw [if_neg hp]
      by_cases hp2 : p = j - 1
      · rw [if_pos hp2]
        by_cases hq2 : j < q
        · exact h j q (by omega) hq2 h3 hqj
        · omega
      · rw [if_neg hp2]; exact h p q h1 h2 h3 hqj
theorem ins_end {l : List Int} {a i j : Nat} (h : insOn key l a i j) (haj : a ≤ j) (hji : j ≤ i) (hs : j = a ∨ ¬ key (l.getD j 0) < key (l.getD (j - 1) 0)) : ordOn key l a (i + 1) := by
  intro p q h1 h2 h3
  by_cases hqj : q = j
  · subst hqj
    rcases hs with hs | hs
    · omega
    · by_cases hp : p = q - 1
      · rw [hp]; omega
      · have := h p (q - 1) h1 (by omega) (by omega) (by omega)
        omega
  · exact h p q h1 h2 (by omega) hqj
/-- The order of the places outside of [a, b) is kept. -/
def keptOff (l0 l : List Int) (a b : Nat) : Prop := ∀ p, (p < a ∨ b ≤ p) → l.getD p 0 = l0.getD p 0
theorem keptOff_refl (l : List Int) (a b : Nat) : keptOff l l a b := fun _ _ => rfl
theorem keptOff_swL {l0 l : List Int} {a b i j : Nat} (h : keptOff l0 l a b) (hi : i < l.length) (hj : j < l.length) (hne : i ≠ j) (ha : a ≤ i ∧ i < b) (hb : a ≤ j ∧ j < b) : keptOff l0 (swL l i j) a b := by
  intro p hp
  rw [swL_getD _ _ _ _ hi hj hne, if_neg (by omega), if_neg (by omega)]
  exact h p hp
/-- What a sort of the places from a up to b makes of a list. -/
structure SortP (key : Int → Int) (l0 l : List Int) (a b : Nat) : Prop where
  perm : l.Perm l0
  ord : ordOn key l a b
  off : keptOff l0 l a b
theorem SortP.len {l0 l : List Int} {a b : Nat} (h : SortP key l0 l a b) : l.length = l0.length := h.perm.length_eq
theorem ordOn_short {l : List Int} {a b : Nat} (h : b ≤ a + 1) : ordOn key l a b := fun p q h1 h2 h3 => by omega
theorem SortP.short {l : List Int} {a b : Nat} (h : b ≤ a + 1) : SortP key l l a b := ⟨List.Perm.refl _, ordOn_short h, keptOff_refl _ _ _⟩
/-- The one list in the key's order, where the keys differ. -/
theorem ord_unique {l m : List Int} (hl : ordOn key l 0 l.length) (hm : ordOn key m 0 m.length) (hp : l.Perm m) (hk : ∀ x ∈ l, ∀ y ∈ l, key x = key y → x = y) : l = m := by
  have pw : ∀ {l : List Int}, ordOn key l 0 l.length → l.Pairwise (fun a b => key a ≤ key b) := by
    intro l h
    rw [List.pairwise_iff_getElem]
    intro i j hi hj hij
    have := h i j (Nat.zero_le _) hij hj
    simpa [List.getD, hi, hj] using this
  refine List.Perm.eq_of_pairwise (le := fun a b => key a ≤ key b) ?_ (pw hl) (pw hm) hp
  intro a b ha hb h1 h2
  exact hk a ha b (hp.mem_iff.2 hb) (by omega)
end Go.Proofs.YtiodolbgapjmkaaGreatDoor
