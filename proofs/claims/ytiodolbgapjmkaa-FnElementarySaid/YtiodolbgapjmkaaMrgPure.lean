/- What Batcher's merge hands back: pairs of the given numbers; the same on shifted numbers. Conditions: none. -/
import Derived.Test.YtiodolbgapjmkaaMrg
namespace Go.Proofs.Ytiodolbgapjmkaa
open Go.RowKit

theorem halfI_mem {p : Nat} {xs : List Int} {x : Int} (h : x ∈ halfI p xs) : x ∈ xs := by
  simp only [halfI, halfK, List.mem_map, List.mem_filter, List.mem_range] at h
  obtain ⟨i, ⟨hi, -⟩, rfl⟩ := h
  simp [List.getD, List.getElem?_eq_getElem hi]
theorem getD_mem {xs : List Int} {i : Nat} (h : i < xs.length) : xs.getD i 0 ∈ xs := by simp [List.getD, List.getElem?_eq_getElem h]
/-- Every comparator is a pair of the given numbers. -/
theorem mrg_mem (f : Nat) : ∀ (a b : List Int) (r : List Int), r ∈ mrg f a b → ∃ x y, r = [x, y] ∧ x ∈ a ++ b ∧ y ∈ a ++ b := by
  induction f with
  | zero => intro a b r h; simp [mrg] at h
  | succ f ih =>
    intro a b r h
    unfold mrg at h
    split at h
    · simp at h
    · split at h
      · rename_i h0 h1
        simp only [List.mem_singleton] at h
        exact ⟨_, _, h, List.mem_append_left _ (getD_mem (by omega)), List.mem_append_right _ (getD_mem (by omega))⟩
      · rename_i h0 h1
        have up : ∀ p x, x ∈ halfI p a ++ halfI p b → x ∈ a ++ b := fun p x hx => by
          rcases List.mem_append.1 hx with hx | hx
          · exact List.mem_append_left _ (halfI_mem hx)
          · exact List.mem_append_right _ (halfI_mem hx)
        rcases List.mem_append.1 h with h | h
        · rcases List.mem_append.1 h with h | h
          · obtain ⟨x, y, e, hx, hy⟩ := ih _ _ _ h
            exact ⟨x, y, e, up 0 x hx, up 0 y hy⟩
          · obtain ⟨x, y, e, hx, hy⟩ := ih _ _ _ h
            exact ⟨x, y, e, up 1 x hx, up 1 y hy⟩
        · simp only [cmpW, List.mem_map, List.mem_range] at h
          obtain ⟨i, hi, rfl⟩ := h
          have hx := up 1 _ (getD_mem (xs := halfI 1 a ++ halfI 1 b) (i := i) (by omega))
          have hy := up 0 _ (getD_mem (xs := halfI 0 a ++ halfI 0 b) (i := i + 1) (by omega))
          refine ⟨_, _, rfl, ?_, ?_⟩
          · rcases (by omega : ∀ p q : Int, min p q = p ∨ min p q = q) ((halfI 1 a ++ halfI 1 b).getD i 0) ((halfI 0 a ++ halfI 0 b).getD (i + 1) 0) with e | e <;> rw [e] <;> assumption
          · rcases (by omega : ∀ p q : Int, max p q = p ∨ max p q = q) ((halfI 1 a ++ halfI 1 b).getD i 0) ((halfI 0 a ++ halfI 0 b).getD (i + 1) 0) with e | e <;> rw [e] <;> assumption

theorem halfI_map (p : Nat) (xs : List Int) (c : Int) : halfI p (xs.map (· + c)) = (halfI p xs).map (· + c) := by
  unfold halfI halfK
  rw [List.length_map, List.map_map]
  refine List.map_congr_left fun i hi => ?_
  have hi := (List.mem_range.1 (List.mem_filter.1 hi).1)
  simp [List.getD, List.getElem?_map, List.getElem?_eq_getElem hi]
theorem getD_add {xs : List Int} {i : Nat} (c : Int) (h : i < xs.length) : (xs.map (· + c)).getD i 0 = xs.getD i 0 + c := by
  simp [List.getD, List.getElem?_map, List.getElem?_eq_getElem h]
theorem cmpW_shift (c : Int) (v w : List Int) (k : Nat) (h : ∀ i, i < k → i < w.length ∧ i + 1 < v.length) : cmpW (v.map (· + c)) (w.map (· + c)) k = (cmpW v w k).map (List.map (· + c)) := by
  unfold cmpW
  rw [List.map_map]
  refine List.map_congr_left fun i hi => ?_
  have hi := h i (List.mem_range.1 hi)
  simp only [cmpP, Function.comp, List.map_cons, List.map_nil]
  rw [getD_add c (by omega), getD_add c (by omega)]
  congr 1
  · omega
  · congr 1
    omega
/-- On shifted numbers the same comparators, shifted. -/
theorem mrg_shift (f : Nat) (c : Int) : ∀ (a b : List Int), mrg f (a.map (· + c)) (b.map (· + c)) = (mrg f a b).map (List.map (· + c)) := by
  induction f with
  | zero => intro a b; simp [mrg]
  | succ f ih =>
    intro a b
    unfold mrg
    rw [List.length_map, List.length_map]
    by_cases h0 : a.length = 0 ∨ b.length = 0
    · rw [if_pos h0, if_pos h0]; rfl
    · rw [if_neg h0, if_neg h0]
      by_cases h1 : a.length = 1 ∧ b.length = 1
      · rw [if_pos h1, if_pos h1, getD_add c (by omega), getD_add c (by omega)]; rfl
      · rw [if_neg h1, if_neg h1]
        simp only [halfI_map, ih, ← List.map_append, List.length_map]
        rw [cmpW_shift c _ _ _ (fun i hi => by omega)]
        simp only [List.map_append]
theorem upI_shift (a c : Int) (n : Nat) : upI (a + c) n = (upI a n).map (· + c) := by
  unfold upI
  rw [List.map_map]
  refine List.map_congr_left fun i _ => ?_
  simp only [Function.comp]
  omega
end Go.Proofs.Ytiodolbgapjmkaa
