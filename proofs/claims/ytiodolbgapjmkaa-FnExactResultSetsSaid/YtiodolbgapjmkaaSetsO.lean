/- Lists of lists whose rows are only read. Conditions: none. -/
import Derived.Test.YtiodolbgapjmkaaSetsP
import Derived.Test.YtiodolbgapjmkaaCountS
import Derived.Test.YtiodolbgapjmkaaStd2
namespace Go.Proofs.Ytiodolbgapjmkaa
open Go.RowKit
set_option linter.unusedVariables false

/-- A list of lists of the call's own, whose rows are only read. -/
structure SetsO (w : World) (lo hi : Nat) (v : Value) (vs : List Value) (xss : List (List Int)) : Prop where
  top : Own 22 w lo hi v vs
  len : vs.length = xss.length
  row : ∀ (i : Nat) (u : Value) (xs : List Int), vs[i]? = some u → xss[i]? = some xs → IntsV w lo hi u xs
theorem IntsV.one {w : World} {lo hi : Nat} {u : Value} {xs : List Int} (h : IntsV w lo hi u xs) : u.oneCell' = true := by
  obtain ⟨ao, b, off, cap, rfl, -⟩ := h
  rfl
namespace SetsO
variable {w w' : World} {lo hi : Nat} {v : Value} {vs : List Value} {xss : List (List Int)}
theorem below (h : SetsO w lo hi v vs xss) {B : Nat} (hb : Below B w w') (hB : hi ≤ B) : SetsO w' lo hi v vs xss :=
  ⟨Own.below h.top hb hB, h.len, fun i u xs a b => (h.row i u xs a b).below hb hB⟩
theorem mono (h : SetsO w lo hi v vs xss) {lo' hi' : Nat} (h1 : lo' ≤ lo) (h2 : hi ≤ hi') : SetsO w lo' hi' v vs xss :=
  ⟨Own.mono h.top h1 h2, h.len, fun i u xs a b => (h.row i u xs a b).mono h1 h2⟩
theorem later (h : SetsO w lo w.heap.size v vs xss) (hb : Below w.heap.size w w') : SetsO w' lo w'.heap.size v vs xss := (h.below hb (Nat.le_refl _)).mono (Nat.le_refl _) hb.size
theorem view (h : SetsO w lo hi v vs xss) : ∃ ao g cap, v = .slice ao xss.length cap ∧ xss.length ≤ cap ∧ (0 < xss.length → ao = some ⟨g, 0, none⟩ ∧ lo ≤ g ∧ g < hi) ∧
    ∀ i, i < xss.length → w.cell? ⟨g, i, none⟩ = some (vs.getD i undef) ∧ IntsV w lo hi (vs.getD i undef) (xss.getD i []) := by
  obtain ⟨ao, g, cap, e, h1, h2, h3⟩ := h.top.view
  rw [h.len] at e h1 h2 h3
  refine ⟨ao, g, cap, e, h1, h2, fun i hi => ?_⟩
  have hv : i < vs.length := by rw [h.len]; exact hi
  refine ⟨by rw [(h3 i hi).1, List.getElem?_eq_getElem hv]; simp [List.getD, List.getElem?_eq_getElem hv], ?_⟩
  exact h.row i _ _ (by simp [List.getD, List.getElem?_eq_getElem hv]) (by simp [List.getD, List.getElem?_eq_getElem hi])
theorem rowsV (h : SetsO w lo hi v vs xss) : RowsV w lo hi v vs xss := by
  obtain ⟨ao, g, cap, e, h1, h2, h3⟩ := h.view
  exact ⟨ao, g, 0, cap, e, h1, h.len, h2, fun i hi => by rw [Nat.zero_add]; exact h3 i hi⟩
theorem of_rows (h : OwnR w lo hi v vs xss) : SetsO w lo hi v vs xss := ⟨h.top, h.len, fun i u xs a b => OwnI.ints (h.row i u xs a b)⟩
/-- The rows with one more in between. -/
theorem ins {k : Nat} {u v' : Value} {x : List Int} (h : SetsO w lo hi v vs xss) (hu : IntsV w lo hi u x) (hk : k ≤ xss.length) (ht : Own 22 w lo hi v' (vs.take k ++ [u] ++ vs.drop k)) : SetsO w lo hi v' (vs.take k ++ [u] ++ vs.drop k) (insAt xss k x) := by
  have hl := h.len
  have h1 : (vs.take k).length = k := by rw [List.length_take]; omega
  have h2 : (xss.take k).length = k := by rw [List.length_take]; omega
  refine ⟨ht, by unfold insAt; simp [hl], fun i t ys a b => ?_⟩
  unfold insAt at b
  rw [List.append_assoc] at a b
  rcases (by omega : i < k ∨ i = k ∨ k < i) with hi' | hi' | hi'
  · rw [List.getElem?_append_left (by omega), List.getElem?_take_of_lt hi'] at a b
    exact h.row i t ys a b
  · subst hi'
    rw [List.getElem?_append_right (by omega), h1] at a
    rw [List.getElem?_append_right (by omega), h2] at b
    simp at a b
    subst a b
    exact hu
  · obtain ⟨q, rfl⟩ : ∃ q, i = k + 1 + q := ⟨i - (k + 1), by omega⟩
    rw [List.getElem?_append_right (by omega), h1, show k + 1 + q - k = q + 1 from by omega, List.singleton_append, List.getElem?_cons_succ, List.getElem?_drop] at a
    rw [List.getElem?_append_right (by omega), h2, show k + 1 + q - k = q + 1 from by omega, List.singleton_append, List.getElem?_cons_succ, List.getElem?_drop] at b
    exact h.row _ t ys a b
end SetsO
end Go.Proofs.Ytiodolbgapjmkaa
