/- What a call owns stays as it is where a network's box is written. Conditions: none. -/
import Derived.Test.YtiodolbgapjmkaaGreatDoorApp
namespace Go.Proofs.YtiodolbgapjmkaaGreatDoor
open Go.RowKit
set_option maxRecDepth 100000

/-- What a call owns is not a network's box. -/
theorem Own.past_box {e T : TypeId} {w : World} {lo hi X i : Nat} {v y : Value} {xs : List Value} {c : Array Value} {f : Nat × Nat} (h : Own e w lo hi v xs) (hb : w.heap[X]? = some (.cells c T f)) (hne : e ≠ T) : Own e (w.setCell ⟨X, i, none⟩ y) lo hi v xs := by
  refine ⟨ownsRow_of_block h.row fun k hk => Below.heap_setCell _ _ _ _ ?_, h.lt⟩
  show k ≠ X
  intro hkx
  subst hkx
  rcases h.row.2 with ⟨e1, _⟩ | ⟨g, cap, cur, e1, hg, hh, _⟩
  · rw [e1] at hk; simp [Value.ownBlock] at hk
  · rw [e1] at hk
    simp [Value.ownBlock] at hk
    subst hk
    rw [hb] at hh
    simp at hh
    exact hne hh.2.1.symm
theorem own_not_box {e T : TypeId} {w : World} {lo hi X : Nat} {v : Value} {xs : List Value} {c : Array Value} {f : Nat × Nat} (h : Own e w lo hi v xs) (hb : w.heap[X]? = some (.cells c T f)) (hne : e ≠ T) : v.ownBlock ≠ some X := by
  intro hk
  rcases h.row.2 with ⟨e1, _⟩ | ⟨g, cap, cur, e1, hg, hh, _⟩
  · rw [e1] at hk; simp [Value.ownBlock] at hk
  · rw [e1] at hk
    simp [Value.ownBlock] at hk
    subst hk
    rw [hb] at hh
    simp at hh
    exact hne hh.2.1.symm
theorem OwnR.past_box {w : World} {lo hi X i : Nat} {v y : Value} {vs : List Value} {xss : List (List Int)} {c : Array Value} {f : Nat × Nat} (h : OwnR w lo hi v vs xss) (hb : w.heap[X]? = some (.cells c 25 f)) : OwnR (w.setCell ⟨X, i, none⟩ y) lo hi v vs xss :=
  ⟨Own.past_box h.top hb (by decide), h.len, fun i u xs a b => Own.past_box (h.row i u xs a b) hb (by decide), h.sep⟩
/-- A network's box with one of its cells set. -/
theorem box_set0 {w : World} {X : Nat} {a b y : Value} (h : w.heap[X]? = some (.cells #[a, b] 25 (0, 0))) : (w.setCell ⟨X, 0, none⟩ y).heap[X]? = some (.cells #[y, b] 25 (0, 0)) := by
  have hlt : X < w.heap.size := lt_of_block h
  have h' : w.heap[X] = .cells #[a, b] 25 (0, 0) := by simpa [Array.getElem?_eq_getElem hlt] using h
  show (w.heap.modify X _)[X]? = _
  rw [Array.getElem?_eq_getElem (by simpa using hlt), Array.getElem_modify_self, h']
  rfl
theorem box_set1 {w : World} {X : Nat} {a b y : Value} (h : w.heap[X]? = some (.cells #[a, b] 25 (0, 0))) : (w.setCell ⟨X, 1, none⟩ y).heap[X]? = some (.cells #[a, y] 25 (0, 0)) := by
  have hlt : X < w.heap.size := lt_of_block h
  have h' : w.heap[X] = .cells #[a, b] 25 (0, 0) := by simpa [Array.getElem?_eq_getElem hlt] using h
  show (w.heap.modify X _)[X]? = _
  rw [Array.getElem?_eq_getElem (by simpa using hlt), Array.getElem_modify_self, h']
  rfl
end Go.Proofs.YtiodolbgapjmkaaGreatDoor
