/- Batcher's sorter, the program's. Conditions: one to eight wires. -/
import Derived.Test.YtiodolbgapjmkaaGreatDoorMrg
namespace Go.Proofs.YtiodolbgapjmkaaGreatDoor
open Go.RowKit
set_option maxRecDepth 100000

/-- The first h of a list, in the same memory. -/
theorem IntsV.take {w : World} {lo hi : Nat} {b off cap : Nat} {l : List Int} (h : IntsV w lo hi (.slice (some ⟨b, off, none⟩) l.length cap) l) (k : Nat) (h1 : k ≤ l.length) (h0 : 0 < cap) :
    IntsV w lo hi (.slice (some ⟨b, off, none⟩) k cap) (l.take k) := by
  obtain ⟨ao, b', off', cap', e, hcap, hao, hc⟩ := h
  injection e with e1 e2 e3
  subst e3
  obtain ⟨rfl, q1, q2⟩ := hao h0
  injection e1 with e1
  injection e1 with e1 e4
  subst e1 e4
  have hl : (l.take k).length = k := by rw [List.length_take]; omega
  exact ⟨_, b, off, cap, by rw [hl], by omega, fun _ => ⟨rfl, q1, q2⟩, fun i hi' => by
    rw [hl] at hi'
    rw [hc i (by omega)]
    simp [List.getD, hi']⟩
/-- The rest of a list behind the first k, in the same memory. -/
theorem IntsV.drop {w : World} {lo hi : Nat} {b off cap : Nat} {l : List Int} (h : IntsV w lo hi (.slice (some ⟨b, off, none⟩) l.length cap) l) (k : Nat) (h1 : k < l.length) (h0 : 0 < cap) :
    IntsV w lo hi (.slice (some ⟨b, off + k, none⟩) (l.length - k) (cap - k)) (l.drop k) := by
  obtain ⟨ao, b', off', cap', e, hcap, hao, hc⟩ := h
  injection e with e1 e2 e3
  subst e3
  obtain ⟨rfl, q1, q2⟩ := hao h0
  injection e1 with e1
  injection e1 with e1 e4
  subst e1 e4
  exact ⟨_, b, off + k, cap - k, by rw [List.length_drop], by rw [List.length_drop]; omega, fun _ => ⟨rfl, q1, q2⟩, fun i hi' => by
    rw [List.length_drop] at hi'
    rw [Nat.add_assoc, hc (k + i) (by omega)]
    simp [List.getD, List.getElem?_drop]⟩

/-- Batcher's sorter of a list of wires. -/
def bat : Nat → List Int → List (List Int)
  | 0, _ => []
  | f + 1, l => if l.length ≤ 1 then [] else bat f (l.take ((l.length + 1) / 2)) ++ bat f (l.drop ((l.length + 1) / 2)) ++ mrg l.length (l.take ((l.length + 1) / 2)) (l.drop ((l.length + 1) / 2))
theorem bat_len (f : Nat) : ∀ l : List Int, 1 ≤ l.length → l.length ≤ 8 → (bat f l).length + 4000 ≤ 4000 * l.length := by
  induction f with
  | zero => intro l h1 _; simp only [bat, List.length_nil]; omega
  | succ f ih =>
    intro l h1 h
    unfold bat
    by_cases h2 : l.length ≤ 1
    · rw [if_pos h2]; simp only [List.length_nil]; omega
    · rw [if_neg h2]
      have l0 : (l.take ((l.length + 1) / 2)).length = (l.length + 1) / 2 := by rw [List.length_take]; omega
      have l1 : (l.drop ((l.length + 1) / 2)).length = l.length - (l.length + 1) / 2 := by rw [List.length_drop]
      have i0 := ih (l.take ((l.length + 1) / 2)) (by omega) (by omega)
      have i1 := ih (l.drop ((l.length + 1) / 2)) (by omega) (by omega)
      have i2 := mrg_len l.length (l.take ((l.length + 1) / 2)) (l.drop ((l.length + 1) / 2)) (by omega)
      have : 2 ^ l.length ≤ 2 ^ 8 := Nat.pow_le_pow_right (by omega) h
      rw [List.length_append, List.length_append]
      omega

end Go.Proofs.YtiodolbgapjmkaaGreatDoor
