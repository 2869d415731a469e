/- One round of bricks, the reference's: the pairs of neighbors from 0 or 1 on. Conditions: at most eight wires and rounds. -/
import Derived.Test.YtnheioohmcgpjaaRowApp
import Derived.Test.YtnheioohmcgpjaaSmall
namespace Go.Proofs.Ytnheioohmcgpjaa
open Go.RowKit
set_option maxRecDepth 100000

/-- The pairs of a round. -/
def brickR (_n p k : Nat) : List (List Int) := (List.range k).map fun k : Nat => [(p : Int) + 2 * k, (p : Int) + 2 * k + 1]
theorem brickR_succ (n p k : Nat) : brickR n p (k + 1) = brickR n p k ++ [[(p : Int) + 2 * k, (p : Int) + 2 * k + 1]] := by simp [brickR, List.range_succ]
theorem brickR_length (n p k : Nat) : (brickR n p k).length = k := by simp [brickR]

theorem l07Brick_c (n t : Nat) (w : World) (hn : n ≤ 1000) (ht : t ≤ 1000) : Calls Try.prog 51 #[.int .i64 n, .int .i64 t] w (RowC w (brickR n (t % 2) ((n - t % 2) / 2))) := by
  obtain ⟨p, hp⟩ : ∃ p : Nat, p = t % 2 := ⟨_, rfl⟩
  have hp1 : p ≤ 1 := by omega
  have hmod : (t : Int) % 2 = (p : Int) := by omega
  rw [← hp]
  have HMOD := Lib.hid hmod
  clear hp hmod
  go_enter Try.func51, Try.ntmps51
  go_wp2
  rw [HMOD.out]
  obtain ⟨W, hW⟩ : ∃ W, W = w.alloc (.cells #[] 22) := ⟨_, rfl⟩
  have hi : OwnR W w.heap.size W.heap.size (.slice (some ⟨w.heap.size, 0, none⟩) 0 0) [] [] := by rw [hW]; exact (ownR_empty w).mono (Nat.le_refl _) (by simp)
  have hb : Below w.heap.size w W := by rw [hW]; exact (Below.refl _ _).alloc (Nat.le_refl _) _
  rw [← hW]
  clear hW
  have HI := Lib.hid hi
  clear hi
  go_loopw [5, 6] (fun v i wr => ∃ k : Nat, k ≤ (n - p) / 2 ∧ i = .int .i64 ((p : Int) + 2 * k) ∧ ∃ vs, OwnR wr w.heap.size wr.heap.size v vs (brickR n p k) ∧ Below w.heap.size w wr) (fun _ i _ => n - (intOf i).toNat)
  case atStart => exact ⟨0, by omega, by go_num, [], by simpa [brickR] using HI.out, hb⟩
  case round =>
    obtain ⟨k, hk, rfl, vs, hR, hB⟩ := hrel
    have HR := Lib.hid hR
    have HB := Lib.hid hB
    have hz := hB.size
    clear hR hB
    have hk8 : (k : Int) ≤ 1000 := by omega
    have hl : (brickR n p k).length ≤ 1000000 := by rw [brickR_length]; omega
    have HL := Lib.hid hl
    clear hl
    by_cases hkl : k < (n - p) / 2
    · have hj : (p : Int) + 2 * k + 1 < (n : Int) := by omega
      go_wp2_with (at_builtin; refine wpList_app_pair rfl (.tmp 16) (.tmp 21) rfl wr _ _ w.heap.size _ vs (brickR n p k) HR.out hz HL.out rfl rfl ?_; intro g' L' cap' w1 vs1 hL o1 b1 z1; have O1 := Lib.hid o1; clear o1)
      go_roundw
      case rel => exact ⟨k + 1, by omega, by go_num, _, by rw [brickR_succ]; exact O1.out, HB.out.trans b1⟩
      case measure => simp [intOf]; omega
    · have hj : (n : Int) ≤ (p : Int) + 2 * k + 1 := by omega
      obtain ⟨kk, hkk⟩ : ∃ kk, kk = (n - p) / 2 := ⟨_, rfl⟩
      have HE : Hid (k = (n - p) / 2) := by show k = _; omega
      go_wp2
      go_ret
      exact ⟨_, vs, rfl, by rw [← HE.out]; exact HR.out, HB.out⟩
end Go.Proofs.Ytnheioohmcgpjaa
