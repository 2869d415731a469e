/- The copies that the laws make of their arguments, by their contracts: the copy reads as what was copied and lies in new memory. Conditions: none. -/
import Derived.Test.YtiodolbgapjmkaaSmall
import Derived.Test.YtiodolbgapjmkaaLater
namespace Go.Proofs.Ytiodolbgapjmkaa
open Go.RowKit
set_option maxRecDepth 100000

theorem toIntS_c (lo hi : Nat) (v : Value) (xs : List Int) (w : World) (hv : IntsV w lo hi v xs) (h1 : hi ≤ w.heap.size) (hl : xs.length ≤ 35184372088832) :
    Calls Try.prog 13 #[v] w fun e w' => ∃ u, e = .returned u ∧ OwnI w' w.heap.size w'.heap.size u xs ∧ Below w.heap.size w w' := by
  obtain ⟨ao, b, off, cap, rfl, hcap, hao, hc⟩ := hv
  have HC := Lib.hid hc
  clear hc
  have hmk := run_make_row' (P := Try.prog) 22 3 (.int .i64 0) 8 Try.underlying22 Try.infoI rfl .i64 .i64 xs.length (by omega) (by omega)
  go_enter Try.func13, Try.ntmps13
  go_wp2
  clear hmk
  obtain ⟨W1, hW1⟩ : ∃ W1, w.alloc (.cells (madeCells #[.int .i64 0] xs.length) 3) = W1 := ⟨_, rfl⟩
  have hB1 : Below w.heap.size w W1 := by rw [← hW1]; exact (Below.refl _ _).alloc (Nat.le_refl _) _
  have hrow : W1.rowIs w.heap.size 3 xs.length (fun j => .int .i64 (if j < 0 then xs.getD j 0 else 0)) := by rw [← hW1]; exact (World.rowIs_made w (.int .i64 0) xs.length 3).congr fun i _ => by simp
  rw [hW1]
  clear hW1
  go_loopw [4] (fun i wr => ∃ k : Nat, k ≤ xs.length ∧ i = .int .i64 k ∧ Below w.heap.size w wr ∧ wr.rowIs w.heap.size 3 xs.length (fun j => .int .i64 (if j < k then xs.getD j 0 else 0))) (fun i _ => xs.length - (intOf i).toNat)
  case atStart => exact ⟨0, Nat.zero_le _, rfl, hB1, hrow⟩
  case round =>
    obtain ⟨k, hk, rfl, hb, hr⟩ := hrel
    clear hrow hB1
    by_cases hlt : k < xs.length
    · obtain ⟨rfl, q1, q2⟩ := hao (by omega)
      obtain ⟨x, hx⟩ : ∃ x, x = xs.getD k 0 := ⟨_, rfl⟩
      have c1 : wr.cell? ⟨b, off + k, none⟩ = some (.int .i64 x) := by rw [hx]; exact (hb.cell (p := ⟨b, off + k, none⟩) (by show b < _; omega)).trans (HC.out k hlt)
      have HX := Lib.hid hx
      clear hx
      have c2 : wr.cell? ⟨w.heap.size, k, none⟩ = some (.int .i64 0) := by rw [hr.cell hlt]; simp
      have c3 : wr.frozen? ⟨w.heap.size, k, none⟩ = false := hr.frozen k
      have hstep : (wr.setCell ⟨w.heap.size, k, none⟩ (.int .i64 x)).rowIs w.heap.size 3 xs.length (fun j => .int .i64 (if j < k + 1 then xs.getD j 0 else 0)) := by
        refine (hr.set k (.int .i64 x)).congr fun i hi => ?_
        show (if i = k then _ else _) = _
        by_cases e : i = k
        · subst e; rw [if_pos rfl, if_pos (by omega), HX.out]
        · rw [if_neg e]
          by_cases e2 : i < k
          · rw [if_pos e2, if_pos (by omega)]
          · rw [if_neg e2, if_neg (by omega)]
      have HS := Lib.hid hstep
      have HB := Lib.hid hb
      clear hr hstep hb
      go_wp2
      go_roundw
      case rel => exact ⟨k + 1, by omega, by go_num, HB.out.setCell (Nat.le_refl _) _, HS.out⟩
      case measure => simp [intOf]; omega
    · have HF : Hid (OwnI wr w.heap.size wr.heap.size (.slice (some ⟨w.heap.size, 0, none⟩) xs.length xs.length) xs) := by
        have h := own_of_rowIs (lo := w.heap.size) hr (Nat.le_refl _) (by unfold maxLen; omega)
        rw [List.map_congr_left (g := fun i => Value.int .i64 (xs.getD i 0)) (fun i hi => by rw [if_pos (by have := List.mem_range.1 hi; omega)]), map_range_getD] at h
        exact h
      clear hr
      go_wp2
      go_ret
      exact ⟨_, rfl, HF.out, hb⟩

end Go.Proofs.Ytiodolbgapjmkaa
