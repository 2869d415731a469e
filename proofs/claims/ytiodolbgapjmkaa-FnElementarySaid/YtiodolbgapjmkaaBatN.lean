/- Batcher's network, by its contracts, on all arguments. Conditions: none. -/
import Derived.Test.YtiodolbgapjmkaaBatchS
import Derived.Test.YtiodolbgapjmkaaNet2
namespace Go.Proofs.Ytiodolbgapjmkaa
open Go.RowKit
set_option maxRecDepth 100000
theorem BatcherNetwork_i_none (a : Int) (w : World) (hb : inB a 1 8 = false) : Calls Try.prog 46 #[.int .i64 a] w (NetC w 0 [] false) := by
  go_enter Try.func46, Try.ntmps46
  go_wp2_with ((go_at_call 105; refine (isWires_c _ _).mono ?_; rintro e w' ⟨rfl, rfl⟩))
  have h1 := blk_new w (.cells #[.int .i64 0, .slice none 0 0] 30)
  have c0 := blk_cell h1 0
  have c1 := blk_cell h1 1
  have hb : Below w.heap.size w (w.alloc (.cells #[.int .i64 0, .slice none 0 0] 30)) := (Below.refl _ _).alloc (Nat.le_refl _) _
  first
    | exact bodyPost_ret (v := .tuple #[.agg #[.int .i64 0, .slice none 0 0], .bool false]) (by simp [results, Try.results46, go_sem]) rfl ⟨_, [], rfl, OwnR.nil _ _ _, hb⟩
    | exact bodyPost_ret (v := .tuple #[.agg #[.int .i64 0, .slice none 0 0], .bool false]) (by simp [results, Try.results46, go_sem]) rfl ⟨_, [], rfl, OwnR.nil _ _ _, (hb.setCell (Nat.le_refl _) _).setCell (Nat.le_refl _) _⟩
set_option maxHeartbeats 1000000 in
theorem BatcherNetwork_i_yes (n : Nat) (w : World) (hb : inB (n : Int) 1 8 = true) (h1 : 1 ≤ n) (h8 : n ≤ 8) : Calls Try.prog 46 #[.int .i64 n] w (NetC w (n : Int) (bat n (upI 0 n)) true) := by
  have WA : Hid (∀ w, Calls Try.prog 109 #[.int .i64 0, .int .i64 n] w (IntC w (upI 0 n))) := fun w => by have := wires_c 0 n w (by omega) (by omega) (by omega); simpa using this
  go_enter Try.func46, Try.ntmps46
  go_wp2_with ((go_at_call 105; refine (isWires_c _ _).mono ?_; rintro e w' ⟨rfl, rfl⟩))
  refine (WA.out _).mono ?_
  rintro e w1 ⟨u1, rfl, o1, b1⟩
  have h1' := blk_below (blk_new w (.cells #[.int .i64 0, .slice none 0 0] 30)) b1 (by simp)
  have z1 : w.heap.size + 1 ≤ w1.heap.size := by have := b1.size; simpa using this
  have B1 : Hid (Below w.heap.size w w1) := ((Below.refl _ _).alloc (Nat.le_refl _) _).trans (b1.mono (by simp))
  have P1 : Hid (IntsV w1 0 w1.heap.size u1 (upI 0 n)) := (OwnI.ints o1).mono (Nat.zero_le _) (Nat.le_refl _)
  obtain ⟨x1, n1, y1, rfl⟩ := (OwnI.ints o1).shape
  have HB1 := Lib.hid h1'
  clear o1 b1 h1'
  go_wp2_with fail
  refine (batcher_c n (upI 0 n) 0 w1.heap.size _ w1 (by rw [upI_length]; exact h1) (by rw [upI_length]; exact Nat.le_refl _) (by rw [upI_length]; exact h8) h8 P1.out (Nat.le_refl _)).mono ?_
  rintro e w3 ⟨u, us, rfl, o3, b3⟩
  have h3 := blk_below HB1.out b3 (by omega)
  have c0 := blk_cell h3 0
  have c1 := blk_cell h3 1
  have f0 := blk_free h3 0
  have f1 := blk_free h3 1
  obtain ⟨ao, g, cap, e, -, -, -⟩ := o3.rows
  obtain ⟨R, hR⟩ : ∃ R, R = bat n (upI 0 n) := ⟨_, rfl⟩
  have HRR := Lib.hid hR
  rw [← hR] at e o3
  obtain ⟨L, hL⟩ : ∃ L, L = R.length := ⟨_, rfl⟩
  rw [← hL] at e
  subst e
  have HF : Hid (NetC w (n : Int) R true (.returned (.tuple #[.agg #[.int .i64 (n : Int), .slice ao L cap], .bool true])) ((w3.setCell ⟨w.heap.size, 0, none⟩ (.int .i64 (n : Int))).setCell ⟨w.heap.size, 1, none⟩ (.slice ao L cap))) := by
    refine ⟨_, us, rfl, ?_, ((B1.out.trans (b3.mono (by omega))).setCell (Nat.le_refl _) _).setCell (Nat.le_refl _) _⟩
    rw [show ((w3.setCell ⟨w.heap.size, 0, none⟩ (.int .i64 (n : Int))).setCell ⟨w.heap.size, 1, none⟩ (.slice ao L cap)).heap.size = w3.heap.size from by simp [World.setCell]]
    refine (o3.kept fun k k1 _ _ => ?_).mono (by omega) (Nat.le_refl _)
    rw [Below.heap_setCell _ _ _ _ (by show k ≠ w.heap.size; omega), Below.heap_setCell _ _ _ _ (by show k ≠ w.heap.size; omega)]
  clear o3 b3 hL h3 hR
  go_wp2
  exact bodyPost_ret (v := .tuple #[.agg #[.int .i64 (n : Int), .slice ao L cap], .bool true]) (by simp [results, Try.results46, go_sem, c0, c1]) rfl (by rw [← HRR.out]; exact HF.out)
def XBatcherNetwork (a : Int) : List (List Int) := if inB a 1 8 = true then bat a.toNat (upI 0 a.toNat) else []
theorem XBatcherNetwork_small (a : Int) : smallR (XBatcherNetwork a) := by
  have : ∀ n : Fin 9, (bat n.1 (upI 0 n.1)).length ≤ 100 ∧ ∀ xs ∈ (bat n.1 (upI 0 n.1)), xs.length ≤ 2 := by decide +kernel
  unfold XBatcherNetwork
  split
  · rename_i h
    obtain ⟨n, rfl, h1, h8⟩ : ∃ n : Nat, a = n ∧ 1 ≤ n ∧ n ≤ 8 := ⟨a.toNat, by have := inB_of h; omega, by have := inB_of h; omega, by have := inB_of h; omega⟩
    have h2 : (bat n (upI 0 n)).length ≤ 100 ∧ ∀ xs ∈ (bat n (upI 0 n)), xs.length ≤ 2 := this ⟨n, by omega⟩
    simp only [Int.toNat_natCast]
    exact smallR_pairs (by have := h2.1; omega) fun xs hx => by have := h2.2 xs hx; omega
  · exact smallR_pairs (by simp) (by simp)
theorem batEq (n : Nat) (h : n ≤ 8) : batL n (upI 0 n) = bat n (upI 0 n) := by
  have : ∀ n : Fin 9, batL n.1 (upI 0 n.1) = bat n.1 (upI 0 n.1) := by decide +kernel
  exact this ⟨n, by omega⟩
theorem BatcherNetwork_i_c (a : Int) (w : World) : Calls Try.prog 46 #[.int .i64 a] w (NetC w (if inB a 1 8 = true then a else 0) (XBatcherNetwork a) (inB a 1 8)) := by
  by_cases h : inB a 1 8 = true
  · unfold XBatcherNetwork
    rw [if_pos h, if_pos h, h]
    obtain ⟨n, rfl, h1, h8⟩ : ∃ n : Nat, a = n ∧ 1 ≤ n ∧ n ≤ 8 := ⟨a.toNat, by have := inB_of h; omega, by have := inB_of h; omega, by have := inB_of h; omega⟩
    simp only [Int.toNat_natCast]
    have := BatcherNetwork_i_yes n w h h1 h8
    exact this
  · replace h : inB a 1 8 = false := by simpa using h
    unfold XBatcherNetwork
    rw [if_neg (by simp [h]), if_neg (by simp [h]), h]
    exact BatcherNetwork_i_none a w h
end Go.Proofs.Ytiodolbgapjmkaa
