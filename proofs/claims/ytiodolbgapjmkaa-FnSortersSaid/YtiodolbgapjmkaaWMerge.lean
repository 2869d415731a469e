/- OddEvenMerge and MergeSize, the program's and the reference's, on all arguments. Conditions: none. -/
import Derived.Test.YtiodolbgapjmkaaMrgS
import Derived.Test.YtiodolbgapjmkaaNet2
namespace Go.Proofs.Ytiodolbgapjmkaa
open Go.RowKit
set_option maxRecDepth 100000

theorem sizesB_of {m n : Int} (h : sizesB m n = true) : ∃ a b : Nat, m = a ∧ n = b ∧ a + b ≤ 8 := by
  simp only [sizesB, inB, Bool.and_eq_true, decide_eq_true_eq] at h
  exact ⟨m.toNat, n.toNat, by omega, by omega, by omega⟩
/-- The comparators of Batcher's merge of the first m and the next n wires. -/
def mrgR (m n : Nat) : List (List Int) := mrg (m + n) (upI 0 m) (upI m n)
theorem wiresA_i (m n : Nat) (h8 : m + n ≤ 8) (w : World) : Calls Try.prog 109 #[.int .i64 0, .int .i64 m] w (IntC w (upI 0 m)) := by
  have := wires_c 0 m w (by omega) (by omega) (by omega)
  simpa using this
theorem wiresB_i (m n : Nat) (h8 : m + n ≤ 8) (w : World) : Calls Try.prog 109 #[.int .i64 m, .int .i64 ((m : Int) + n)] w (IntC w (upI m n)) := by
  have := wires_c m ((m : Int) + n) w (by omega) (by omega) (by omega)
  rwa [show ((m : Int) + n - m).toNat = n from by omega] at this
theorem OddEvenMerge_i_none (a b : Int) (w : World) (hb : sizesB a b = false) : Calls Try.prog 31 #[.int .i64 a, .int .i64 b] w (NetC w 0 [] false) := by
  go_enter Try.func31, Try.ntmps31
  go_wp2_with ((go_at_call 107; refine (areParts_c _ _ _).mono ?_; rintro e w' ⟨rfl, rfl⟩))
  have h1 := blk_new w (.cells #[.int .i64 0, .slice none 0 0] 30)
  have c0 := blk_cell h1 0
  have c1 := blk_cell h1 1
  have hb : Below w.heap.size w (w.alloc (.cells #[.int .i64 0, .slice none 0 0] 30)) := (Below.refl _ _).alloc (Nat.le_refl _) _
  first
    | exact bodyPost_ret (v := .tuple #[.agg #[.int .i64 0, .slice none 0 0], .bool false]) (by simp [results, Try.results31, go_sem]) rfl ⟨_, [], rfl, OwnR.nil _ _ _, hb⟩
    | exact bodyPost_ret (v := .tuple #[.agg #[.int .i64 0, .slice none 0 0], .bool false]) (by simp [results, Try.results31, go_sem]) rfl ⟨_, [], rfl, OwnR.nil _ _ _, (hb.setCell (Nat.le_refl _) _).setCell (Nat.le_refl _) _⟩
set_option maxHeartbeats 1000000 in
theorem OddEvenMerge_i_yes (m n : Nat) (w : World) (hb : sizesB m n = true) (h8 : m + n ≤ 8) : Calls Try.prog 31 #[.int .i64 m, .int .i64 n] w (NetC w ((m : Int) + n) (mrgR m n) true) := by
  have WA := Lib.hid (wiresA_i m n h8)
  have WB := Lib.hid (wiresB_i m n h8)
  go_enter Try.func31, Try.ntmps31
  go_wp2_with ((go_at_call 107; refine (areParts_c _ _ _).mono ?_; rintro e w' ⟨rfl, rfl⟩))
  refine (WA.out _).mono ?_
  rintro e w1 ⟨u1, rfl, o1, b1⟩
  have h1 := blk_below (blk_new w (.cells #[.int .i64 0, .slice none 0 0] 30)) b1 (by simp)
  have z1 : w.heap.size + 1 ≤ w1.heap.size := by have := b1.size; simpa using this
  have B1 : Hid (Below w.heap.size w w1) := ((Below.refl _ _).alloc (Nat.le_refl _) _).trans (b1.mono (by simp))
  have P1 : Hid (IntsV w1 0 w1.heap.size u1 (upI 0 m)) := (OwnI.ints o1).mono (Nat.zero_le _) (Nat.le_refl _)
  obtain ⟨x1, n1, y1, rfl⟩ := (OwnI.ints o1).shape
  have HB1 := Lib.hid h1
  clear o1 b1 h1
  go_wp2_with fail
  refine (WB.out w1).mono ?_
  rintro e w2 ⟨u2, rfl, o2, b2⟩
  have z2 := b2.size
  obtain ⟨x2, n2, y2, rfl⟩ := (OwnI.ints o2).shape
  have P2 : Hid (IntsV w2 0 w2.heap.size (.slice x2 n2 y2) (upI m n)) := (OwnI.ints o2).mono (Nat.zero_le _) (Nat.le_refl _)
  have P1' : Hid (IntsV w2 0 w2.heap.size (.slice x1 n1 y1) (upI 0 m)) := (P1.out.below b2 (Nat.le_refl _)).mono (Nat.zero_le _) z2
  have HB2 := Lib.hid (blk_below HB1.out b2 (by omega))
  have B2 : Hid (Below w.heap.size w w2) := B1.out.trans (b2.mono (by omega))
  clear o2 b2 P1 B1 HB1
  go_wp2_with fail
  refine (oddEven_c (m + n) (upI 0 m) (upI m n) 0 w2.heap.size _ _ w2 (by rw [upI_length, upI_length]; omega) h8 P1'.out P2.out (Nat.le_refl _)).mono ?_
  rintro e w3 ⟨u, us, rfl, o3, b3⟩
  have h3 := blk_below HB2.out b3 (by omega)
  have c0 := blk_cell h3 0
  have c1 := blk_cell h3 1
  have f0 := blk_free h3 0
  have f1 := blk_free h3 1
  obtain ⟨ao, g, cap, e, -, -, -⟩ := o3.rows
  obtain ⟨L, hL⟩ : ∃ L, L = (mrg (m + n) (upI 0 m) (upI m n)).length := ⟨_, rfl⟩
  rw [← hL] at e
  subst e
  have HF : Hid (NetC w ((m : Int) + n) (mrgR m n) true (.returned (.tuple #[.agg #[.int .i64 ((m : Int) + n), .slice ao L cap], .bool true])) ((w3.setCell ⟨w.heap.size, 0, none⟩ (.int .i64 ((m : Int) + n))).setCell ⟨w.heap.size, 1, none⟩ (.slice ao L cap))) := by
    refine ⟨_, us, rfl, ?_, ((B2.out.trans (b3.mono (by omega))).setCell (Nat.le_refl _) _).setCell (Nat.le_refl _) _⟩
    rw [show ((w3.setCell ⟨w.heap.size, 0, none⟩ (.int .i64 ((m : Int) + n))).setCell ⟨w.heap.size, 1, none⟩ (.slice ao L cap)).heap.size = w3.heap.size from by simp [World.setCell]]
    refine (o3.kept fun k k1 _ _ => ?_).mono (by omega) (Nat.le_refl _)
    rw [Below.heap_setCell _ _ _ _ (by show k ≠ w.heap.size; omega), Below.heap_setCell _ _ _ _ (by show k ≠ w.heap.size; omega)]
  clear o3 b3 hL h3
  go_wp2
  exact bodyPost_ret (v := .tuple #[.agg #[.int .i64 ((m : Int) + n), .slice ao L cap], .bool true]) (by simp [results, Try.results31, go_sem, c0, c1]) rfl HF.out
theorem wiresA_s (m n : Nat) (h8 : m + n ≤ 8) (w : World) : Calls Try.prog 91 #[.int .i64 0, .int .i64 m] w (IntC w (upI 0 m)) := by
  have := l08Wires_c 0 m w (by omega) (by omega) (by omega)
  simpa using this
theorem wiresB_s (m n : Nat) (h8 : m + n ≤ 8) (w : World) : Calls Try.prog 91 #[.int .i64 m, .int .i64 n] w (IntC w (upI m n)) := by
  have := l08Wires_c m n w (by omega) (by omega) (by omega)
  exact this
def XOddEvenMerge (a b : Int) : List (List Int) := if sizesB a b = true then mrgR a.toNat b.toNat else []
theorem mrgR_small : ∀ m n : Nat, m + n ≤ 8 → (mrgR m n).length ≤ 100 ∧ ∀ xs ∈ mrgR m n, xs.length ≤ 2 := by
  intro m n h
  have : ∀ m : Fin 9, ∀ n : Fin 9, m.1 + n.1 ≤ 8 → (mrgR m n).length ≤ 100 ∧ ∀ xs ∈ mrgR m n, xs.length ≤ 2 := by decide +kernel
  exact this ⟨m, by omega⟩ ⟨n, by omega⟩ h
theorem XOddEvenMerge_small (a b : Int) : smallR (XOddEvenMerge a b) := by
  unfold XOddEvenMerge
  split
  · rename_i h
    obtain ⟨m, n, rfl, rfl, h8⟩ := sizesB_of h
    have := mrgR_small m n h8
    simp only [Int.toNat_natCast]
    exact smallR_pairs (by have := this.1; omega) fun xs hx => by have := this.2 xs hx; omega
  · exact smallR_pairs (by simp) (by simp)
theorem OddEvenMerge_i_c (a b : Int) (w : World) : Calls Try.prog 31 #[.int .i64 a, .int .i64 b] w (NetC w (if sizesB a b = true then a + b else 0) (XOddEvenMerge a b) (sizesB a b)) := by
  by_cases h : sizesB a b = true
  · unfold XOddEvenMerge
    rw [if_pos h, if_pos h, h]
    obtain ⟨m, n, rfl, rfl, h8⟩ := sizesB_of h
    simp only [Int.toNat_natCast]
    exact OddEvenMerge_i_yes m n w h h8
  · replace h : sizesB a b = false := by simpa using h
    unfold XOddEvenMerge
    rw [if_neg (by simp [h]), if_neg (by simp [h]), h]
    exact OddEvenMerge_i_none a b w h
end Go.Proofs.Ytiodolbgapjmkaa
