/- The pairwise network: both functions on all arguments, and the law. Conditions: none. -/
import Derived.Test.YtgdkihabphihoaaPairwise
import Derived.Test.YtgdkihabphihoaaNet2
import Derived.Test.YtgdkihabphihoaaLPairwiseNetwork
namespace Go.Proofs.Ytgdkihabphihoaa
open Go.RowKit
set_option maxRecDepth 100000
set_option linter.unusedVariables false
set_option linter.unusedSimpArgs false

theorem PairwiseNetwork_i_none (a : Int) (w : World) (hb : powB a = false) : Calls Try.prog 31 #[.int .i64 a] w (NetC w 0 [] false) := by
  go_enter Try.func31, Try.ntmps31
  go_wp2_with ((go_at_call 122; refine (isPower_c _ _).mono ?_; rintro e w' ⟨rfl, rfl⟩))
  have h1 := blk_new w (.cells #[.int .i64 0, .slice none 0 0] 27)
  have c0 := blk_cell h1 0
  have c1 := blk_cell h1 1
  have hb : Below w.heap.size w (w.alloc (.cells #[.int .i64 0, .slice none 0 0] 27)) := (Below.refl _ _).alloc (Nat.le_refl _) _
  first
    | exact bodyPost_ret (v := .tuple #[.agg #[.int .i64 0, .slice none 0 0], .bool false]) (by simp [results, Try.results31, go_sem]) rfl ⟨_, [], rfl, OwnR.nil _ _ _, hb⟩
    | exact bodyPost_ret (v := .tuple #[.agg #[.int .i64 0, .slice none 0 0], .bool false]) (by simp [results, Try.results31, go_sem]) rfl ⟨_, [], rfl, OwnR.nil _ _ _, (hb.setCell (Nat.le_refl _) _).setCell (Nat.le_refl _) _⟩
set_option maxHeartbeats 1000000 in
theorem PairwiseNetwork_i_yes (n f : Nat) (w : World) (hb : powB (n : Int) = true) (hnf : n = 2 ^ f) (hf : f ≤ 3) : Calls Try.prog 31 #[.int .i64 n] w (NetC w (n : Int) (pw f (upI 0 n)) true) := by
  have h8 : n ≤ 8 := by rcases (by omega : f = 0 ∨ f = 1 ∨ f = 2 ∨ f = 3) with rfl | rfl | rfl | rfl <;> (subst hnf; decide)
  have WA : Hid (∀ w, Calls Try.prog 124 #[.int .i64 0, .int .i64 n] w (IntC w (upI 0 n))) := fun w => by have := wires_c 0 n w (by omega) (by omega) (by omega); simpa using this
  have HNF := Lib.hid hnf
  clear hnf
  go_enter Try.func31, Try.ntmps31
  go_wp2_with ((go_at_call 122; refine (isPower_c _ _).mono ?_; rintro e w' ⟨rfl, rfl⟩))
  refine (WA.out _).mono ?_
  rintro e w1 ⟨u1, rfl, o1, b1⟩
  have h1' := blk_below (blk_new w (.cells #[.int .i64 0, .slice none 0 0] 27)) b1 (by simp)
  have z1 : w.heap.size + 1 ≤ w1.heap.size := by have := b1.size; simpa using this
  have B1 : Hid (Below w.heap.size w w1) := ((Below.refl _ _).alloc (Nat.le_refl _) _).trans (b1.mono (by simp))
  have P1 : Hid (IntsV w1 0 w1.heap.size u1 (upI 0 n)) := (OwnI.ints o1).mono (Nat.zero_le _) (Nat.le_refl _)
  obtain ⟨x1, n1, y1, rfl⟩ := (OwnI.ints o1).shape
  have HB1 := Lib.hid h1'
  clear o1 b1 h1'
  go_wp2_with fail
  refine (pairwise_c f (upI 0 n) 0 w1.heap.size _ w1 (by rw [upI_length]; exact HNF.out) hf P1.out (Nat.le_refl _)).mono ?_
  rintro e w3 ⟨u, us, rfl, o3, b3⟩
  have h3 := blk_below HB1.out b3 (by omega)
  have c0 := blk_cell h3 0
  have c1 := blk_cell h3 1
  have f0 := blk_free h3 0
  have f1 := blk_free h3 1
  obtain ⟨ao, g, cap, e, -, -, -⟩ := o3.rows
  obtain ⟨R, hR⟩ : ∃ R, R = pw f (upI 0 n) := ⟨_, rfl⟩
  have HRR := Lib.hid hR
  rw [← hR] at e o3
  obtain ⟨L, hL⟩ : ∃ L, L = R.length := ⟨_, rfl⟩
  rw [← hL] at e
  subst e
  have HF : Hid (NetC w (n : Int) R true (.returned (.tuple #[.agg #[.int .i64 (n : Int), .slice ao L cap], .bool true])) ((w3.setCell ⟨w.heap.size, 0, none⟩ (.int .i64 (n : Int))).setCell ⟨w.heap.size, 1, none⟩ (.slice ao L cap))) := by
    refine ⟨_, us, rfl, ?_, ((B1.out.trans (b3.mono (by omega))).setCell (Nat.le_refl _) _).setCell (Nat.le_refl _) _⟩
    rw [show ((w3.setCell ⟨w.heap.size, 0, none⟩ (.int .i64 (n : Int))).setCell ⟨w.heap.size, 1, none⟩ (.slice ao L cap)).heap.size = w3.heap.size from by simp [World.setCell]]
    refine (o3.kept fun k k1 _ _ => ?_).mono (by omega) (Nat.le_refl _)
    rw [Below.heap_setCell _ _ _ _ (by show k ≠ w.heap.size; omega), Below.heap_setCell _ _ _ _ (by show k ≠ w.heap.size; omega)]
  clear o3 b3 hL h3 hR
  go_wp2
  exact bodyPost_ret (v := .tuple #[.agg #[.int .i64 (n : Int), .slice ao L cap], .bool true]) (by simp [results, Try.results31, go_sem, c0, c1]) rfl (by rw [← HRR.out]; exact HF.out)
theorem PairwiseNetwork_s_none (a : Int) (w : World) (hb : powB a = false) : Calls Try.prog 30 #[.int .i64 a] w (NetC w 0 [] false) := by
  go_enter Try.func30, Try.ntmps30
  go_wp2_with ((go_at_call 119; refine (l08Power_c _ _).mono ?_; rintro e w' ⟨rfl, rfl⟩))
  have h1 := blk_new w (.cells #[.int .i64 0, .slice none 0 0] 27)
  have c0 := blk_cell h1 0
  have c1 := blk_cell h1 1
  have hb : Below w.heap.size w (w.alloc (.cells #[.int .i64 0, .slice none 0 0] 27)) := (Below.refl _ _).alloc (Nat.le_refl _) _
  first
    | exact bodyPost_ret (v := .tuple #[.agg #[.int .i64 0, .slice none 0 0], .bool false]) (by simp [results, Try.results30, go_sem]) rfl ⟨_, [], rfl, OwnR.nil _ _ _, hb⟩
    | exact bodyPost_ret (v := .tuple #[.agg #[.int .i64 0, .slice none 0 0], .bool false]) (by simp [results, Try.results30, go_sem]) rfl ⟨_, [], rfl, OwnR.nil _ _ _, (hb.setCell (Nat.le_refl _) _).setCell (Nat.le_refl _) _⟩
set_option maxHeartbeats 1000000 in
theorem PairwiseNetwork_s_yes (n f : Nat) (w : World) (hb : powB (n : Int) = true) (hnf : n = 2 ^ f) (hf : f ≤ 3) : Calls Try.prog 30 #[.int .i64 n] w (NetC w (n : Int) (pw f (upI 0 n)) true) := by
  have h8 : n ≤ 8 := by rcases (by omega : f = 0 ∨ f = 1 ∨ f = 2 ∨ f = 3) with rfl | rfl | rfl | rfl <;> (subst hnf; decide)
  have WA : Hid (∀ w, Calls Try.prog 121 #[.int .i64 0, .int .i64 n] w (IntC w (upI 0 n))) := fun w => by have := l08Wires_c 0 n w (by omega) (by omega) (by omega); simpa using this
  have HNF := Lib.hid hnf
  clear hnf
  go_enter Try.func30, Try.ntmps30
  go_wp2_with ((go_at_call 119; refine (l08Power_c _ _).mono ?_; rintro e w' ⟨rfl, rfl⟩))
  refine (WA.out _).mono ?_
  rintro e w1 ⟨u1, rfl, o1, b1⟩
  have h1' := blk_below (blk_new w (.cells #[.int .i64 0, .slice none 0 0] 27)) b1 (by simp)
  have z1 : w.heap.size + 1 ≤ w1.heap.size := by have := b1.size; simpa using this
  have B1 : Hid (Below w.heap.size w w1) := ((Below.refl _ _).alloc (Nat.le_refl _) _).trans (b1.mono (by simp))
  have P1 : Hid (IntsV w1 0 w1.heap.size u1 (upI 0 n)) := (OwnI.ints o1).mono (Nat.zero_le _) (Nat.le_refl _)
  obtain ⟨x1, n1, y1, rfl⟩ := (OwnI.ints o1).shape
  have HB1 := Lib.hid h1'
  clear o1 b1 h1'
  go_wp2_with fail
  refine (l09Pairwise_c f (upI 0 n) 0 w1.heap.size _ w1 (by rw [upI_length]; exact HNF.out) hf P1.out (Nat.le_refl _)).mono ?_
  rintro e w3 ⟨u, us, rfl, o3, b3⟩
  have h3 := blk_below HB1.out b3 (by omega)
  have c0 := blk_cell h3 0
  have c1 := blk_cell h3 1
  have f0 := blk_free h3 0
  have f1 := blk_free h3 1
  obtain ⟨ao, g, cap, e, -, -, -⟩ := o3.rows
  obtain ⟨R, hR⟩ : ∃ R, R = pw f (upI 0 n) := ⟨_, rfl⟩
  have HRR := Lib.hid hR
  rw [← hR] at e o3
  obtain ⟨L, hL⟩ : ∃ L, L = R.length := ⟨_, rfl⟩
  rw [← hL] at e
  subst e
  have HF : Hid (NetC w (n : Int) R true (.returned (.tuple #[.agg #[.int .i64 (n : Int), .slice ao L cap], .bool true])) ((w3.setCell ⟨w.heap.size, 0, none⟩ (.int .i64 (n : Int))).setCell ⟨w.heap.size, 1, none⟩ (.slice ao L cap))) := by
    refine ⟨_, us, rfl, ?_, ((B1.out.trans (b3.mono (by omega))).setCell (Nat.le_refl _) _).setCell (Nat.le_refl _) _⟩
    rw [show ((w3.setCell ⟨w.heap.size, 0, none⟩ (.int .i64 (n : Int))).setCell ⟨w.heap.size, 1, none⟩ (.slice ao L cap)).heap.size = w3.heap.size from by simp [World.setCell]]
    refine (o3.kept fun k k1 _ _ => ?_).mono (by omega) (Nat.le_refl _)
    rw [Below.heap_setCell _ _ _ _ (by show k ≠ w.heap.size; omega), Below.heap_setCell _ _ _ _ (by show k ≠ w.heap.size; omega)]
  clear o3 b3 hL h3 hR
  go_wp2
  exact bodyPost_ret (v := .tuple #[.agg #[.int .i64 (n : Int), .slice ao L cap], .bool true]) (by simp [results, Try.results30, go_sem, c0, c1]) rfl (by rw [← HRR.out]; exact HF.out)
/-- The exponent of a power of two. -/
def expN (a : Int) : Nat := if a = 1 then 0 else if a = 2 then 1 else if a = 4 then 2 else 3
def XPairwise (a : Int) : List (List Int) := if powB a = true then pw (expN a) (upI 0 a.toNat) else []
theorem powB_cases {a : Int} (h : powB a = true) : ∃ f : Nat, f ≤ 3 ∧ a = ((2 ^ f : Nat) : Int) ∧ expN a = f := by
  unfold powB at h
  simp only [Bool.or_eq_true, beq_iff_eq] at h
  rcases h with ((rfl | rfl) | rfl) | rfl
  · exact ⟨0, by omega, rfl, rfl⟩
  · exact ⟨1, by omega, rfl, rfl⟩
  · exact ⟨2, by omega, rfl, rfl⟩
  · exact ⟨3, by omega, rfl, rfl⟩
theorem XPairwise_small (a : Int) : smallR (XPairwise a) := by
  have : ∀ f : Fin 4, (pw f.1 (upI 0 (2 ^ f.1))).length ≤ 100 ∧ ∀ xs ∈ (pw f.1 (upI 0 (2 ^ f.1))), xs.length ≤ 2 := by decide +kernel
  unfold XPairwise
  split
  · rename_i h
    obtain ⟨f, hf, rfl, he⟩ := powB_cases h
    rw [he]
    have h2 := this ⟨f, by omega⟩
    rw [Int.toNat_natCast]
    exact smallR_pairs (by have := h2.1; simp only at this; omega) fun xs hx => by have := h2.2 xs hx; omega
  · exact smallR_pairs (by simp) (by simp)
theorem PairwiseNetwork_i_c (a : Int) (w : World) : Calls Try.prog 31 #[.int .i64 a] w (NetC w (if powB a = true then a else 0) (XPairwise a) (powB a)) := by
  by_cases h : powB a = true
  · unfold XPairwise
    rw [if_pos h, if_pos h, h]
    obtain ⟨f, hf, rfl, he⟩ := powB_cases h
    rw [he, Int.toNat_natCast]
    exact PairwiseNetwork_i_yes (2 ^ f) f w h rfl hf
  · replace h : powB a = false := by simpa using h
    unfold XPairwise
    rw [if_neg (by simp [h]), if_neg (by simp [h]), h]
    exact PairwiseNetwork_i_none a w h
theorem PairwiseNetwork_s_c (a : Int) (w : World) : Calls Try.prog 30 #[.int .i64 a] w (NetC w (if powB a = true then a else 0) (XPairwise a) (powB a)) := by
  by_cases h : powB a = true
  · unfold XPairwise
    rw [if_pos h, if_pos h, h]
    obtain ⟨f, hf, rfl, he⟩ := powB_cases h
    rw [he, Int.toNat_natCast]
    exact PairwiseNetwork_s_yes (2 ^ f) f w h rfl hf
  · replace h : powB a = false := by simpa using h
    unfold XPairwise
    rw [if_neg (by simp [h]), if_neg (by simp [h]), h]
    exact PairwiseNetwork_s_none a w h
theorem fnExactPairwiseNetwork_walk (a0 : Int) (_w0 : (Lit.int .i64 a0).wf = true) (w : World) :
    Calls Try.prog 6 #[.int .i64 a0] w fun e w' => e = .returned (.bool true) ∧ Below w.heap.size w w' :=
  FnExactPairwiseNetwork_core a0 w _ _ _ (XPairwise_small a0) (PairwiseNetwork_s_c a0) (PairwiseNetwork_i_c a0)
end Go.Proofs.Ytgdkihabphihoaa
