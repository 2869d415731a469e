/- Bitonic mergers and sorters of 1, 2, 4 or 8 wires, the program's functions and the reference's. Conditions: none. -/
import Derived.Test.YtiodolbgapjmkaaBit
import Derived.Test.YtiodolbgapjmkaaSmall
import Derived.Test.YtiodolbgapjmkaaNetC
namespace Go.Proofs.Ytiodolbgapjmkaa
open Go.RowKit
set_option maxRecDepth 100000
/-- The power of two that a number of wires is. -/
def dOf (a : Int) : Nat := if a = 1 then 0 else if a = 2 then 1 else if a = 4 then 2 else 3
theorem powB_of {a : Int} (h : powB a = true) : ∃ d, d ≤ 3 ∧ dOf a = d ∧ a = ((2 ^ d : Nat) : Int) := by
  have h' : a = 1 ∨ a = 2 ∨ a = 4 ∨ a = 8 := by simpa [powB, or_assoc] using h
  rcases h' with rfl | rfl | rfl | rfl
  · exact ⟨0, by omega, rfl, rfl⟩
  · exact ⟨1, by omega, rfl, rfl⟩
  · exact ⟨2, by omega, rfl, rfl⟩
  · exact ⟨3, by omega, rfl, rfl⟩
theorem BitonicMerge_i_none (a : Int) (w : World) (hb : powB a = false) : Calls Try.prog 41 #[.int .i64 a] w (NetC w 0 [] false) := by
  go_enter Try.func41, Try.ntmps41
  go_wp2_with ((go_at_call 118; refine (isPower_c _ _).mono ?_; rintro e w' ⟨rfl, rfl⟩))
  have h1 := blk_new w (.cells #[.int .i64 0, .slice none 0 0] 30)
  have c0 := blk_cell h1 0
  have c1 := blk_cell h1 1
  have hb : Below w.heap.size w (w.alloc (.cells #[.int .i64 0, .slice none 0 0] 30)) := (Below.refl _ _).alloc (Nat.le_refl _) _
  first
    | exact bodyPost_ret (v := .tuple #[.agg #[.int .i64 0, .slice none 0 0], .bool false]) (by simp [results, Try.results41, go_sem]) rfl ⟨_, [], rfl, OwnR.nil _ _ _, hb⟩
    | exact bodyPost_ret (v := .tuple #[.agg #[.int .i64 0, .slice none 0 0], .bool false]) (by simp [results, Try.results41, go_sem]) rfl ⟨_, [], rfl, OwnR.nil _ _ _, (hb.setCell (Nat.le_refl _) _).setCell (Nat.le_refl _) _⟩
theorem BitonicMerge_i_yes (a : Int) (w : World) (hb : powB a = true) (xss : List (List Int)) (rc : ∀ w, Calls Try.prog 119 #[.int .i64 0, .int .i64 a] w (RowC w xss)) : Calls Try.prog 41 #[.int .i64 a] w (NetC w (a) xss true) := by
  have RC := Lib.hid rc
  clear rc
  go_enter Try.func41, Try.ntmps41
  go_wp2_with ((go_at_call 118; refine (isPower_c _ _).mono ?_; rintro e w' ⟨rfl, rfl⟩))
  refine (RC.out _).mono ?_
  rintro e w1 ⟨u, us, rfl, o1, b1⟩
  have h1 := blk_below (blk_new w (.cells #[.int .i64 0, .slice none 0 0] 30)) b1 (by simp)
  have c0 := blk_cell h1 0
  have c1 := blk_cell h1 1
  have f0 := blk_free h1 0
  have f1 := blk_free h1 1
  obtain ⟨ao, g, cap, e, -, -, -⟩ := o1.rows
  obtain ⟨L, hL⟩ : ∃ L, L = xss.length := ⟨_, rfl⟩
  rw [← hL] at e
  subst e
  have HF : Hid (NetC w (a) xss true (.returned (.tuple #[.agg #[.int .i64 (a), .slice ao L cap], .bool true])) ((w1.setCell ⟨w.heap.size, 0, none⟩ (.int .i64 (a))).setCell ⟨w.heap.size, 1, none⟩ (.slice ao L cap))) := by
    refine ⟨_, us, rfl, ?_, ((((Below.refl _ _).alloc (Nat.le_refl _) _).trans (b1.mono (by simp))).setCell (Nat.le_refl _) _).setCell (Nat.le_refl _) _⟩
    rw [show ((w1.setCell ⟨w.heap.size, 0, none⟩ (.int .i64 (a))).setCell ⟨w.heap.size, 1, none⟩ (.slice ao L cap)).heap.size = w1.heap.size from by simp [World.setCell]]
    refine (o1.kept fun k k1 _ _ => ?_).mono (by simp) (Nat.le_refl _)
    have k1' : w.heap.size + 1 ≤ k := by simpa using k1
    rw [Below.heap_setCell _ _ _ _ (by show k ≠ w.heap.size; omega), Below.heap_setCell _ _ _ _ (by show k ≠ w.heap.size; omega)]
  clear o1 b1 hL h1
  go_wp2
  exact bodyPost_ret (v := .tuple #[.agg #[.int .i64 (a), .slice ao L cap], .bool true]) (by simp [results, Try.results41, go_sem, c0, c1]) rfl HF.out
def XBitonicMerge (a : Int) : List (List Int) := if powB a = true then bitM (dOf a) 0 else []
theorem XBitonicMerge_small (a : Int) : smallR (XBitonicMerge a) := by
  unfold XBitonicMerge
  split
  · rename_i h
    obtain ⟨d, hd, e, e2⟩ := powB_of h
    rw [e]
    have : d = 0 ∨ d = 1 ∨ d = 2 ∨ d = 3 := by omega
    rcases this with rfl | rfl | rfl | rfl <;> exact smallR_pairs (by decide +kernel) (by decide +kernel)
  · exact smallR_pairs (by simp) (by simp)
theorem BitonicMerge_i_c (a : Int) (w : World) : Calls Try.prog 41 #[.int .i64 a] w (NetC w (if powB a = true then a else 0) (XBitonicMerge a) (powB a)) := by
  by_cases h : powB a = true
  · unfold XBitonicMerge
    rw [if_pos h, if_pos h, h]
    refine BitonicMerge_i_yes a w h _ fun w => ?_
    obtain ⟨d, hd, e, e2⟩ := powB_of h
    rw [e, e2]
    exact bitonicMerge_i d 0 w hd (by omega) (by
      have : 2 ^ d ≤ 2 ^ 3 := Nat.pow_le_pow_right (by omega) hd
      omega)
  · replace h : powB a = false := by simpa using h
    unfold XBitonicMerge
    rw [if_neg (by simp [h]), if_neg (by simp [h]), h]
    exact BitonicMerge_i_none a w h
theorem BitonicNetwork_i_none (a : Int) (w : World) (hb : powB a = false) : Calls Try.prog 51 #[.int .i64 a] w (NetC w 0 [] false) := by
  go_enter Try.func51, Try.ntmps51
  go_wp2_with ((go_at_call 118; refine (isPower_c _ _).mono ?_; rintro e w' ⟨rfl, rfl⟩))
  have h1 := blk_new w (.cells #[.int .i64 0, .slice none 0 0] 30)
  have c0 := blk_cell h1 0
  have c1 := blk_cell h1 1
  have hb : Below w.heap.size w (w.alloc (.cells #[.int .i64 0, .slice none 0 0] 30)) := (Below.refl _ _).alloc (Nat.le_refl _) _
  first
    | exact bodyPost_ret (v := .tuple #[.agg #[.int .i64 0, .slice none 0 0], .bool false]) (by simp [results, Try.results51, go_sem]) rfl ⟨_, [], rfl, OwnR.nil _ _ _, hb⟩
    | exact bodyPost_ret (v := .tuple #[.agg #[.int .i64 0, .slice none 0 0], .bool false]) (by simp [results, Try.results51, go_sem]) rfl ⟨_, [], rfl, OwnR.nil _ _ _, (hb.setCell (Nat.le_refl _) _).setCell (Nat.le_refl _) _⟩
theorem BitonicNetwork_i_yes (a : Int) (w : World) (hb : powB a = true) (xss : List (List Int)) (rc : ∀ w, Calls Try.prog 124 #[.int .i64 0, .int .i64 a] w (RowC w xss)) : Calls Try.prog 51 #[.int .i64 a] w (NetC w (a) xss true) := by
  have RC := Lib.hid rc
  clear rc
  go_enter Try.func51, Try.ntmps51
  go_wp2_with ((go_at_call 118; refine (isPower_c _ _).mono ?_; rintro e w' ⟨rfl, rfl⟩))
  refine (RC.out _).mono ?_
  rintro e w1 ⟨u, us, rfl, o1, b1⟩
  have h1 := blk_below (blk_new w (.cells #[.int .i64 0, .slice none 0 0] 30)) b1 (by simp)
  have c0 := blk_cell h1 0
  have c1 := blk_cell h1 1
  have f0 := blk_free h1 0
  have f1 := blk_free h1 1
  obtain ⟨ao, g, cap, e, -, -, -⟩ := o1.rows
  obtain ⟨L, hL⟩ : ∃ L, L = xss.length := ⟨_, rfl⟩
  rw [← hL] at e
  subst e
  have HF : Hid (NetC w (a) xss true (.returned (.tuple #[.agg #[.int .i64 (a), .slice ao L cap], .bool true])) ((w1.setCell ⟨w.heap.size, 0, none⟩ (.int .i64 (a))).setCell ⟨w.heap.size, 1, none⟩ (.slice ao L cap))) := by
    refine ⟨_, us, rfl, ?_, ((((Below.refl _ _).alloc (Nat.le_refl _) _).trans (b1.mono (by simp))).setCell (Nat.le_refl _) _).setCell (Nat.le_refl _) _⟩
    rw [show ((w1.setCell ⟨w.heap.size, 0, none⟩ (.int .i64 (a))).setCell ⟨w.heap.size, 1, none⟩ (.slice ao L cap)).heap.size = w1.heap.size from by simp [World.setCell]]
    refine (o1.kept fun k k1 _ _ => ?_).mono (by simp) (Nat.le_refl _)
    have k1' : w.heap.size + 1 ≤ k := by simpa using k1
    rw [Below.heap_setCell _ _ _ _ (by show k ≠ w.heap.size; omega), Below.heap_setCell _ _ _ _ (by show k ≠ w.heap.size; omega)]
  clear o1 b1 hL h1
  go_wp2
  exact bodyPost_ret (v := .tuple #[.agg #[.int .i64 (a), .slice ao L cap], .bool true]) (by simp [results, Try.results51, go_sem, c0, c1]) rfl HF.out
def XBitonicNetwork (a : Int) : List (List Int) := if powB a = true then bitS (dOf a) 0 else []
theorem XBitonicNetwork_small (a : Int) : smallR (XBitonicNetwork a) := by
  unfold XBitonicNetwork
  split
  · rename_i h
    obtain ⟨d, hd, e, e2⟩ := powB_of h
    rw [e]
    have : d = 0 ∨ d = 1 ∨ d = 2 ∨ d = 3 := by omega
    rcases this with rfl | rfl | rfl | rfl <;> exact smallR_pairs (by decide +kernel) (by decide +kernel)
  · exact smallR_pairs (by simp) (by simp)
theorem BitonicNetwork_i_c (a : Int) (w : World) : Calls Try.prog 51 #[.int .i64 a] w (NetC w (if powB a = true then a else 0) (XBitonicNetwork a) (powB a)) := by
  by_cases h : powB a = true
  · unfold XBitonicNetwork
    rw [if_pos h, if_pos h, h]
    refine BitonicNetwork_i_yes a w h _ fun w => ?_
    obtain ⟨d, hd, e, e2⟩ := powB_of h
    rw [e, e2]
    exact bitonic_i d 0 w hd (by omega) (by
      have : 2 ^ d ≤ 2 ^ 3 := Nat.pow_le_pow_right (by omega) hd
      omega)
  · replace h : powB a = false := by simpa using h
    unfold XBitonicNetwork
    rw [if_neg (by simp [h]), if_neg (by simp [h]), h]
    exact BitonicNetwork_i_none a w h
end Go.Proofs.Ytiodolbgapjmkaa
