/- The law 'FnExactBubbleNetwork': the program's function and the reference's hand back the same network, whatever the arguments, and the law returns true. Conditions: none. -/
import Derived.Test.YtkgbmainabgamaaNBubble
import Derived.Test.YtkgbmainabgamaaLBubbleNetwork
namespace Go.Proofs.Ytkgbmainabgamaa
open Go.RowKit
set_option maxRecDepth 100000
theorem BubbleNetwork_i_none (a : Int) (w : World) (hb : inB a 1 8 = false) : Calls Try.prog 16 #[.int .i64 a] w (NetC w 0 [] false) := by
  go_enter Try.func16, Try.ntmps16
  go_wp2_with ((go_at_call 43; refine (isWires_c _ _).mono ?_; rintro e w' ⟨rfl, rfl⟩))
  have h1 := blk_new w (.cells #[.int .i64 0, .slice none 0 0] 24)
  have c0 := blk_cell h1 0
  have c1 := blk_cell h1 1
  have hb : Below w.heap.size w (w.alloc (.cells #[.int .i64 0, .slice none 0 0] 24)) := (Below.refl _ _).alloc (Nat.le_refl _) _
  first
    | exact bodyPost_ret (v := .tuple #[.agg #[.int .i64 0, .slice none 0 0], .bool false]) (by simp [results, Try.results16, go_sem]) rfl ⟨_, [], rfl, OwnR.nil _ _ _, hb⟩
    | exact bodyPost_ret (v := .tuple #[.agg #[.int .i64 0, .slice none 0 0], .bool false]) (by simp [results, Try.results16, go_sem]) rfl ⟨_, [], rfl, OwnR.nil _ _ _, (hb.setCell (Nat.le_refl _) _).setCell (Nat.le_refl _) _⟩
theorem BubbleNetwork_s_none (a : Int) (w : World) (hb : inB a 1 8 = false) : Calls Try.prog 15 #[.int .i64 a] w (NetC w 0 [] false) := by
  go_enter Try.func15, Try.ntmps15
  go_wp2_with (first | (go_at_call 42; refine (l07N_c _ _).mono ?_; rintro e w' ⟨rfl, rfl⟩) | (go_at_call 47; refine (l01In_c _ _ _ _).mono ?_; rintro e w' ⟨rfl, rfl⟩))
  have h1 := blk_new w (.cells #[.int .i64 0, .slice none 0 0] 24)
  have c0 := blk_cell h1 0
  have c1 := blk_cell h1 1
  have hb : Below w.heap.size w (w.alloc (.cells #[.int .i64 0, .slice none 0 0] 24)) := (Below.refl _ _).alloc (Nat.le_refl _) _
  first
    | exact bodyPost_ret (v := .tuple #[.agg #[.int .i64 0, .slice none 0 0], .bool false]) (by simp [results, Try.results15, go_sem]) rfl ⟨_, [], rfl, OwnR.nil _ _ _, hb⟩
    | exact bodyPost_ret (v := .tuple #[.agg #[.int .i64 0, .slice none 0 0], .bool false]) (by simp [results, Try.results15, go_sem]) rfl ⟨_, [], rfl, OwnR.nil _ _ _, (hb.setCell (Nat.le_refl _) _).setCell (Nat.le_refl _) _⟩

def XBubbleNetwork (a : Int) : List (List Int) := if inB a 1 8 = true then net2 (fun s => a.toNat - 1 - s) (fun (_ k : Nat) => [(k : Int), (k : Int) + 1]) (a.toNat - 1) else []
theorem XBubbleNetwork_small (a : Int) : smallR (XBubbleNetwork a) := by
  unfold XBubbleNetwork
  split
  · rename_i h
    have hb := inB_of h
    exact net2_pairs _ _ _ (by omega) (by intro s hs; show ( a.toNat - 1 - s) ≤ 8; omega) (fun _ _ => rfl)
  · exact smallR_pairs (by simp) (by simp)
theorem BubbleNetwork_i_c (a : Int) (w : World) : Calls Try.prog 16 #[.int .i64 a] w (NetC w (if inB a 1 8 = true then a else 0) (XBubbleNetwork a) (inB a 1 8)) := by
  by_cases h : inB a 1 8 = true
  · have hb := inB_of h
    obtain ⟨n, rfl⟩ := Int.eq_ofNat_of_zero_le (by omega : 0 ≤ a)
    unfold XBubbleNetwork
    rw [if_pos h, if_pos h, h]
    exact BubbleNetwork_i n w (by omega) (by omega) h
  · replace h : inB a 1 8 = false := by simpa using h
    unfold XBubbleNetwork
    rw [if_neg (by simp [h]), if_neg (by simp [h]), h]
    exact BubbleNetwork_i_none a w h
theorem BubbleNetwork_s_c (a : Int) (w : World) : Calls Try.prog 15 #[.int .i64 a] w (NetC w (if inB a 1 8 = true then a else 0) (XBubbleNetwork a) (inB a 1 8)) := by
  by_cases h : inB a 1 8 = true
  · have hb := inB_of h
    obtain ⟨n, rfl⟩ := Int.eq_ofNat_of_zero_le (by omega : 0 ≤ a)
    unfold XBubbleNetwork
    rw [if_pos h, if_pos h, h]
    exact BubbleNetwork_s n w (by omega) (by omega) h
  · replace h : inB a 1 8 = false := by simpa using h
    unfold XBubbleNetwork
    rw [if_neg (by simp [h]), if_neg (by simp [h]), h]
    exact BubbleNetwork_s_none a w h
theorem fnExactBubbleNetwork_walk (a0 : Int) (_w0 : (Lit.int .i64 a0).wf = true) (w : World) :
    Calls Try.prog 3 #[.int .i64 a0] w fun e w' => e = .returned (.bool true) ∧ Below w.heap.size w w' :=
  FnExactBubbleNetwork_core a0 w _ _ _ (XBubbleNetwork_small a0) (BubbleNetwork_s_c a0) (BubbleNetwork_i_c a0)
end Go.Proofs.Ytkgbmainabgamaa
