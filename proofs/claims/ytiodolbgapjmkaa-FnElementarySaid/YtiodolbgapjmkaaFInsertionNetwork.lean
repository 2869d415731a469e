/- The law 'FnExactInsertionNetwork': the program's function and the reference's hand back the same network, whatever the arguments, and the law returns true. Conditions: none. -/
import Derived.Test.YtiodolbgapjmkaaNInsertion
namespace Go.Proofs.Ytiodolbgapjmkaa
open Go.RowKit
set_option maxRecDepth 100000
theorem InsertionNetwork_i_none (a : Int) (w : World) (hb : inB a 1 8 = false) : Calls Try.prog 58 #[.int .i64 a] w (NetC w 0 [] false) := by
  go_enter Try.func58, Try.ntmps58
  go_wp2_with ((go_at_call 105; refine (isWires_c _ _).mono ?_; rintro e w' ⟨rfl, rfl⟩))
  have h1 := blk_new w (.cells #[.int .i64 0, .slice none 0 0] 30)
  have c0 := blk_cell h1 0
  have c1 := blk_cell h1 1
  have hb : Below w.heap.size w (w.alloc (.cells #[.int .i64 0, .slice none 0 0] 30)) := (Below.refl _ _).alloc (Nat.le_refl _) _
  first
    | exact bodyPost_ret (v := .tuple #[.agg #[.int .i64 0, .slice none 0 0], .bool false]) (by simp [results, Try.results58, go_sem]) rfl ⟨_, [], rfl, OwnR.nil _ _ _, hb⟩
    | exact bodyPost_ret (v := .tuple #[.agg #[.int .i64 0, .slice none 0 0], .bool false]) (by simp [results, Try.results58, go_sem]) rfl ⟨_, [], rfl, OwnR.nil _ _ _, (hb.setCell (Nat.le_refl _) _).setCell (Nat.le_refl _) _⟩
theorem InsertionNetwork_s_none (a : Int) (w : World) (hb : inB a 1 8 = false) : Calls Try.prog 93 #[.int .i64 a] w (NetC w 0 [] false) := by
  go_enter Try.func93, Try.ntmps93
  go_wp2_with (first | (go_at_call 175; refine (l07N_c _ _).mono ?_; rintro e w' ⟨rfl, rfl⟩) | (go_at_call 151; refine (l01In_c _ _ _ _).mono ?_; rintro e w' ⟨rfl, rfl⟩))
  have h1 := blk_new w (.cells #[.int .i64 0, .slice none 0 0] 30)
  have c0 := blk_cell h1 0
  have c1 := blk_cell h1 1
  have hb : Below w.heap.size w (w.alloc (.cells #[.int .i64 0, .slice none 0 0] 30)) := (Below.refl _ _).alloc (Nat.le_refl _) _
  first
    | exact bodyPost_ret (v := .tuple #[.agg #[.int .i64 0, .slice none 0 0], .bool false]) (by simp [results, Try.results93, go_sem]) rfl ⟨_, [], rfl, OwnR.nil _ _ _, hb⟩
    | exact bodyPost_ret (v := .tuple #[.agg #[.int .i64 0, .slice none 0 0], .bool false]) (by simp [results, Try.results93, go_sem]) rfl ⟨_, [], rfl, OwnR.nil _ _ _, (hb.setCell (Nat.le_refl _) _).setCell (Nat.le_refl _) _⟩

def XInsertionNetwork (a : Int) : List (List Int) := if inB a 1 8 = true then net2 (fun s => s + 1) (fun (s k : Nat) => [(s : Int) - k, (s : Int) - k + 1]) (a.toNat - 1) else []
theorem XInsertionNetwork_small (a : Int) : smallR (XInsertionNetwork a) := by
  unfold XInsertionNetwork
  split
  · rename_i h
    have hb := inB_of h
    exact net2_pairs _ _ _ (by omega) (by intro s hs; show ( s + 1) ≤ 8; omega) (fun _ _ => rfl)
  · exact smallR_pairs (by simp) (by simp)
theorem InsertionNetwork_i_c (a : Int) (w : World) : Calls Try.prog 58 #[.int .i64 a] w (NetC w (if inB a 1 8 = true then a else 0) (XInsertionNetwork a) (inB a 1 8)) := by
  by_cases h : inB a 1 8 = true
  · have hb := inB_of h
    obtain ⟨n, rfl⟩ := Int.eq_ofNat_of_zero_le (by omega : 0 ≤ a)
    unfold XInsertionNetwork
    rw [if_pos h, if_pos h, h]
    exact InsertionNetwork_i n w (by omega) (by omega) h
  · replace h : inB a 1 8 = false := by simpa using h
    unfold XInsertionNetwork
    rw [if_neg (by simp [h]), if_neg (by simp [h]), h]
    exact InsertionNetwork_i_none a w h
theorem InsertionNetwork_s_c (a : Int) (w : World) : Calls Try.prog 93 #[.int .i64 a] w (NetC w (if inB a 1 8 = true then a else 0) (XInsertionNetwork a) (inB a 1 8)) := by
  by_cases h : inB a 1 8 = true
  · have hb := inB_of h
    obtain ⟨n, rfl⟩ := Int.eq_ofNat_of_zero_le (by omega : 0 ≤ a)
    unfold XInsertionNetwork
    rw [if_pos h, if_pos h, h]
    exact InsertionNetwork_s n w (by omega) (by omega) h
  · replace h : inB a 1 8 = false := by simpa using h
    unfold XInsertionNetwork
    rw [if_neg (by simp [h]), if_neg (by simp [h]), h]
    exact InsertionNetwork_s_none a w h
end Go.Proofs.Ytiodolbgapjmkaa
