/- The law 'FnExactSelectNetwork': the program's function and the reference's hand back the same network, whatever the arguments, and the law returns true. Conditions: none. -/
import Derived.Test.YtgdkihabphihoaaNSelect
namespace Go.Proofs.Ytgdkihabphihoaa
open Go.RowKit
set_option maxRecDepth 100000
theorem SelectNetwork_i_none (a b : Int) (w : World) (hb : inB a 1 8 = false) : Calls Try.prog 37 #[.int .i64 a, .int .i64 b] w (NetC w 0 [] false) := by
  go_enter Try.func37, Try.ntmps37
  go_wp2_with ((go_at_call 131; refine (isWires_c _ _).mono ?_; rintro e w' ⟨rfl, rfl⟩))
  have h1 := blk_new w (.cells #[.int .i64 0, .slice none 0 0] 27)
  have c0 := blk_cell h1 0
  have c1 := blk_cell h1 1
  have hb : Below w.heap.size w (w.alloc (.cells #[.int .i64 0, .slice none 0 0] 27)) := (Below.refl _ _).alloc (Nat.le_refl _) _
  first
    | exact bodyPost_ret (v := .tuple #[.agg #[.int .i64 0, .slice none 0 0], .bool false]) (by simp [results, Try.results37, go_sem]) rfl ⟨_, [], rfl, OwnR.nil _ _ _, hb⟩
    | exact bodyPost_ret (v := .tuple #[.agg #[.int .i64 0, .slice none 0 0], .bool false]) (by simp [results, Try.results37, go_sem]) rfl ⟨_, [], rfl, OwnR.nil _ _ _, (hb.setCell (Nat.le_refl _) _).setCell (Nat.le_refl _) _⟩
theorem SelectNetwork_i0_none (a b : Int) (w : World) (hb : inB a 1 8 = true) (h3 : b < 0) : Calls Try.prog 37 #[.int .i64 a, .int .i64 b] w (NetC w 0 [] false) := by
  go_enter Try.func37, Try.ntmps37
  go_wp2_with ((go_at_call 131; refine (isWires_c _ _).mono ?_; rintro e w' ⟨rfl, rfl⟩))
  have h1 := blk_new w (.cells #[.int .i64 0, .slice none 0 0] 27)
  have c0 := blk_cell h1 0
  have c1 := blk_cell h1 1
  have hb : Below w.heap.size w (w.alloc (.cells #[.int .i64 0, .slice none 0 0] 27)) := (Below.refl _ _).alloc (Nat.le_refl _) _
  first
    | exact bodyPost_ret (v := .tuple #[.agg #[.int .i64 0, .slice none 0 0], .bool false]) (by simp [results, Try.results37, go_sem]) rfl ⟨_, [], rfl, OwnR.nil _ _ _, hb⟩
    | exact bodyPost_ret (v := .tuple #[.agg #[.int .i64 0, .slice none 0 0], .bool false]) (by simp [results, Try.results37, go_sem]) rfl ⟨_, [], rfl, OwnR.nil _ _ _, (hb.setCell (Nat.le_refl _) _).setCell (Nat.le_refl _) _⟩
theorem SelectNetwork_i1_none (a b : Int) (w : World) (hb : inB a 1 8 = true) (h3 : 0 ≤ b) (h4 : a < b) : Calls Try.prog 37 #[.int .i64 a, .int .i64 b] w (NetC w 0 [] false) := by
  go_enter Try.func37, Try.ntmps37
  go_wp2_with ((go_at_call 131; refine (isWires_c _ _).mono ?_; rintro e w' ⟨rfl, rfl⟩))
  have h1 := blk_new w (.cells #[.int .i64 0, .slice none 0 0] 27)
  have c0 := blk_cell h1 0
  have c1 := blk_cell h1 1
  have hb : Below w.heap.size w (w.alloc (.cells #[.int .i64 0, .slice none 0 0] 27)) := (Below.refl _ _).alloc (Nat.le_refl _) _
  first
    | exact bodyPost_ret (v := .tuple #[.agg #[.int .i64 0, .slice none 0 0], .bool false]) (by simp [results, Try.results37, go_sem]) rfl ⟨_, [], rfl, OwnR.nil _ _ _, hb⟩
    | exact bodyPost_ret (v := .tuple #[.agg #[.int .i64 0, .slice none 0 0], .bool false]) (by simp [results, Try.results37, go_sem]) rfl ⟨_, [], rfl, OwnR.nil _ _ _, (hb.setCell (Nat.le_refl _) _).setCell (Nat.le_refl _) _⟩
def VSelectNetwork (a b : Int) : Bool := inB a 1 8 && inB b 0 a
def XSelectNetwork (a b : Int) : List (List Int) := if VSelectNetwork a b = true then net2 (fun s => a.toNat - 1 - s) (fun (s k : Nat) => [(s : Int), (s : Int) + 1 + k]) (b.toNat) else []
theorem VSelectNetwork_of {a b : Int} (h : VSelectNetwork a b = true) : (1 ≤ a ∧ a ≤ 8) ∧ (0 ≤ b ∧ b ≤ a) := by simpa [VSelectNetwork, inB] using h
theorem XSelectNetwork_small (a b : Int) : smallR (XSelectNetwork a b) := by
  unfold XSelectNetwork
  split
  · rename_i h
    have hb := VSelectNetwork_of h
    exact net2_pairs _ _ _ (by omega) (by intro s hs; show ( a.toNat - 1 - s) ≤ 8; omega) (fun _ _ => rfl)
  · exact smallR_pairs (by simp) (by simp)
theorem SelectNetwork_i_c (a b : Int) (w : World) : Calls Try.prog 37 #[.int .i64 a, .int .i64 b] w (NetC w (if VSelectNetwork a b = true then a else 0) (XSelectNetwork a b) (VSelectNetwork a b)) := by
  by_cases h : VSelectNetwork a b = true
  · have hb := VSelectNetwork_of h
    obtain ⟨n, rfl⟩ := Int.eq_ofNat_of_zero_le (by omega : 0 ≤ a)
    obtain ⟨m, rfl⟩ := Int.eq_ofNat_of_zero_le (by omega : 0 ≤ b)
    unfold XSelectNetwork
    rw [if_pos h, if_pos h, h]
    exact SelectNetwork_i n m w (by omega) (by omega) (inB_mk hb.1) (by omega) (inB_mk (by omega))
  · replace h : VSelectNetwork a b = false := by simpa using h
    unfold XSelectNetwork
    rw [if_neg (by simp [h]), if_neg (by simp [h]), h]
    by_cases h1 : inB a 1 8 = true
    · have hb := inB_of h1
      have h2 : inB b 0 a = false := by simpa [VSelectNetwork, h1] using h
      have h3 : b < 0 ∨ a < b := by simp [inB] at h2; omega
      rcases h3 with h3 | h3
      · exact SelectNetwork_i0_none a b w h1 h3
      · exact SelectNetwork_i1_none a b w h1 (by omega) h3
    · replace h1 : inB a 1 8 = false := by simpa using h1
      exact SelectNetwork_i_none a b w h1
end Go.Proofs.Ytgdkihabphihoaa
