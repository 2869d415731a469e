/- The law 'FnExactBrickNetwork': the program's function and the reference's hand back the same network, whatever the arguments, and the law returns true. Conditions: none. -/
import Derived.Test.YtkgbmainabgamaaNBrick
import Derived.Test.YtkgbmainabgamaaLBrickNetwork
import Derived.Test.YtkgbmainabgamaaNBrickS
namespace Go.Proofs.Ytkgbmainabgamaa
open Go.RowKit
set_option maxRecDepth 100000
theorem BrickNetwork_i_none (a b : Int) (w : World) (hb : inB a 1 8 = false) : Calls Try.prog 27 #[.int .i64 a, .int .i64 b] w (NetC w 0 [] false) := by
  go_enter Try.func27, Try.ntmps27
  go_wp2_with ((go_at_call 43; refine (isWires_c _ _).mono ?_; rintro e w' ⟨rfl, rfl⟩))
  have h1 := blk_new w (.cells #[.int .i64 0, .slice none 0 0] 24)
  have c0 := blk_cell h1 0
  have c1 := blk_cell h1 1
  have hb : Below w.heap.size w (w.alloc (.cells #[.int .i64 0, .slice none 0 0] 24)) := (Below.refl _ _).alloc (Nat.le_refl _) _
  first
    | exact bodyPost_ret (v := .tuple #[.agg #[.int .i64 0, .slice none 0 0], .bool false]) (by simp [results, Try.results27, go_sem]) rfl ⟨_, [], rfl, OwnR.nil _ _ _, hb⟩
    | exact bodyPost_ret (v := .tuple #[.agg #[.int .i64 0, .slice none 0 0], .bool false]) (by simp [results, Try.results27, go_sem]) rfl ⟨_, [], rfl, OwnR.nil _ _ _, (hb.setCell (Nat.le_refl _) _).setCell (Nat.le_refl _) _⟩
theorem BrickNetwork_s_none (a b : Int) (w : World) (hb : inB a 1 8 = false) : Calls Try.prog 26 #[.int .i64 a, .int .i64 b] w (NetC w 0 [] false) := by
  go_enter Try.func26, Try.ntmps26
  go_wp2_with (first | (go_at_call 42; refine (l07N_c _ _).mono ?_; rintro e w' ⟨rfl, rfl⟩) | (go_at_call 47; refine (l01In_c _ _ _ _).mono ?_; rintro e w' ⟨rfl, rfl⟩))
  have h1 := blk_new w (.cells #[.int .i64 0, .slice none 0 0] 24)
  have c0 := blk_cell h1 0
  have c1 := blk_cell h1 1
  have hb : Below w.heap.size w (w.alloc (.cells #[.int .i64 0, .slice none 0 0] 24)) := (Below.refl _ _).alloc (Nat.le_refl _) _
  first
    | exact bodyPost_ret (v := .tuple #[.agg #[.int .i64 0, .slice none 0 0], .bool false]) (by simp [results, Try.results26, go_sem]) rfl ⟨_, [], rfl, OwnR.nil _ _ _, hb⟩
    | exact bodyPost_ret (v := .tuple #[.agg #[.int .i64 0, .slice none 0 0], .bool false]) (by simp [results, Try.results26, go_sem]) rfl ⟨_, [], rfl, OwnR.nil _ _ _, (hb.setCell (Nat.le_refl _) _).setCell (Nat.le_refl _) _⟩
theorem BrickNetwork_i0_none (a b : Int) (w : World) (hb : inB a 1 8 = true) (h3 : b < 0) : Calls Try.prog 27 #[.int .i64 a, .int .i64 b] w (NetC w 0 [] false) := by
  go_enter Try.func27, Try.ntmps27
  go_wp2_with ((go_at_call 43; refine (isWires_c _ _).mono ?_; rintro e w' ⟨rfl, rfl⟩))
  have h1 := blk_new w (.cells #[.int .i64 0, .slice none 0 0] 24)
  have c0 := blk_cell h1 0
  have c1 := blk_cell h1 1
  have hb : Below w.heap.size w (w.alloc (.cells #[.int .i64 0, .slice none 0 0] 24)) := (Below.refl _ _).alloc (Nat.le_refl _) _
  first
    | exact bodyPost_ret (v := .tuple #[.agg #[.int .i64 0, .slice none 0 0], .bool false]) (by simp [results, Try.results27, go_sem]) rfl ⟨_, [], rfl, OwnR.nil _ _ _, hb⟩
    | exact bodyPost_ret (v := .tuple #[.agg #[.int .i64 0, .slice none 0 0], .bool false]) (by simp [results, Try.results27, go_sem]) rfl ⟨_, [], rfl, OwnR.nil _ _ _, (hb.setCell (Nat.le_refl _) _).setCell (Nat.le_refl _) _⟩
theorem BrickNetwork_i1_none (a b : Int) (w : World) (hb : inB a 1 8 = true) (h3 : 0 ≤ b) (h4 : 8 < b) : Calls Try.prog 27 #[.int .i64 a, .int .i64 b] w (NetC w 0 [] false) := by
  go_enter Try.func27, Try.ntmps27
  go_wp2_with ((go_at_call 43; refine (isWires_c _ _).mono ?_; rintro e w' ⟨rfl, rfl⟩))
  have h1 := blk_new w (.cells #[.int .i64 0, .slice none 0 0] 24)
  have c0 := blk_cell h1 0
  have c1 := blk_cell h1 1
  have hb : Below w.heap.size w (w.alloc (.cells #[.int .i64 0, .slice none 0 0] 24)) := (Below.refl _ _).alloc (Nat.le_refl _) _
  first
    | exact bodyPost_ret (v := .tuple #[.agg #[.int .i64 0, .slice none 0 0], .bool false]) (by simp [results, Try.results27, go_sem]) rfl ⟨_, [], rfl, OwnR.nil _ _ _, hb⟩
    | exact bodyPost_ret (v := .tuple #[.agg #[.int .i64 0, .slice none 0 0], .bool false]) (by simp [results, Try.results27, go_sem]) rfl ⟨_, [], rfl, OwnR.nil _ _ _, (hb.setCell (Nat.le_refl _) _).setCell (Nat.le_refl _) _⟩
theorem BrickNetwork_s0_none (a b : Int) (w : World) (hb : inB a 1 8 = true) (_h1 : 1 ≤ a) (_h2 : a ≤ 8) (h3 : inB b 0 8 = false) : Calls Try.prog 26 #[.int .i64 a, .int .i64 b] w (NetC w 0 [] false) := by
  go_enter Try.func26, Try.ntmps26
  go_wp2_with (first | (go_at_call 42; refine (l07N_c _ _).mono ?_; rintro e w' ⟨rfl, rfl⟩) | (go_at_call 47; refine (l01In_c _ _ _ _).mono ?_; rintro e w' ⟨rfl, rfl⟩))
  have h1 := blk_new w (.cells #[.int .i64 0, .slice none 0 0] 24)
  have c0 := blk_cell h1 0
  have c1 := blk_cell h1 1
  have hb : Below w.heap.size w (w.alloc (.cells #[.int .i64 0, .slice none 0 0] 24)) := (Below.refl _ _).alloc (Nat.le_refl _) _
  first
    | exact bodyPost_ret (v := .tuple #[.agg #[.int .i64 0, .slice none 0 0], .bool false]) (by simp [results, Try.results26, go_sem]) rfl ⟨_, [], rfl, OwnR.nil _ _ _, hb⟩
    | exact bodyPost_ret (v := .tuple #[.agg #[.int .i64 0, .slice none 0 0], .bool false]) (by simp [results, Try.results26, go_sem]) rfl ⟨_, [], rfl, OwnR.nil _ _ _, (hb.setCell (Nat.le_refl _) _).setCell (Nat.le_refl _) _⟩

def VBrickNetwork (a b : Int) : Bool := inB a 1 8 && inB b 0 8
def XBrickNetwork (a b : Int) : List (List Int) := if VBrickNetwork a b = true then net2 (fun s => (a.toNat - s % 2) / 2) (fun (s k : Nat) => [((s % 2 : Nat) : Int) + 2 * k, ((s % 2 : Nat) : Int) + 2 * k + 1]) (b.toNat) else []
theorem VBrickNetwork_of {a b : Int} (h : VBrickNetwork a b = true) : (1 ≤ a ∧ a ≤ 8) ∧ (0 ≤ b ∧ b ≤ 8) := by simpa [VBrickNetwork, inB] using h
theorem XBrickNetwork_small (a b : Int) : smallR (XBrickNetwork a b) := by
  unfold XBrickNetwork
  split
  · rename_i h
    have hb := VBrickNetwork_of h
    exact net2_pairs _ _ _ (by omega) (by intro s hs; show ( (a.toNat - s % 2) / 2) ≤ 8; omega) (fun _ _ => rfl)
  · exact smallR_pairs (by simp) (by simp)
theorem BrickNetwork_i_c (a b : Int) (w : World) : Calls Try.prog 27 #[.int .i64 a, .int .i64 b] w (NetC w (if VBrickNetwork a b = true then a else 0) (XBrickNetwork a b) (VBrickNetwork a b)) := by
  by_cases h : VBrickNetwork a b = true
  · have hb := VBrickNetwork_of h
    obtain ⟨n, rfl⟩ := Int.eq_ofNat_of_zero_le (by omega : 0 ≤ a)
    obtain ⟨m, rfl⟩ := Int.eq_ofNat_of_zero_le (by omega : 0 ≤ b)
    unfold XBrickNetwork
    rw [if_pos h, if_pos h, h]
    exact BrickNetwork_i n m w (by omega) (by omega) (inB_mk hb.1) (by omega) (inB_mk (by omega))
  · replace h : VBrickNetwork a b = false := by simpa using h
    unfold XBrickNetwork
    rw [if_neg (by simp [h]), if_neg (by simp [h]), h]
    by_cases h1 : inB a 1 8 = true
    · have hb := inB_of h1
      have h2 : inB b 0 8 = false := by simpa [VBrickNetwork, h1] using h
      have h3 : b < 0 ∨ 8 < b := by simp [inB] at h2; omega
      rcases h3 with h3 | h3
      · exact BrickNetwork_i0_none a b w h1 h3
      · exact BrickNetwork_i1_none a b w h1 (by omega) h3
    · replace h1 : inB a 1 8 = false := by simpa using h1
      exact BrickNetwork_i_none a b w h1
theorem BrickNetwork_s_c (a b : Int) (w : World) : Calls Try.prog 26 #[.int .i64 a, .int .i64 b] w (NetC w (if VBrickNetwork a b = true then a else 0) (XBrickNetwork a b) (VBrickNetwork a b)) := by
  by_cases h : VBrickNetwork a b = true
  · have hb := VBrickNetwork_of h
    obtain ⟨n, rfl⟩ := Int.eq_ofNat_of_zero_le (by omega : 0 ≤ a)
    obtain ⟨m, rfl⟩ := Int.eq_ofNat_of_zero_le (by omega : 0 ≤ b)
    unfold XBrickNetwork
    rw [if_pos h, if_pos h, h]
    exact BrickNetwork_s n m w (by omega) (by omega) (inB_mk hb.1) (by omega) (inB_mk (by omega))
  · replace h : VBrickNetwork a b = false := by simpa using h
    unfold XBrickNetwork
    rw [if_neg (by simp [h]), if_neg (by simp [h]), h]
    by_cases h1 : inB a 1 8 = true
    · have hb := inB_of h1
      have h2 : inB b 0 8 = false := by simpa [VBrickNetwork, h1] using h
      exact BrickNetwork_s0_none a b w h1 hb.1 hb.2 h2
    · replace h1 : inB a 1 8 = false := by simpa using h1
      exact BrickNetwork_s_none a b w h1
theorem fnExactBrickNetwork_walk (a0 : Int) (_w0 : (Lit.int .i64 a0).wf = true) (a1 : Int) (_w1 : (Lit.int .i64 a1).wf = true) (w : World) :
    Calls Try.prog 7 #[.int .i64 a0, .int .i64 a1] w fun e w' => e = .returned (.bool true) ∧ Below w.heap.size w w' :=
  FnExactBrickNetwork_core a0 a1 w _ _ _ (XBrickNetwork_small a0 a1) (BrickNetwork_s_c a0 a1) (BrickNetwork_i_c a0 a1)
end Go.Proofs.Ytkgbmainabgamaa
