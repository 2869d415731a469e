/- The law 'FnExactSelectionNetwork': the program's function and the reference's hand back the same network, whatever the arguments, and the law returns true. Conditions: none. -/
import Derived.Test.YtkgbmainabgamaaFSelectNetwork
import Derived.Test.YtkgbmainabgamaaNSelection
import Derived.Test.YtkgbmainabgamaaLSelectionNetwork
namespace Go.Proofs.Ytkgbmainabgamaa
open Go.RowKit
set_option maxRecDepth 100000
theorem SelectionNetwork_s_none (a : Int) (w : World) (hb : inB a 1 8 = false) : Calls Try.prog 24 #[.int .i64 a] w (NetC w 0 [] false) := by
  go_enter Try.func24, Try.ntmps24
  go_wp2_with (first | (go_at_call 42; refine (l07N_c _ _).mono ?_; rintro e w' ⟨rfl, rfl⟩) | (go_at_call 47; refine (l01In_c _ _ _ _).mono ?_; rintro e w' ⟨rfl, rfl⟩))
  have h1 := blk_new w (.cells #[.int .i64 0, .slice none 0 0] 24)
  have c0 := blk_cell h1 0
  have c1 := blk_cell h1 1
  have hb : Below w.heap.size w (w.alloc (.cells #[.int .i64 0, .slice none 0 0] 24)) := (Below.refl _ _).alloc (Nat.le_refl _) _
  first
    | exact bodyPost_ret (v := .tuple #[.agg #[.int .i64 0, .slice none 0 0], .bool false]) (by simp [results, Try.results24, go_sem]) rfl ⟨_, [], rfl, OwnR.nil _ _ _, hb⟩
    | exact bodyPost_ret (v := .tuple #[.agg #[.int .i64 0, .slice none 0 0], .bool false]) (by simp [results, Try.results24, go_sem]) rfl ⟨_, [], rfl, OwnR.nil _ _ _, (hb.setCell (Nat.le_refl _) _).setCell (Nat.le_refl _) _⟩

def XSelectionNetwork (a : Int) : List (List Int) := if inB a 1 8 = true then net2 (fun s => a.toNat - 1 - s) (fun (s k : Nat) => [(s : Int), (s : Int) + 1 + k]) (a.toNat - 1) else []
theorem SelectionNetwork_s_c (a : Int) (w : World) : Calls Try.prog 24 #[.int .i64 a] w (NetC w (if inB a 1 8 = true then a else 0) (XSelectionNetwork a) (inB a 1 8)) := by
  by_cases h : inB a 1 8 = true
  · have hb := inB_of h
    obtain ⟨n, rfl⟩ := Int.eq_ofNat_of_zero_le (by omega : 0 ≤ a)
    unfold XSelectionNetwork
    rw [if_pos h, if_pos h, h]
    exact SelectionNetwork_s n w (by omega) (by omega) h
  · replace h : inB a 1 8 = false := by simpa using h
    unfold XSelectionNetwork
    rw [if_neg (by simp [h]), if_neg (by simp [h]), h]
    exact SelectionNetwork_s_none a w h
theorem SelectionNetwork_i_any (a : Int) (w : World) (nn : Int) (xx : List (List Int)) (bb : Bool)
    (hs : ∀ m w, ((1 ≤ a ∧ a ≤ 8) → m = a - 1) → Calls Try.prog 23 #[.int .i64 a, .int .i64 m] w (NetC w nn xx bb)) : Calls Try.prog 25 #[.int .i64 a] w (NetC w nn xx bb) := by
  have HS := Lib.hid hs
  clear hs
  have fin : ∀ m : Int, ((1 ≤ a ∧ a ≤ 8) → m = a - 1) → ∀ (e : Ending) (w1 : World), NetC (w.alloc (.cells #[.int .i64 0, .slice none 0 0] 24)) nn xx bb e w1 → ∃ ao L cap, e = .returned (.tuple #[.agg #[.int .i64 nn, .slice ao L cap], .bool bb]) ∧
      (w1.cell? ⟨w.heap.size, 0, none⟩ = some (.int .i64 0) ∧ w1.cell? ⟨w.heap.size, 1, none⟩ = some (.slice none 0 0) ∧ w1.frozen? ⟨w.heap.size, 0, none⟩ = false ∧ w1.frozen? ⟨w.heap.size, 1, none⟩ = false) ∧
      Hid (NetC w nn xx bb (.returned (.tuple #[.agg #[.int .i64 nn, .slice ao L cap], .bool bb])) ((w1.setCell ⟨w.heap.size, 0, none⟩ (.int .i64 nn)).setCell ⟨w.heap.size, 1, none⟩ (.slice ao L cap))) := by
    rintro m - e w1 ⟨v, vs, rfl, ho, hb1⟩
    obtain ⟨ao, g, cap, rfl, -, -, -⟩ := ho.rows
    have h1 := blk_below (blk_new w (.cells #[.int .i64 0, .slice none 0 0] 24)) hb1 (by simp)
    refine ⟨ao, _, cap, rfl, ⟨blk_cell h1 0, blk_cell h1 1, blk_free h1 0, blk_free h1 1⟩, _, vs, rfl, ?_, ((((Below.refl _ _).alloc (Nat.le_refl _) _).trans (hb1.mono (by simp))).setCell (Nat.le_refl _) _).setCell (Nat.le_refl _) _⟩
    rw [show ((w1.setCell ⟨w.heap.size, 0, none⟩ (.int .i64 nn)).setCell ⟨w.heap.size, 1, none⟩ (.slice ao xx.length cap)).heap.size = w1.heap.size from by simp [World.setCell]]
    refine (ho.kept fun k k1 _ _ => ?_).mono (by simp) (Nat.le_refl _)
    have k1' : w.heap.size + 1 ≤ k := by simpa using k1
    rw [Below.heap_setCell _ _ _ _ (by show k ≠ w.heap.size; omega), Below.heap_setCell _ _ _ _ (by show k ≠ w.heap.size; omega)]
  have FIN := Lib.hid fin
  clear fin
  by_cases h : 1 ≤ a ∧ a ≤ 8
  · obtain ⟨b1, b2⟩ := h
    go_enter Try.func25, Try.ntmps25
    go_wp2_with fail
    all_goals
      refine (HS.out _ _ (fun _ => by omega)).mono ?_
      intro e w1 hn
      obtain ⟨ao, L, cap, rfl, ⟨c0, c1, f0, f1⟩, HF⟩ := FIN.out (a - 1) (fun _ => rfl) e w1 hn
      clear hn
      go_wp2
      exact bodyPost_ret (v := .tuple #[.agg #[.int .i64 nn, .slice ao L cap], .bool bb]) (by simp [results, Try.results25, go_sem, c0, c1]) rfl HF.out
  · have HN := Lib.hid h
    clear h
    go_enter Try.func25, Try.ntmps25
    go_wp2_with fail
    all_goals
      refine (HS.out _ _ (fun h => absurd h HN.out)).mono ?_
      intro e w1 hn
      obtain ⟨ao, L, cap, rfl, ⟨c0, c1, f0, f1⟩, HF⟩ := FIN.out (a - 1) (fun _ => rfl) e w1 hn
      clear hn
      go_wp2
      exact bodyPost_ret (v := .tuple #[.agg #[.int .i64 nn, .slice ao L cap], .bool bb]) (by simp [results, Try.results25, go_sem, c0, c1]) rfl HF.out
theorem SelectionNetwork_i_c (a : Int) (w : World) : Calls Try.prog 25 #[.int .i64 a] w (NetC w (if inB a 1 8 = true then a else 0) (XSelectionNetwork a) (inB a 1 8)) := by
  refine SelectionNetwork_i_any a w _ _ _ fun m w' hm => ?_
  have h0 := SelectNetwork_i_c a m w'
  by_cases h : inB a 1 8 = true
  · have hb := inB_of h
    obtain rfl := hm hb
    have hv : VSelectNetwork a (a - 1) = true := by simp [VSelectNetwork, inB]; omega
    have hx : XSelectNetwork a (a - 1) = XSelectionNetwork a := by
      unfold XSelectNetwork XSelectionNetwork
      rw [if_pos hv, if_pos h, show (a - 1).toNat = a.toNat - 1 from by omega]
    rw [hv, hx, if_pos rfl] at h0
    rw [h, if_pos rfl]
    exact h0
  · replace h : inB a 1 8 = false := by simpa using h
    have hv : VSelectNetwork a m = false := by simp [VSelectNetwork, h]
    have hx : XSelectNetwork a m = XSelectionNetwork a := by
      unfold XSelectNetwork XSelectionNetwork
      rw [if_neg (by simp [hv]), if_neg (by simp [h])]
    rw [hv, hx, if_neg (by simp)] at h0
    rw [h, if_neg (by simp)]
    exact h0
theorem XSelectionNetwork_small (a : Int) : smallR (XSelectionNetwork a) := by
  unfold XSelectionNetwork
  split
  · rename_i h
    have hb := inB_of h
    exact net2_pairs _ _ _ (by omega) (by intro s hs; show a.toNat - 1 - s ≤ 8; omega) (fun _ _ => rfl)
  · exact smallR_pairs (by simp) (by simp)
theorem fnExactSelectionNetwork_walk (a0 : Int) (_w0 : (Lit.int .i64 a0).wf = true) (w : World) :
    Calls Try.prog 6 #[.int .i64 a0] w fun e w' => e = .returned (.bool true) ∧ Below w.heap.size w w' :=
  FnExactSelectionNetwork_core a0 w _ _ _ (XSelectionNetwork_small a0) (SelectionNetwork_s_c a0) (SelectionNetwork_i_c a0)
end Go.Proofs.Ytkgbmainabgamaa
