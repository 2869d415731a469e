/- MedianNetwork: Batcher's network, only what leads to the wire in the middle: both functions on all arguments, and the law. Conditions: none. -/
import Derived.Test.YtgdkihabphihoaaLive2
import Derived.Test.YtgdkihabphihoaaBatN
namespace Go.Proofs.Ytgdkihabphihoaa
open Go.RowKit
set_option maxRecDepth 100000
set_option linter.unusedVariables false

theorem intsV_one (W : World) (x : Int) : IntsV (W.alloc (.cells #[.int .i64 x] 3)) 0 (W.alloc (.cells #[.int .i64 x] 3)).heap.size (.slice (some ⟨W.heap.size, 0, none⟩) 1 1) [x] := by
  have hb := blk_new W (.cells #[.int .i64 x] 3)
  refine ⟨some ⟨W.heap.size, 0, none⟩, W.heap.size, 0, 1, rfl, Nat.le_refl _, fun _ => ⟨rfl, Nat.zero_le _, by simp⟩, fun i hi => ?_⟩
  have hi0 : i = 0 := by simp at hi; omega
  subst hi0
  exact blk_cell hb 0
def medN (a : Int) : Int := if inB a 1 8 = true then liveN a (XBatcherNetwork a) [a / 2] else 0
def medX (a : Int) : List (List Int) := if inB a 1 8 = true then liveX a (XBatcherNetwork a) [a / 2] else []
def medB (a : Int) : Bool := inB a 1 8 && liveB a (XBatcherNetwork a) [a / 2]
theorem medX_small (a : Int) : smallR (medX a) := by
  unfold medX
  split
  · exact liveX_small _ _ _
  · exact smallR_pairs (by simp) (by simp)
set_option maxHeartbeats 1000000 in
theorem MedianNetwork_i_no (a : Int) (w : World) (hb : inB a 1 8 = false) : Calls Try.prog 41 #[.int .i64 a] w (NetC w 0 [] false) := by
  have BC : Hid (∀ w, Calls Try.prog 78 #[.int .i64 a] w (NetC w 0 [] false)) := fun w => BatcherNetwork_i_none a w hb
  go_enter Try.func41, Try.ntmps41
  go_wp2_with fail
  have h1 := blk_new w (.cells #[.int .i64 0, .slice none 0 0] 27)
  obtain ⟨W0, hW0⟩ : ∃ W, W = w.alloc (.cells #[.int .i64 0, .slice none 0 0] 27) := ⟨_, rfl⟩
  have hB0 : Below w.heap.size w W0 := by rw [hW0]; exact (Below.refl _ _).alloc (Nat.le_refl _) _
  have hs0 : w.heap.size < W0.heap.size := by rw [hW0]; simp
  rw [← hW0] at h1
  try rw [← hW0]
  clear hW0
  refine (BC.out W0).mono ?_
  rintro e w1 ⟨u, us, rfl, o1, b1⟩
  obtain ⟨ao1, g1, cap1, e1, -, -, -⟩ := o1.rows
  simp only [List.length_nil] at e1
  subst e1
  have h2 := blk_below h1 b1 hs0
  have z1 := b1.size
  have h3 := blk_old h2 (.cells #[.int .i64 0, .slice ao1 0 cap1] 27)
  have q0 := blk_cell h2 0
  have q1 := blk_cell h2 1
  have x0 := blk_free h2 0
  have x1 := blk_free h2 1
  have r0 := blk_cell h3 0
  have r1 := blk_cell h3 1
  have y0 := blk_free h3 0
  have y1 := blk_free h3 1
  have B1 : Hid (Below w.heap.size w w1) := hB0.trans (b1.mono (by omega))
  clear o1 b1 h1 h2 h3 hB0
  go_wp2_with fail
  refine bodyPost_ret (v := .tuple #[.agg #[.int .i64 0, .slice none 0 0], .bool false]) (by simp [results, Try.results41, go_sem, r0, r1]) rfl ⟨_, [], rfl, OwnR.nil _ _ _, ?_⟩
  first
    | exact B1.out
    | exact ((B1.out.alloc (by omega) _).setCell (by show w.heap.size ≤ w.heap.size; omega) _).setCell (by show w.heap.size ≤ w.heap.size; omega) _
    | exact B1.out.alloc (by omega) _
set_option maxHeartbeats 1000000 in
theorem MedianNetwork_i_yes (n : Nat) (w : World) (hb : inB (n : Int) 1 8 = true) (h1 : 1 ≤ n) (h8 : n ≤ 8) : Calls Try.prog 41 #[.int .i64 n] w (NetC w (liveN n (XBatcherNetwork n) [(n : Int) / 2]) (liveX n (XBatcherNetwork n) [(n : Int) / 2]) (liveB n (XBatcherNetwork n) [(n : Int) / 2])) := by
  have BC : Hid (∀ w, Calls Try.prog 78 #[.int .i64 n] w (NetC w n (XBatcherNetwork n) true)) := fun w => by
    have := BatcherNetwork_i_c n w
    rwa [hb, if_pos rfl] at this
  obtain ⟨X, hX⟩ : ∃ X, X = XBatcherNetwork n := ⟨_, rfl⟩
  rw [← hX] at BC ⊢
  clear hX
  obtain ⟨P9, hP9⟩ : ∃ P9, P9 = NetC w (liveN n X [(n : Int) / 2]) (liveX n X [(n : Int) / 2]) (liveB n X [(n : Int) / 2]) := ⟨_, rfl⟩
  have HP9 := Lib.hid hP9
  rw [← hP9]
  clear hP9
  go_enter Try.func41, Try.ntmps41
  go_wp2_with fail
  have hk1 := blk_new w (.cells #[.int .i64 0, .slice none 0 0] 27)
  obtain ⟨W0, hW0⟩ : ∃ W, W = w.alloc (.cells #[.int .i64 0, .slice none 0 0] 27) := ⟨_, rfl⟩
  have hB0 : Below w.heap.size w W0 := by rw [hW0]; exact (Below.refl _ _).alloc (Nat.le_refl _) _
  have hs0 : w.heap.size < W0.heap.size := by rw [hW0]; simp
  rw [← hW0] at hk1
  try rw [← hW0]
  clear hW0
  refine (BC.out W0).mono ?_
  rintro e w1 ⟨u, us, rfl, o1, b1⟩
  obtain ⟨ao1, g1, cap1, e1, -, -, -⟩ := o1.rows
  obtain ⟨M, hM⟩ : ∃ M, M = X.length := ⟨_, rfl⟩
  rw [← hM] at e1
  subst e1
  have h2 := blk_below hk1 b1 hs0
  have z1 := b1.size
  have H2 := Lib.hid h2
  have B1 : Hid (Below w.heap.size w w1) := hB0.trans (b1.mono (by omega))
  have O1 := Lib.hid o1
  clear o1 b1 hk1 h2 hB0 hM
  go_wp2_with fail
  obtain ⟨W2, hW2, c0, c1, hsz, hB2, -, -⟩ := box2 w1 (.int .i64 n) (.slice ao1 M cap1) 27
  rw [hW2]
  clear hW2
  go_wp2_with fail
  have hL := intsV_one W2 ((n : Int) / 2)
  obtain ⟨W3, hW3⟩ : ∃ W, W = W2.alloc (.cells #[.int .i64 ((n : Int) / 2)] 3) := ⟨_, rfl⟩
  have hB3 : Below w1.heap.size w1 W3 := by rw [hW3]; exact hB2.alloc (by omega) _
  have hs3 : w1.heap.size ≤ W3.heap.size := hB3.size
  rw [← hW3, hsz] at hL
  try rw [← hW3]
  clear hW3
  have HL := Lib.hid hL
  have HBX : Hid (W3.heap[w.heap.size]? = some (.cells #[.int .i64 0, .slice none 0 0] 27 (0, 0))) := blk_below H2.out hB3 (by omega)
  have HB3 := Lib.hid hB3
  clear hL hB3 c0 c1
  refine (LiveNetwork_i_c n W0.heap.size w1.heap.size 0 W3.heap.size _ us X _ [(n : Int) / 2] W3 (O1.out.below HB3.out (Nat.le_refl _)) (by omega) HL.out (Nat.le_refl _) (by simp)).mono ?_
  rintro e w4 ⟨u4, us4, rfl, o4, b4⟩
  have z4 := b4.size
  have h4 := blk_below HBX.out b4 (by omega)
  have q0 := blk_cell h4 0
  have q1 := blk_cell h4 1
  have x0 := blk_free h4 0
  have x1 := blk_free h4 1
  have H4 := Lib.hid h4
  have B4 : Hid (Below w.heap.size w w4) := B1.out.trans ((HB3.out.mono (by omega)).trans (b4.mono (by omega)))
  have O4 := Lib.hid o4
  obtain ⟨ao4, g4, cap4, e4, -, -, -⟩ := o4.rows
  obtain ⟨M4, hM4⟩ : ∃ M4, M4 = (liveX n X [(n : Int) / 2]).length := ⟨_, rfl⟩
  rw [← hM4] at e4
  subst e4
  obtain ⟨n4, hn4⟩ : ∃ n4, n4 = liveN n X [(n : Int) / 2] := ⟨_, rfl⟩
  obtain ⟨b4', hb4⟩ : ∃ b4', b4' = liveB n X [(n : Int) / 2] := ⟨_, rfl⟩
  rw [← hn4, ← hb4]
  rw [← hn4, ← hb4] at HP9
  clear o4 b4 h4 hM4 hn4 hb4
  go_wp2_with fail
  refine bodyPost_ret (v := .tuple #[.agg #[.int .i64 n4, .slice ao4 M4 cap4], .bool b4']) (by simp [results, Try.results41, go_sem, q0, q1]) rfl ?_
  rw [HP9.out]
  refine ⟨_, us4, rfl, ?_, (B4.out.setCell (by show w.heap.size ≤ w.heap.size; omega) _).setCell (by show w.heap.size ≤ w.heap.size; omega) _⟩
  exact ((O4.out.past_box H4.out).past_box (box_set0 H4.out)).mono (by omega) (by simp [World.setCell])
theorem MedianNetwork_i_c (a : Int) (w : World) : Calls Try.prog 41 #[.int .i64 a] w (NetC w (medN a) (medX a) (medB a)) := by
  by_cases h : inB a 1 8 = true
  · obtain ⟨n, rfl, h1, h8⟩ : ∃ n : Nat, a = n ∧ 1 ≤ n ∧ n ≤ 8 := ⟨a.toNat, by have := inB_of h; omega, by have := inB_of h; omega, by have := inB_of h; omega⟩
    unfold medN medX medB
    rw [h, if_pos rfl, if_pos rfl, Bool.true_and]
    exact MedianNetwork_i_yes n w h h1 h8
  · replace h : inB a 1 8 = false := by simpa using h
    unfold medN medX medB
    rw [h, if_neg (by simp), if_neg (by simp), Bool.false_and]
    exact MedianNetwork_i_no a w h
end Go.Proofs.Ytgdkihabphihoaa
