/- A copy of comparators, the reference's, and the checks at the end, by their contracts. Conditions: the network is valid. -/
import Derived.Test.YtiodolbgapjmkaaGreatDoorCopy
import Derived.Test.YtiodolbgapjmkaaGreatDoorPairC
namespace Go.Proofs.YtiodolbgapjmkaaGreatDoor
open Go.RowKit
set_option maxRecDepth 100000
set_option linter.unusedVariables false

set_option maxHeartbeats 1000000 in
theorem checked_c (n : Int) (lo hi : Nat) (v : Value) (vs : List Value) (xss : List (List Int)) (w : World) (hv : OwnR w lo hi v vs xss) (hhi : hi ≤ w.heap.size) :
    Calls Tryz.prog 34 #[.agg #[.int .i64 n, v]] w fun e w' => e = .returned (.tuple #[if netOk n xss = true then .agg #[.int .i64 n, v] else .agg #[.int .i64 0, .slice none 0 0], .bool (netOk n xss)]) ∧ Below w.heap.size w w' := by
  have HC := Lib.hid (NetworkOk_c n lo hi v vs xss)
  have HV := Lib.hid hv
  obtain ⟨ao, g, cap, rfl, -, -, -⟩ := hv.rows
  obtain ⟨L, hlen⟩ : ∃ l, l = xss.length := ⟨_, rfl⟩
  rw [← hlen] at HV HC ⊢
  clear hv hlen
  obtain ⟨b, hb⟩ : ∃ b, b = netOk n xss := ⟨_, rfl⟩
  rw [← hb] at HC ⊢
  clear hb
  go_enter Tryz.func34, Tryz.ntmps34
  go_wp2_with fail
  obtain ⟨W1, hW1, c0, c1, hsz, hB1, -, -⟩ := box2 w (.int .i64 n) (.slice ao L cap) 25
  have hb9 := blk_new W1 (.cells #[.int .i64 0, .slice none 0 0] 25)
  obtain ⟨W2, hW2⟩ : ∃ W, W = W1.alloc (.cells #[.int .i64 0, .slice none 0 0] 25) := ⟨_, rfl⟩
  have hBa : Below W1.heap.size W1 W2 := by rw [hW2]; exact (Below.refl _ _).alloc (Nat.le_refl _) _
  have hs2 : W2.heap.size = W1.heap.size + 1 := by rw [hW2]; simp
  rw [← hW2] at hb9
  obtain ⟨c0, c1, hz0⟩ := boxC hBa (by omega) c0 c1
  have hB2 : Below w.heap.size w W2 := hB1.trans (hBa.mono (by omega))
  rw [hsz] at hb9
  try rw [hW1, ← hW2]
  have hw2 : w.heap.size + 1 < W2.heap.size := by omega
  clear hW1 hW2 hBa hs2 hsz hB1
  refine (HC.out W2 (HV.out.below hB2 (by omega)) (by omega)).mono ?_
  rintro e w3 ⟨rfl, b3⟩
  obtain ⟨d0, d1, z3⟩ := boxC b3 hz0 c0 c1
  have hr9 := blk_below hb9 b3 hw2
  have r0 := blk_cell hr9 0
  have r1 := blk_cell hr9 1
  have y0 := blk_free hr9 0
  have y1 := blk_free hr9 1
  have HB : Hid (Below w.heap.size w w3) := hB2.trans (b3.mono (by omega))
  clear c0 c1 hb9 hr9 b3 hB2 HC HV
  cases b
  · go_wp2
    refine bodyPost_ret (v := .tuple #[.agg #[.int .i64 0, .slice none 0 0], .bool false]) (by simp [results, Tryz.results34, go_sem, r0, r1]) rfl ⟨rfl, ?_⟩
    first
      | exact HB.out
      | exact (HB.out.setCell (by show w.heap.size ≤ w.heap.size + 1; omega) _).setCell (by show w.heap.size ≤ w.heap.size + 1; omega) _
  · go_wp2
    exact bodyPost_ret (v := .tuple #[.agg #[.int .i64 n, .slice ao L cap], .bool true]) (by simp [results, Tryz.results34, go_sem, r0, r1]) rfl ⟨rfl, (HB.out.setCell (by show w.heap.size ≤ w.heap.size + 1; omega) _).setCell (by show w.heap.size ≤ w.heap.size + 1; omega) _⟩
end Go.Proofs.YtiodolbgapjmkaaGreatDoor
