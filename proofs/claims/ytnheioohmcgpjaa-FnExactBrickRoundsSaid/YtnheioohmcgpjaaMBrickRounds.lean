/- The walk of the law 'FnExactBrickRounds': if the program's function and the reference's hand back the same, the law returns true. Conditions: the two contracts. -/
import Derived.Test.YtnheioohmcgpjaaTo
import Derived.Test.YtnheioohmcgpjaaEq
import Derived.Deep.RegionHeld3
namespace Go.Proofs.Ytnheioohmcgpjaa
open Go.RowKit
set_option maxRecDepth 100000

set_option maxHeartbeats 2000000 in
theorem FnExactBrickRounds_core (w : World) (u0 : Value) (x0 : List Int) (hu0 : IntsV w 0 w.heap.size u0 x0) (hm0 : x0.length ≤ maxLen) (r : Int)
    (hs : (∀ (w : World) (l0 h0 : Nat) (v0 : Value), OwnI w l0 h0 v0 x0 → h0 ≤ w.heap.size → x0.length ≤ 1048576 → Calls Try.prog 15 #[v0] w fun e w' => e = .returned (.int .i64 r) ∧ Below w.heap.size w w'))
    (hi : (∀ (w : World) (l0 h0 : Nat) (v0 : Value), OwnI w l0 h0 v0 x0 → h0 ≤ w.heap.size → x0.length ≤ 1048576 → Calls Try.prog 17 #[v0] w fun e w' => e = .returned (.int .i64 r) ∧ Below w.heap.size w w')) :
    Calls Try.prog 3 #[u0] w fun e w' => e = .returned (.bool true) ∧ Below w.heap.size w w' := by
  have HS := Lib.hid hs
  have HI := Lib.hid hi
  unfold maxLen at *
  have HU0 := Lib.hid hu0
  obtain ⟨ao0, b0, off0, cap0, e0, hcap0, -, -⟩ := hu0
  subst e0
  obtain ⟨n0, hnl0⟩ : ∃ n, n = x0.length := ⟨_, rfl⟩
  have HL0 := Lib.hid hnl0
  rw [← hnl0] at hm0 hcap0 HU0 ⊢
  clear hnl0
  clear hs hi
  by_cases hk0 : n0 ≤ 1048576
  rotate_left
  · have hk0' : (1048576 : Int) < (n0 : Int) := by omega
    clear HS HI
    go_enter Try.func3, Try.ntmps3
    go_wp2_with fail
    go_ret
    exact ⟨rfl, Below.refl _ _⟩
  go_enter Try.func3, Try.ntmps3
  have BA : Hid (Below w.heap.size w w) := Below.refl _ _
  have ZA : w.heap.size ≤ w.heap.size := Nat.le_refl _
  go_wp2_with fail
  refine (toIntS_c 0 w.heap.size _ x0 w (HU0.out.below BA.out (Nat.le_refl _)) ZA (by rw [← HL0.out]; omega)).mono ?_
  rintro e w1 ⟨qs0, rfl, os0, b_1⟩
  obtain ⟨aos0, gs0, caps0, es0, -, -, -⟩ := os0.view
  rw [← HL0.out] at es0
  have Os0 := Lib.hid os0
  clear os0
  subst es0
  have z1 := b_1.size
  replace BA : Hid (Below w.heap.size w w1) := BA.out.trans (b_1.mono (by omega))
  replace ZA : w.heap.size ≤ w1.heap.size := (by omega)
  clear b_1
  go_wp2_with fail
  refine (HS.out w1 _ _ _ Os0.out (by omega) (by rw [← HL0.out]; omega)).mono ?_
  rintro e w2 ⟨rfl, b_2⟩
  have z2 := b_2.size
  replace Os0 := Lib.hid (Os0.out.later b_2)
  replace BA : Hid (Below w.heap.size w w2) := BA.out.trans (b_2.mono (by omega))
  replace ZA : w.heap.size ≤ w2.heap.size := (by omega)
  clear b_2
  clear Os0
  go_wp2_with fail
  refine (toIntS_c 0 w.heap.size _ x0 w2 (HU0.out.below BA.out (Nat.le_refl _)) ZA (by rw [← HL0.out]; omega)).mono ?_
  rintro e w3 ⟨qi0, rfl, oi0, b_3⟩
  obtain ⟨aoi0, gi0, capi0, ei0, -, -, -⟩ := oi0.view
  rw [← HL0.out] at ei0
  have Oi0 := Lib.hid oi0
  clear oi0
  subst ei0
  have z3 := b_3.size
  replace BA : Hid (Below w.heap.size w w3) := BA.out.trans (b_3.mono (by omega))
  replace ZA : w.heap.size ≤ w3.heap.size := (by omega)
  clear b_3
  go_wp2_with fail
  refine (HI.out w3 _ _ _ Oi0.out (by omega) (by rw [← HL0.out]; omega)).mono ?_
  rintro e w4 ⟨rfl, b_4⟩
  have z4 := b_4.size
  replace Oi0 := Lib.hid (Oi0.out.later b_4)
  replace BA : Hid (Below w.heap.size w w4) := BA.out.trans (b_4.mono (by omega))
  replace ZA : w.heap.size ≤ w4.heap.size := (by omega)
  clear b_4
  go_wp2_with fail
  refine (toIntS_c 0 w.heap.size _ x0 w4 (HU0.out.below BA.out (Nat.le_refl _)) ZA (by rw [← HL0.out]; omega)).mono ?_
  rintro e w5 ⟨qc0, rfl, oc0, b_5⟩
  obtain ⟨aoc0, gc0, capc0, ec0, -, -, -⟩ := oc0.view
  rw [← HL0.out] at ec0
  have Oc0 := Lib.hid oc0
  clear oc0
  subst ec0
  have z5 := b_5.size
  replace Oi0 := Lib.hid (Oi0.out.later b_5)
  replace BA : Hid (Below w.heap.size w w5) := BA.out.trans (b_5.mono (by omega))
  replace ZA : w.heap.size ≤ w5.heap.size := (by omega)
  clear b_5
  go_wp2_with fail
  refine (eqIntS_c _ _ _ _ _ _ x0 x0 w5 Oi0.out Oc0.out (by omega) (by omega) (by rw [← HL0.out]; omega)).mono ?_
  rintro e w6 ⟨rfl, b_6⟩
  rw [show decide (x0 = x0) = true from by simp]
  have z6 := b_6.size
  replace Oi0 := Lib.hid (Oi0.out.later b_6)
  replace Oc0 := Lib.hid (Oc0.out.later b_6)
  replace BA : Hid (Below w.heap.size w w6) := BA.out.trans (b_6.mono (by omega))
  replace ZA : w.heap.size ≤ w6.heap.size := (by omega)
  clear b_6
  clear Oc0
  clear Oi0
  go_wp2
  go_ret
  exact ⟨rfl, BA.out⟩
end Go.Proofs.Ytnheioohmcgpjaa
