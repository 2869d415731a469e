/- The walk of the law 'FnExactSortNetwork': if the program's function and the reference's hand back the same, each in new memory, the law returns true. Conditions: the two contracts. -/
import Derived.Test.YtnheioohmcgpjaaTo
import Derived.Test.YtnheioohmcgpjaaOffs
import Derived.Test.YtnheioohmcgpjaaNetC
import Derived.Test.YtnheioohmcgpjaaRowApp
import Derived.Test.YtnheioohmcgpjaaInts
import Derived.Deep.RegionHeld3
namespace Go.Proofs.Ytnheioohmcgpjaa
open Go.RowKit
set_option maxRecDepth 100000

set_option maxHeartbeats 4000000 in
theorem FnExactSortNetwork_core (w : World) (u0 : Value) (x0 : List Int) (hu0 : IntsV w 0 w.heap.size u0 x0) (hm0 : x0.length ≤ maxLen) (rx : List Int) (hsm : rx.length ≤ 1000000000)
    (hs : (∀ (w : World) (l0 h0 : Nat) (v0 : Value), OwnI w l0 h0 v0 x0 → h0 ≤ w.heap.size → x0.length ≤ 1048576 → Calls Try.prog 35 #[v0] w (IntC w rx)))
    (hi : (∀ (w : World) (l0 h0 : Nat) (v0 : Value), OwnI w l0 h0 v0 x0 → h0 ≤ w.heap.size → x0.length ≤ 1048576 → Calls Try.prog 36 #[v0] w (IntC w rx))) :
    Calls Try.prog 9 #[u0] w fun e w' => e = .returned (.bool true) ∧ Below w.heap.size w w' := by
  have HS := Lib.hid hs
  have HI := Lib.hid hi
  have SM := Lib.hid hsm
  unfold maxLen at *
  have HU0 := Lib.hid hu0
  obtain ⟨ao0, b0, off0, cap0, e0, hcap0, -, -⟩ := hu0
  subst e0
  obtain ⟨n0, hnl0⟩ : ∃ n, n = x0.length := ⟨_, rfl⟩
  have HL0 := Lib.hid hnl0
  rw [← hnl0] at hm0 hcap0 HU0 ⊢
  clear hnl0
  obtain ⟨rn, hrn⟩ : ∃ n, n = rx.length := ⟨_, rfl⟩
  have HRN := Lib.hid hrn
  have hrl : rn ≤ 1000000000 := by omega
  clear hs hi hsm hrn
  by_cases hk0 : n0 ≤ 1048576
  rotate_left
  · have hk0' : (1048576 : Int) < (n0 : Int) := by omega
    clear HS HI
    go_enter Try.func9, Try.ntmps9
    go_wp2_with fail
    go_ret
    exact ⟨rfl, by first | exact Below.refl _ _ | exact (Below.refl _ _).alloc (Nat.le_refl _) _⟩
  have hk0' : ¬ (1048576 : Int) < (n0 : Int) := by omega
  go_enter Try.func9, Try.ntmps9
  have BA : Hid (Below w.heap.size w w) := Below.refl _ _
  have ZA : w.heap.size ≤ w.heap.size := Nat.le_refl _
  go_wp2_with fail
  refine (toIntS_c 0 w.heap.size _ x0 w (HU0.out.below BA.out (Nat.le_refl _)) ZA (by rw [← HL0.out]; omega)).mono ?_
  rintro e w1 ⟨qs0, rfl, os0, b_1⟩
  obtain ⟨aos0, gs0, caps0, es0, -, -, -⟩ := os0.view
  rw [← HL0.out] at es0
  have Os0 := Lib.hid os0
  clear os0
  subst es0
  have z1 := b_1.size
  replace BA : Hid (Below w.heap.size w w1) := BA.out.trans (b_1.mono (by omega))
  replace ZA : w.heap.size ≤ w1.heap.size := (by omega)
  clear b_1
  go_wp2_with fail
  refine (HS.out w1 _ _ _ Os0.out (by omega) (by rw [← HL0.out]; omega)).mono ?_
  rintro e w2 ⟨qw, rfl, ow, b_2⟩
  obtain ⟨aow, gw, capw, ew, -, -, -⟩ := ow.view
  rw [← HRN.out] at ew
  have Ow := Lib.hid ow
  clear ow
  subst ew
  have z2 := b_2.size
  replace Os0 := Lib.hid (Os0.out.later b_2)
  replace BA : Hid (Below w.heap.size w w2) := BA.out.trans (b_2.mono (by omega))
  replace ZA : w.heap.size ≤ w2.heap.size := (by omega)
  clear b_2
  clear Os0
  go_wp2_with fail
  refine (toIntS_c 0 w.heap.size _ x0 w2 (HU0.out.below BA.out (Nat.le_refl _)) ZA (by rw [← HL0.out]; omega)).mono ?_
  rintro e w3 ⟨qi0, rfl, oi0, b_3⟩
  obtain ⟨aoi0, gi0, capi0, ei0, -, -, -⟩ := oi0.view
  rw [← HL0.out] at ei0
  have Oi0 := Lib.hid oi0
  clear oi0
  subst ei0
  have z3 := b_3.size
  replace Ow := Lib.hid (Ow.out.later b_3)
  replace BA : Hid (Below w.heap.size w w3) := BA.out.trans (b_3.mono (by omega))
  replace ZA : w.heap.size ≤ w3.heap.size := (by omega)
  clear b_3
  go_wp2_with fail
  refine (HI.out w3 _ _ _ Oi0.out (by omega) (by rw [← HL0.out]; omega)).mono ?_
  rintro e w4 ⟨qg, rfl, og, b_4⟩
  obtain ⟨aog, gg, capg, eg, -, -, -⟩ := og.view
  rw [← HRN.out] at eg
  have Og := Lib.hid og
  clear og
  subst eg
  have z4 := b_4.size
  replace Ow := Lib.hid (Ow.out.later b_4)
  replace Oi0 := Lib.hid (Oi0.out.later b_4)
  replace BA : Hid (Below w.heap.size w w4) := BA.out.trans (b_4.mono (by omega))
  replace ZA : w.heap.size ≤ w4.heap.size := (by omega)
  clear b_4
  go_wp2_with fail
  refine (eqIntS_c _ _ _ _ _ _ rx rx w4 Og.out Ow.out (by omega) (by omega) (by rw [← HRN.out]; omega)).mono ?_
  rintro e w5 ⟨rfl, b_5⟩
  rw [show decide (rx = rx) = true from by simp]
  have z5 := b_5.size
  replace Ow := Lib.hid (Ow.out.later b_5)
  replace Oi0 := Lib.hid (Oi0.out.later b_5)
  replace Og := Lib.hid (Og.out.later b_5)
  replace BA : Hid (Below w.heap.size w w5) := BA.out.trans (b_5.mono (by omega))
  replace ZA : w.heap.size ≤ w5.heap.size := (by omega)
  clear b_5
  go_wp2_with fail
  refine (toIntS_c 0 w.heap.size _ x0 w5 (HU0.out.below BA.out (Nat.le_refl _)) ZA (by rw [← HL0.out]; omega)).mono ?_
  rintro e w6 ⟨qc0, rfl, oc0, b_6⟩
  obtain ⟨aoc0, gc0, capc0, ec0, -, -, -⟩ := oc0.view
  rw [← HL0.out] at ec0
  have Oc0 := Lib.hid oc0
  clear oc0
  subst ec0
  have z6 := b_6.size
  replace Ow := Lib.hid (Ow.out.later b_6)
  replace Oi0 := Lib.hid (Oi0.out.later b_6)
  replace Og := Lib.hid (Og.out.later b_6)
  replace BA : Hid (Below w.heap.size w w6) := BA.out.trans (b_6.mono (by omega))
  replace ZA : w.heap.size ≤ w6.heap.size := (by omega)
  clear b_6
  go_wp2_with fail
  refine (eqIntS_c _ _ _ _ _ _ x0 x0 w6 Oi0.out Oc0.out (by omega) (by omega) (by rw [← HL0.out]; omega)).mono ?_
  rintro e w7 ⟨rfl, b_7⟩
  rw [show decide (x0 = x0) = true from by simp]
  have z7 := b_7.size
  replace Ow := Lib.hid (Ow.out.later b_7)
  replace Oi0 := Lib.hid (Oi0.out.later b_7)
  replace Og := Lib.hid (Og.out.later b_7)
  replace Oc0 := Lib.hid (Oc0.out.later b_7)
  replace BA : Hid (Below w.heap.size w w7) := BA.out.trans (b_7.mono (by omega))
  replace ZA : w.heap.size ≤ w7.heap.size := (by omega)
  clear b_7
  clear Oc0
  go_wp2_with fail
  refine (markIntS_c w2.heap.size w3.heap.size _ x0 1 w7 Oi0.out (by omega) (by rw [← HL0.out]; omega)).mono ?_
  rintro e w8 ⟨rfl, om8, bg8⟩
  have b_8 := Out.of_grown bg8 (fun k hk => ⟨(Own.row Oi0.out).lt k hk |>.1, Own.lt Oi0.out k hk⟩)
  clear bg8
  have z8 := b_8.size
  replace Ow := Lib.hid (b_8.own Ow.out (by omega))
  replace Og := Lib.hid (b_8.own Og.out (by omega))
  replace BA : Hid (Below w.heap.size w w8) := BA.out.trans (b_8.below (by omega) (by omega))
  replace ZA : w.heap.size ≤ w8.heap.size := (by omega)
  clear Oi0
  have Oi0 := Lib.hid om8
  clear om8 b_8
  rw [← HL0.out]
  clear Oi0
  go_wp2_with fail
  refine (eqIntS_c _ _ _ _ _ _ rx rx w8 Og.out Ow.out (by omega) (by omega) (by rw [← HRN.out]; omega)).mono ?_
  rintro e w9 ⟨rfl, b_9⟩
  rw [show decide (rx = rx) = true from by simp]
  have z9 := b_9.size
  replace Ow := Lib.hid (Ow.out.later b_9)
  replace Og := Lib.hid (Og.out.later b_9)
  replace BA : Hid (Below w.heap.size w w9) := BA.out.trans (b_9.mono (by omega))
  replace ZA : w.heap.size ≤ w9.heap.size := (by omega)
  clear b_9
  go_wp2_with fail
  refine (markIntS_c w3.heap.size w4.heap.size _ rx 1 w9 Og.out (by omega) (by rw [← HRN.out]; omega)).mono ?_
  rintro e w10 ⟨rfl, om10, bg10⟩
  have b_10 := Out.of_grown bg10 (fun k hk => ⟨(Own.row Og.out).lt k hk |>.1, Own.lt Og.out k hk⟩)
  clear bg10
  have z10 := b_10.size
  replace Ow := Lib.hid (b_10.own Ow.out (by omega))
  replace BA : Hid (Below w.heap.size w w10) := BA.out.trans (b_10.below (by omega) (by omega))
  replace ZA : w.heap.size ≤ w10.heap.size := (by omega)
  clear Og
  have Og := Lib.hid om10
  clear om10 b_10
  rw [← HRN.out]
  go_wp2_with fail
  refine (heldIntS_c w3.heap.size w4.heap.size _ _ 1 w10 Og.out (by omega) (by rw [← HRN.out]; omega)).mono ?_
  rintro e w11 ⟨rfl, hw11⟩
  subst hw11
  rw [← HRN.out]
  go_wp2_with fail
  refine (toIntS_c 0 w.heap.size _ x0 w10 (HU0.out.below BA.out (Nat.le_refl _)) ZA (by rw [← HL0.out]; omega)).mono ?_
  rintro e w11 ⟨qh0, rfl, oh0, b_11⟩
  obtain ⟨aoh0, gh0, caph0, eh0, -, -, -⟩ := oh0.view
  rw [← HL0.out] at eh0
  have Oh0 := Lib.hid oh0
  clear oh0
  subst eh0
  have z11 := b_11.size
  replace Ow := Lib.hid (Ow.out.later b_11)
  replace Og := Lib.hid (Og.out.later b_11)
  replace BA : Hid (Below w.heap.size w w11) := BA.out.trans (b_11.mono (by omega))
  replace ZA : w.heap.size ≤ w11.heap.size := (by omega)
  clear b_11
  go_wp2_with fail
  refine (HI.out w11 _ _ _ Oh0.out (by omega) (by rw [← HL0.out]; omega)).mono ?_
  rintro e w12 ⟨qk, rfl, ok, b_12⟩
  obtain ⟨aok, gk, capk, ek, -, -, -⟩ := ok.view
  rw [← HRN.out] at ek
  have Ok := Lib.hid ok
  clear ok
  subst ek
  have z12 := b_12.size
  replace Ow := Lib.hid (Ow.out.later b_12)
  replace Og := Lib.hid (Og.out.later b_12)
  replace Oh0 := Lib.hid (Oh0.out.later b_12)
  replace BA : Hid (Below w.heap.size w w12) := BA.out.trans (b_12.mono (by omega))
  replace ZA : w.heap.size ≤ w12.heap.size := (by omega)
  clear b_12
  clear Oh0
  go_wp2_with fail
  refine (eqIntS_c _ _ _ _ _ _ rx rx w12 Ok.out Ow.out (by omega) (by omega) (by rw [← HRN.out]; omega)).mono ?_
  rintro e w13 ⟨rfl, b_13⟩
  rw [show decide (rx = rx) = true from by simp]
  have z13 := b_13.size
  replace Ow := Lib.hid (Ow.out.later b_13)
  replace Og := Lib.hid (Og.out.later b_13)
  replace Ok := Lib.hid (Ok.out.later b_13)
  replace BA : Hid (Below w.heap.size w w13) := BA.out.trans (b_13.mono (by omega))
  replace ZA : w.heap.size ≤ w13.heap.size := (by omega)
  clear b_13
  go_wp2_with fail
  refine (heldIntS_c w3.heap.size w4.heap.size _ _ 1 w13 Og.out (by omega) (by rw [← HRN.out]; omega)).mono ?_
  rintro e w14 ⟨rfl, hw14⟩
  subst hw14
  rw [← HRN.out]
  go_wp2
  go_ret
  exact ⟨rfl, BA.out⟩
end Go.Proofs.Ytnheioohmcgpjaa
