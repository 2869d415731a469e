/- The walk of the law 'FnExactMergeLists': if the program's function and the reference's hand back the same, each in new memory, the law returns true. Conditions: the two contracts. -/
import Derived.Test.YtiodolbgapjmkaaTo
import Derived.Test.YtiodolbgapjmkaaOffs
import Derived.Test.YtiodolbgapjmkaaNetC
import Derived.Test.YtiodolbgapjmkaaRowApp
import Derived.Test.YtiodolbgapjmkaaInts
import Derived.Deep.RegionHeld3
namespace Go.Proofs.Ytiodolbgapjmkaa
open Go.RowKit
set_option maxRecDepth 100000

set_option maxHeartbeats 4000000 in
theorem FnExactMergeLists_core (w : World) (u0 : Value) (x0 : List Int) (hu0 : IntsV w 0 w.heap.size u0 x0) (hm0 : x0.length ≤ maxLen) (u1 : Value) (x1 : List Int) (hu1 : IntsV w 0 w.heap.size u1 x1) (hm1 : x1.length ≤ maxLen) (rx : List Int) (hsm : rx.length ≤ 1000000000)
    (hs : (∀ (w : World) (l0 h0 : Nat) (v0 : Value) (l1 h1 : Nat) (v1 : Value), OwnI w l0 h0 v0 x0 → h0 ≤ w.heap.size → x0.length ≤ 1048576 → OwnI w l1 h1 v1 x1 → h1 ≤ w.heap.size → x1.length ≤ 1048576 → Calls Try.prog 12 #[v0, v1] w (IntC w rx)))
    (hi : (∀ (w : World) (l0 h0 : Nat) (v0 : Value) (l1 h1 : Nat) (v1 : Value), OwnI w l0 h0 v0 x0 → h0 ≤ w.heap.size → x0.length ≤ 1048576 → OwnI w l1 h1 v1 x1 → h1 ≤ w.heap.size → x1.length ≤ 1048576 → Calls Try.prog 14 #[v0, v1] w (IntC w rx))) :
    Calls Try.prog 3 #[u0, u1] w fun e w' => e = .returned (.bool true) ∧ Below w.heap.size w w' := by
  have HS := Lib.hid hs
  have HI := Lib.hid hi
  have SM := Lib.hid hsm
  unfold maxLen at *
  have HU0 := Lib.hid hu0
  obtain ⟨ao0, b0, off0, cap0, e0, hcap0, -, -⟩ := hu0
  subst e0
  obtain ⟨n0, hnl0⟩ : ∃ n, n = x0.length := ⟨_, rfl⟩
  have HL0 := Lib.hid hnl0
  rw [← hnl0] at hm0 hcap0 HU0 ⊢
  clear hnl0
  have HU1 := Lib.hid hu1
  obtain ⟨ao1, b1, off1, cap1, e1, hcap1, -, -⟩ := hu1
  subst e1
  obtain ⟨n1, hnl1⟩ : ∃ n, n = x1.length := ⟨_, rfl⟩
  have HL1 := Lib.hid hnl1
  rw [← hnl1] at hm1 hcap1 HU1 ⊢
  clear hnl1
  obtain ⟨rn, hrn⟩ : ∃ n, n = rx.length := ⟨_, rfl⟩
  have HRN := Lib.hid hrn
  have hrl : rn ≤ 1000000000 := by omega
  clear hs hi hsm hrn
  by_cases hk0 : n0 ≤ 1048576
  rotate_left
  · have hk0' : (1048576 : Int) < (n0 : Int) := by omega
    clear HS HI
    go_enter Try.func3, Try.ntmps3
    go_wp2_with fail
    go_ret
    exact ⟨rfl, by first | exact Below.refl _ _ | exact (Below.refl _ _).alloc (Nat.le_refl _) _⟩
  have hk0' : ¬ (1048576 : Int) < (n0 : Int) := by omega
  by_cases hk1 : n1 ≤ 1048576
  rotate_left
  · have hk1' : (1048576 : Int) < (n1 : Int) := by omega
    clear HS HI
    go_enter Try.func3, Try.ntmps3
    go_wp2_with fail
    go_ret
    exact ⟨rfl, by first | exact Below.refl _ _ | exact (Below.refl _ _).alloc (Nat.le_refl _) _⟩
  have hk1' : ¬ (1048576 : Int) < (n1 : Int) := by omega
  go_enter Try.func3, Try.ntmps3
  have BA : Hid (Below w.heap.size w w) := Below.refl _ _
  have ZA : w.heap.size ≤ w.heap.size := Nat.le_refl _
  go_wp2_with fail
  refine (toIntS_c 0 w.heap.size _ x0 w (HU0.out.below BA.out (Nat.le_refl _)) ZA (by rw [← HL0.out]; omega)).mono ?_
  rintro e w1 ⟨qs0, rfl, os0, b_1⟩
  obtain ⟨aos0, gs0, caps0, es0, -, -, -⟩ := os0.view
  rw [← HL0.out] at es0
  have Os0 := Lib.hid os0
  clear os0
  subst es0
  have z1 := b_1.size
  replace BA : Hid (Below w.heap.size w w1) := BA.out.trans (b_1.mono (by omega))
  replace ZA : w.heap.size ≤ w1.heap.size := (by omega)
  clear b_1
  go_wp2_with fail
  refine (toIntS_c 0 w.heap.size _ x1 w1 (HU1.out.below BA.out (Nat.le_refl _)) ZA (by rw [← HL1.out]; omega)).mono ?_
  rintro e w2 ⟨qs1, rfl, os1, b_2⟩
  obtain ⟨aos1, gs1, caps1, es1, -, -, -⟩ := os1.view
  rw [← HL1.out] at es1
  have Os1 := Lib.hid os1
  clear os1
  subst es1
  have z2 := b_2.size
  replace Os0 := Lib.hid (Os0.out.later b_2)
  replace BA : Hid (Below w.heap.size w w2) := BA.out.trans (b_2.mono (by omega))
  replace ZA : w.heap.size ≤ w2.heap.size := (by omega)
  clear b_2
  go_wp2_with fail
  refine (HS.out w2 _ _ _ _ _ _ Os0.out (by omega) (by rw [← HL0.out]; omega) Os1.out (by omega) (by rw [← HL1.out]; omega)).mono ?_
  rintro e w3 ⟨qw, rfl, ow, b_3⟩
  obtain ⟨aow, gw, capw, ew, -, -, -⟩ := ow.view
  rw [← HRN.out] at ew
  have Ow := Lib.hid ow
  clear ow
  subst ew
  have z3 := b_3.size
  replace Os0 := Lib.hid (Os0.out.later b_3)
  replace Os1 := Lib.hid (Os1.out.later b_3)
  replace BA : Hid (Below w.heap.size w w3) := BA.out.trans (b_3.mono (by omega))
  replace ZA : w.heap.size ≤ w3.heap.size := (by omega)
  clear b_3
  clear Os0
  clear Os1
  go_wp2_with fail
  refine (toIntS_c 0 w.heap.size _ x0 w3 (HU0.out.below BA.out (Nat.le_refl _)) ZA (by rw [← HL0.out]; omega)).mono ?_
  rintro e w4 ⟨qi0, rfl, oi0, b_4⟩
  obtain ⟨aoi0, gi0, capi0, ei0, -, -, -⟩ := oi0.view
  rw [← HL0.out] at ei0
  have Oi0 := Lib.hid oi0
  clear oi0
  subst ei0
  have z4 := b_4.size
  replace Ow := Lib.hid (Ow.out.later b_4)
  replace BA : Hid (Below w.heap.size w w4) := BA.out.trans (b_4.mono (by omega))
  replace ZA : w.heap.size ≤ w4.heap.size := (by omega)
  clear b_4
  go_wp2_with fail
  refine (toIntS_c 0 w.heap.size _ x1 w4 (HU1.out.below BA.out (Nat.le_refl _)) ZA (by rw [← HL1.out]; omega)).mono ?_
  rintro e w5 ⟨qi1, rfl, oi1, b_5⟩
  obtain ⟨aoi1, gi1, capi1, ei1, -, -, -⟩ := oi1.view
  rw [← HL1.out] at ei1
  have Oi1 := Lib.hid oi1
  clear oi1
  subst ei1
  have z5 := b_5.size
  replace Ow := Lib.hid (Ow.out.later b_5)
  replace Oi0 := Lib.hid (Oi0.out.later b_5)
  replace BA : Hid (Below w.heap.size w w5) := BA.out.trans (b_5.mono (by omega))
  replace ZA : w.heap.size ≤ w5.heap.size := (by omega)
  clear b_5
  go_wp2_with fail
  refine (HI.out w5 _ _ _ _ _ _ Oi0.out (by omega) (by rw [← HL0.out]; omega) Oi1.out (by omega) (by rw [← HL1.out]; omega)).mono ?_
  rintro e w6 ⟨qg, rfl, og, b_6⟩
  obtain ⟨aog, gg, capg, eg, -, -, -⟩ := og.view
  rw [← HRN.out] at eg
  have Og := Lib.hid og
  clear og
  subst eg
  have z6 := b_6.size
  replace Ow := Lib.hid (Ow.out.later b_6)
  replace Oi0 := Lib.hid (Oi0.out.later b_6)
  replace Oi1 := Lib.hid (Oi1.out.later b_6)
  replace BA : Hid (Below w.heap.size w w6) := BA.out.trans (b_6.mono (by omega))
  replace ZA : w.heap.size ≤ w6.heap.size := (by omega)
  clear b_6
  go_wp2_with fail
  refine (eqIntS_c _ _ _ _ _ _ rx rx w6 Og.out Ow.out (by omega) (by omega) (by rw [← HRN.out]; omega)).mono ?_
  rintro e w7 ⟨rfl, b_7⟩
  rw [show decide (rx = rx) = true from by simp]
  have z7 := b_7.size
  replace Ow := Lib.hid (Ow.out.later b_7)
  replace Oi0 := Lib.hid (Oi0.out.later b_7)
  replace Oi1 := Lib.hid (Oi1.out.later b_7)
  replace Og := Lib.hid (Og.out.later b_7)
  replace BA : Hid (Below w.heap.size w w7) := BA.out.trans (b_7.mono (by omega))
  replace ZA : w.heap.size ≤ w7.heap.size := (by omega)
  clear b_7
  go_wp2_with fail
  refine (toIntS_c 0 w.heap.size _ x0 w7 (HU0.out.below BA.out (Nat.le_refl _)) ZA (by rw [← HL0.out]; omega)).mono ?_
  rintro e w8 ⟨qc0, rfl, oc0, b_8⟩
  obtain ⟨aoc0, gc0, capc0, ec0, -, -, -⟩ := oc0.view
  rw [← HL0.out] at ec0
  have Oc0 := Lib.hid oc0
  clear oc0
  subst ec0
  have z8 := b_8.size
  replace Ow := Lib.hid (Ow.out.later b_8)
  replace Oi0 := Lib.hid (Oi0.out.later b_8)
  replace Oi1 := Lib.hid (Oi1.out.later b_8)
  replace Og := Lib.hid (Og.out.later b_8)
  replace BA : Hid (Below w.heap.size w w8) := BA.out.trans (b_8.mono (by omega))
  replace ZA : w.heap.size ≤ w8.heap.size := (by omega)
  clear b_8
  go_wp2_with fail
  refine (eqIntS_c _ _ _ _ _ _ x0 x0 w8 Oi0.out Oc0.out (by omega) (by omega) (by rw [← HL0.out]; omega)).mono ?_
  rintro e w9 ⟨rfl, b_9⟩
  rw [show decide (x0 = x0) = true from by simp]
  have z9 := b_9.size
  replace Ow := Lib.hid (Ow.out.later b_9)
  replace Oi0 := Lib.hid (Oi0.out.later b_9)
  replace Oi1 := Lib.hid (Oi1.out.later b_9)
  replace Og := Lib.hid (Og.out.later b_9)
  replace Oc0 := Lib.hid (Oc0.out.later b_9)
  replace BA : Hid (Below w.heap.size w w9) := BA.out.trans (b_9.mono (by omega))
  replace ZA : w.heap.size ≤ w9.heap.size := (by omega)
  clear b_9
  clear Oc0
  go_wp2_with fail
  refine (toIntS_c 0 w.heap.size _ x1 w9 (HU1.out.below BA.out (Nat.le_refl _)) ZA (by rw [← HL1.out]; omega)).mono ?_
  rintro e w10 ⟨qc1, rfl, oc1, b_10⟩
  obtain ⟨aoc1, gc1, capc1, ec1, -, -, -⟩ := oc1.view
  rw [← HL1.out] at ec1
  have Oc1 := Lib.hid oc1
  clear oc1
  subst ec1
  have z10 := b_10.size
  replace Ow := Lib.hid (Ow.out.later b_10)
  replace Oi0 := Lib.hid (Oi0.out.later b_10)
  replace Oi1 := Lib.hid (Oi1.out.later b_10)
  replace Og := Lib.hid (Og.out.later b_10)
  replace BA : Hid (Below w.heap.size w w10) := BA.out.trans (b_10.mono (by omega))
  replace ZA : w.heap.size ≤ w10.heap.size := (by omega)
  clear b_10
  go_wp2_with fail
  refine (eqIntS_c _ _ _ _ _ _ x1 x1 w10 Oi1.out Oc1.out (by omega) (by omega) (by rw [← HL1.out]; omega)).mono ?_
  rintro e w11 ⟨rfl, b_11⟩
  rw [show decide (x1 = x1) = true from by simp]
  have z11 := b_11.size
  replace Ow := Lib.hid (Ow.out.later b_11)
  replace Oi0 := Lib.hid (Oi0.out.later b_11)
  replace Oi1 := Lib.hid (Oi1.out.later b_11)
  replace Og := Lib.hid (Og.out.later b_11)
  replace Oc1 := Lib.hid (Oc1.out.later b_11)
  replace BA : Hid (Below w.heap.size w w11) := BA.out.trans (b_11.mono (by omega))
  replace ZA : w.heap.size ≤ w11.heap.size := (by omega)
  clear b_11
  clear Oc1
  go_wp2_with fail
  refine (markIntS_c w3.heap.size w4.heap.size _ x0 1 w11 Oi0.out (by omega) (by rw [← HL0.out]; omega)).mono ?_
  rintro e w12 ⟨rfl, om12, bg12⟩
  have b_12 := Out.of_grown bg12 (fun k hk => ⟨(Own.row Oi0.out).lt k hk |>.1, Own.lt Oi0.out k hk⟩)
  clear bg12
  have z12 := b_12.size
  replace Ow := Lib.hid (b_12.own Ow.out (by omega))
  replace Oi1 := Lib.hid (b_12.own Oi1.out (by omega))
  replace Og := Lib.hid (b_12.own Og.out (by omega))
  replace BA : Hid (Below w.heap.size w w12) := BA.out.trans (b_12.below (by omega) (by omega))
  replace ZA : w.heap.size ≤ w12.heap.size := (by omega)
  clear Oi0
  have Oi0 := Lib.hid om12
  clear om12 b_12
  rw [← HL0.out]
  clear Oi0
  go_wp2_with fail
  refine (markIntS_c w4.heap.size w5.heap.size _ x1 (1 + (n0 : Int)) w12 Oi1.out (by omega) (by rw [← HL1.out]; omega)).mono ?_
  rintro e w13 ⟨rfl, om13, bg13⟩
  have b_13 := Out.of_grown bg13 (fun k hk => ⟨(Own.row Oi1.out).lt k hk |>.1, Own.lt Oi1.out k hk⟩)
  clear bg13
  have z13 := b_13.size
  replace Ow := Lib.hid (b_13.own Ow.out (by omega))
  replace Og := Lib.hid (b_13.own Og.out (by omega))
  replace BA : Hid (Below w.heap.size w w13) := BA.out.trans (b_13.below (by omega) (by omega))
  replace ZA : w.heap.size ≤ w13.heap.size := (by omega)
  clear Oi1
  have Oi1 := Lib.hid om13
  clear om13 b_13
  rw [← HL1.out]
  clear Oi1
  go_wp2_with fail
  refine (eqIntS_c _ _ _ _ _ _ rx rx w13 Og.out Ow.out (by omega) (by omega) (by rw [← HRN.out]; omega)).mono ?_
  rintro e w14 ⟨rfl, b_14⟩
  rw [show decide (rx = rx) = true from by simp]
  have z14 := b_14.size
  replace Ow := Lib.hid (Ow.out.later b_14)
  replace Og := Lib.hid (Og.out.later b_14)
  replace BA : Hid (Below w.heap.size w w14) := BA.out.trans (b_14.mono (by omega))
  replace ZA : w.heap.size ≤ w14.heap.size := (by omega)
  clear b_14
  go_wp2_with fail
  refine (markIntS_c w5.heap.size w6.heap.size _ rx 1 w14 Og.out (by omega) (by rw [← HRN.out]; omega)).mono ?_
  rintro e w15 ⟨rfl, om15, bg15⟩
  have b_15 := Out.of_grown bg15 (fun k hk => ⟨(Own.row Og.out).lt k hk |>.1, Own.lt Og.out k hk⟩)
  clear bg15
  have z15 := b_15.size
  replace Ow := Lib.hid (b_15.own Ow.out (by omega))
  replace BA : Hid (Below w.heap.size w w15) := BA.out.trans (b_15.below (by omega) (by omega))
  replace ZA : w.heap.size ≤ w15.heap.size := (by omega)
  clear Og
  have Og := Lib.hid om15
  clear om15 b_15
  rw [← HRN.out]
  go_wp2_with fail
  refine (heldIntS_c w5.heap.size w6.heap.size _ _ 1 w15 Og.out (by omega) (by rw [← HRN.out]; omega)).mono ?_
  rintro e w16 ⟨rfl, hw16⟩
  subst hw16
  rw [← HRN.out]
  go_wp2_with fail
  refine (toIntS_c 0 w.heap.size _ x0 w15 (HU0.out.below BA.out (Nat.le_refl _)) ZA (by rw [← HL0.out]; omega)).mono ?_
  rintro e w16 ⟨qh0, rfl, oh0, b_16⟩
  obtain ⟨aoh0, gh0, caph0, eh0, -, -, -⟩ := oh0.view
  rw [← HL0.out] at eh0
  have Oh0 := Lib.hid oh0
  clear oh0
  subst eh0
  have z16 := b_16.size
  replace Ow := Lib.hid (Ow.out.later b_16)
  replace Og := Lib.hid (Og.out.later b_16)
  replace BA : Hid (Below w.heap.size w w16) := BA.out.trans (b_16.mono (by omega))
  replace ZA : w.heap.size ≤ w16.heap.size := (by omega)
  clear b_16
  go_wp2_with fail
  refine (toIntS_c 0 w.heap.size _ x1 w16 (HU1.out.below BA.out (Nat.le_refl _)) ZA (by rw [← HL1.out]; omega)).mono ?_
  rintro e w17 ⟨qh1, rfl, oh1, b_17⟩
  obtain ⟨aoh1, gh1, caph1, eh1, -, -, -⟩ := oh1.view
  rw [← HL1.out] at eh1
  have Oh1 := Lib.hid oh1
  clear oh1
  subst eh1
  have z17 := b_17.size
  replace Ow := Lib.hid (Ow.out.later b_17)
  replace Og := Lib.hid (Og.out.later b_17)
  replace Oh0 := Lib.hid (Oh0.out.later b_17)
  replace BA : Hid (Below w.heap.size w w17) := BA.out.trans (b_17.mono (by omega))
  replace ZA : w.heap.size ≤ w17.heap.size := (by omega)
  clear b_17
  go_wp2_with fail
  refine (HI.out w17 _ _ _ _ _ _ Oh0.out (by omega) (by rw [← HL0.out]; omega) Oh1.out (by omega) (by rw [← HL1.out]; omega)).mono ?_
  rintro e w18 ⟨qk, rfl, ok, b_18⟩
  obtain ⟨aok, gk, capk, ek, -, -, -⟩ := ok.view
  rw [← HRN.out] at ek
  have Ok := Lib.hid ok
  clear ok
  subst ek
  have z18 := b_18.size
  replace Ow := Lib.hid (Ow.out.later b_18)
  replace Og := Lib.hid (Og.out.later b_18)
  replace Oh0 := Lib.hid (Oh0.out.later b_18)
  replace Oh1 := Lib.hid (Oh1.out.later b_18)
  replace BA : Hid (Below w.heap.size w w18) := BA.out.trans (b_18.mono (by omega))
  replace ZA : w.heap.size ≤ w18.heap.size := (by omega)
  clear b_18
  clear Oh0
  clear Oh1
  go_wp2_with fail
  refine (eqIntS_c _ _ _ _ _ _ rx rx w18 Ok.out Ow.out (by omega) (by omega) (by rw [← HRN.out]; omega)).mono ?_
  rintro e w19 ⟨rfl, b_19⟩
  rw [show decide (rx = rx) = true from by simp]
  have z19 := b_19.size
  replace Ow := Lib.hid (Ow.out.later b_19)
  replace Og := Lib.hid (Og.out.later b_19)
  replace Ok := Lib.hid (Ok.out.later b_19)
  replace BA : Hid (Below w.heap.size w w19) := BA.out.trans (b_19.mono (by omega))
  replace ZA : w.heap.size ≤ w19.heap.size := (by omega)
  clear b_19
  go_wp2_with fail
  refine (heldIntS_c w5.heap.size w6.heap.size _ _ 1 w19 Og.out (by omega) (by rw [← HRN.out]; omega)).mono ?_
  rintro e w20 ⟨rfl, hw20⟩
  subst hw20
  rw [← HRN.out]
  go_wp2
  go_ret
  exact ⟨rfl, BA.out⟩
end Go.Proofs.Ytiodolbgapjmkaa
