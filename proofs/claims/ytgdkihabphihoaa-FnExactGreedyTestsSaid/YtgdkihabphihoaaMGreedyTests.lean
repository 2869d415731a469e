/- The walk of the law 'FnExactGreedyTests': if the program's function and the reference's hand back the same, each in new memory, the law returns true. Conditions: the two contracts. -/
import Derived.Test.YtgdkihabphihoaaTo
import Derived.Test.YtgdkihabphihoaaOffs
import Derived.Test.YtgdkihabphihoaaNetC
import Derived.Test.YtgdkihabphihoaaRowApp
import Derived.Test.YtgdkihabphihoaaInts
import Derived.Deep.RegionHeld3
namespace Go.Proofs.Ytgdkihabphihoaa
open Go.RowKit
set_option maxRecDepth 100000

set_option maxHeartbeats 4000000 in
theorem FnExactGreedyTests_core (w : World) (a0 : Int) (u0 : Value) (us0 : List Value) (x0 : List (List Int)) (hu0 : RowsV w 0 w.heap.size u0 us0 x0) (hm0 : x0.length ≤ maxLen) (hn0 : ∀ xs ∈ x0, xs.length ≤ maxLen) (rx : List Int) (hsm : rx.length ≤ 1000000000)
    (hs : (∀ (w : World) (l0 h0 : Nat) (v0 : Value) (vs0 : List Value), OwnR w l0 h0 v0 vs0 x0 → h0 ≤ w.heap.size → x0.length ≤ 1048576 → Calls Try.prog 20 #[.agg #[.int .i64 a0, v0]] w (IntC w rx)))
    (hi : (∀ (w : World) (l0 h0 : Nat) (v0 : Value) (vs0 : List Value), OwnR w l0 h0 v0 vs0 x0 → h0 ≤ w.heap.size → x0.length ≤ 1048576 → Calls Try.prog 21 #[.agg #[.int .i64 a0, v0]] w (IntC w rx))) :
    Calls Try.prog 4 #[.agg #[.int .i64 a0, u0]] w fun e w' => e = .returned (.bool true) ∧ Below w.heap.size w w' := by
  have HS := Lib.hid hs
  have HI := Lib.hid hi
  have SM := Lib.hid hsm
  unfold maxLen at *
  have HU0 := Lib.hid hu0
  have HN0 := Lib.hid hn0
  obtain ⟨ao0, b0, off0, cap0, e0, hcap0, -, -, -⟩ := hu0
  subst e0
  clear hn0
  obtain ⟨n0, hnl0⟩ : ∃ n, n = x0.length := ⟨_, rfl⟩
  have HL0 := Lib.hid hnl0
  rw [← hnl0] at hm0 hcap0 HU0 ⊢
  clear hnl0
  obtain ⟨rn, hrn⟩ : ∃ n, n = rx.length := ⟨_, rfl⟩
  have HRN := Lib.hid hrn
  have hrl : rn ≤ 1000000000 := by omega
  clear hs hi hsm hrn
  go_enter Try.func4, Try.ntmps4
  have BA : Hid (Below w.heap.size w w) := Below.refl _ _
  have ZA : w.heap.size ≤ w.heap.size := Nat.le_refl _
  go_wp2_with fail
  obtain ⟨w1, hW1, ca00, ca01, hz1, b_1, -, -⟩ := box2 w (.int .i64 a0) (.slice ao0 n0 cap0) 24
  rw [hW1]
  clear hW1
  have z1 := b_1.size
  replace BA : Hid (Below w.heap.size w w1) := BA.out.trans (b_1.mono (by omega))
  replace ZA : w.heap.size ≤ w1.heap.size := (by omega)
  have zz1 : w.heap.size < w1.heap.size := (by omega)
  have ya0 : w.heap.size < w1.heap.size := (by omega)
  clear b_1 hz1
  refine (szNetwork_c 0 w.heap.size a0 _ us0 x0 w1 (HU0.out.later BA.out (Nat.le_refl _)) ZA (by rw [← HL0.out]; exact hm0) (fun xs hx => HN0.out xs hx)).mono ?_
  rintro e w2 ⟨s2, rfl, b_2, hr2⟩
  have z2 := b_2.size
  replace ca00 := (b_2.cell (p := ⟨w.heap.size, 0, none⟩) (by show w.heap.size < _; omega)).trans ca00
  replace ca01 := (b_2.cell (p := ⟨w.heap.size, 1, none⟩) (by show w.heap.size < _; omega)).trans ca01
  replace BA : Hid (Below w.heap.size w w2) := BA.out.trans (b_2.mono (by omega))
  replace ZA : w.heap.size ≤ w2.heap.size := (by omega)
  replace ya0 : w.heap.size < w2.heap.size := (by omega)
  by_cases hs2 : s2 < 0
  · go_wp2
    go_ret
    exact ⟨rfl, BA.out⟩
  obtain ⟨hq0, hr0⟩ := hr2 (by omega)
  have HQ0 := Lib.hid hr0
  have HOF0 := Lib.hid (offs_bound hq0 hr0)
  rw [← HL0.out] at hq0
  clear hr0 b_2
  go_wp2_with fail
  refine (toNetwork_c 0 w.heap.size a0 _ us0 x0 w2 (HU0.out.later BA.out (Nat.le_refl _)) ZA (by rw [← HL0.out]; omega) HQ0.out).mono ?_
  rintro e w3 ⟨qs0, qss0, rfl, os0, b_3⟩
  obtain ⟨aos0, gs0, caps0, es0, -, -, -⟩ := os0.rows
  rw [← HL0.out] at es0
  have Os0 := Lib.hid os0
  clear os0
  subst es0
  have z3 := b_3.size
  replace ca00 := (b_3.cell (p := ⟨w.heap.size, 0, none⟩) (by show w.heap.size < _; omega)).trans ca00
  replace ca01 := (b_3.cell (p := ⟨w.heap.size, 1, none⟩) (by show w.heap.size < _; omega)).trans ca01
  replace BA : Hid (Below w.heap.size w w3) := BA.out.trans (b_3.mono (by omega))
  replace ZA : w.heap.size ≤ w3.heap.size := (by omega)
  replace ya0 : w.heap.size < w3.heap.size := (by omega)
  clear b_3
  go_wp2_with fail
  refine (HS.out w3 _ _ _ _ Os0.out (by omega) (by rw [← HL0.out]; omega)).mono ?_
  rintro e w4 ⟨qw, rfl, ow, b_4⟩
  obtain ⟨aow, gw, capw, ew, -, -, -⟩ := ow.view
  rw [← HRN.out] at ew
  have Ow := Lib.hid ow
  clear ow
  subst ew
  have z4 := b_4.size
  replace Os0 := Lib.hid (Os0.out.later b_4)
  replace ca00 := (b_4.cell (p := ⟨w.heap.size, 0, none⟩) (by show w.heap.size < _; omega)).trans ca00
  replace ca01 := (b_4.cell (p := ⟨w.heap.size, 1, none⟩) (by show w.heap.size < _; omega)).trans ca01
  replace BA : Hid (Below w.heap.size w w4) := BA.out.trans (b_4.mono (by omega))
  replace ZA : w.heap.size ≤ w4.heap.size := (by omega)
  replace ya0 : w.heap.size < w4.heap.size := (by omega)
  clear b_4
  clear Os0
  go_wp2_with fail
  refine (toNetwork_c 0 w.heap.size a0 _ us0 x0 w4 (HU0.out.later BA.out (Nat.le_refl _)) ZA (by rw [← HL0.out]; omega) HQ0.out).mono ?_
  rintro e w5 ⟨qi0, qsi0, rfl, oi0, b_5⟩
  obtain ⟨aoi0, gi0, capi0, ei0, -, -, -⟩ := oi0.rows
  rw [← HL0.out] at ei0
  have Oi0 := Lib.hid oi0
  clear oi0
  subst ei0
  have z5 := b_5.size
  replace Ow := Lib.hid (Ow.out.later b_5)
  replace ca00 := (b_5.cell (p := ⟨w.heap.size, 0, none⟩) (by show w.heap.size < _; omega)).trans ca00
  replace ca01 := (b_5.cell (p := ⟨w.heap.size, 1, none⟩) (by show w.heap.size < _; omega)).trans ca01
  replace BA : Hid (Below w.heap.size w w5) := BA.out.trans (b_5.mono (by omega))
  replace ZA : w.heap.size ≤ w5.heap.size := (by omega)
  replace ya0 : w.heap.size < w5.heap.size := (by omega)
  clear b_5
  go_wp2_with fail
  obtain ⟨w6, hW6, cx00, cx01, hz6, b_6, -, -⟩ := box2 w5 (.int .i64 a0) (.slice aoi0 n0 capi0) 27
  rw [hW6]
  clear hW6
  have z6 := b_6.size
  replace Ow := Lib.hid (Ow.out.later b_6)
  replace Oi0 := Lib.hid (Oi0.out.later b_6)
  replace ca00 := (b_6.cell (p := ⟨w.heap.size, 0, none⟩) (by show w.heap.size < _; omega)).trans ca00
  replace ca01 := (b_6.cell (p := ⟨w.heap.size, 1, none⟩) (by show w.heap.size < _; omega)).trans ca01
  replace BA : Hid (Below w.heap.size w w6) := BA.out.trans (b_6.mono (by omega))
  replace ZA : w.heap.size ≤ w6.heap.size := (by omega)
  replace ya0 : w.heap.size < w6.heap.size := (by omega)
  have zz6 : w5.heap.size < w6.heap.size := (by omega)
  have yx0 : w5.heap.size < w6.heap.size := (by omega)
  clear b_6 hz6
  go_wp2_with fail
  refine (HI.out w6 _ _ _ _ Oi0.out (by omega) (by rw [← HL0.out]; omega)).mono ?_
  rintro e w7 ⟨qg, rfl, og, b_7⟩
  obtain ⟨aog, gg, capg, eg, -, -, -⟩ := og.view
  rw [← HRN.out] at eg
  have Og := Lib.hid og
  clear og
  subst eg
  have z7 := b_7.size
  replace Ow := Lib.hid (Ow.out.later b_7)
  replace Oi0 := Lib.hid (Oi0.out.later b_7)
  replace ca00 := (b_7.cell (p := ⟨w.heap.size, 0, none⟩) (by show w.heap.size < _; omega)).trans ca00
  replace ca01 := (b_7.cell (p := ⟨w.heap.size, 1, none⟩) (by show w.heap.size < _; omega)).trans ca01
  replace cx00 := (b_7.cell (p := ⟨w5.heap.size, 0, none⟩) (by show w5.heap.size < _; omega)).trans cx00
  replace cx01 := (b_7.cell (p := ⟨w5.heap.size, 1, none⟩) (by show w5.heap.size < _; omega)).trans cx01
  replace BA : Hid (Below w.heap.size w w7) := BA.out.trans (b_7.mono (by omega))
  replace ZA : w.heap.size ≤ w7.heap.size := (by omega)
  replace ya0 : w.heap.size < w7.heap.size := (by omega)
  replace yx0 : w5.heap.size < w7.heap.size := (by omega)
  clear b_7
  go_wp2_with fail
  refine (eqIntS_c _ _ _ _ _ _ rx rx w7 Og.out Ow.out (by omega) (by omega) (by rw [← HRN.out]; omega)).mono ?_
  rintro e w8 ⟨rfl, b_8⟩
  rw [show decide (rx = rx) = true from by simp]
  have z8 := b_8.size
  replace Ow := Lib.hid (Ow.out.later b_8)
  replace Oi0 := Lib.hid (Oi0.out.later b_8)
  replace Og := Lib.hid (Og.out.later b_8)
  replace ca00 := (b_8.cell (p := ⟨w.heap.size, 0, none⟩) (by show w.heap.size < _; omega)).trans ca00
  replace ca01 := (b_8.cell (p := ⟨w.heap.size, 1, none⟩) (by show w.heap.size < _; omega)).trans ca01
  replace cx00 := (b_8.cell (p := ⟨w5.heap.size, 0, none⟩) (by show w5.heap.size < _; omega)).trans cx00
  replace cx01 := (b_8.cell (p := ⟨w5.heap.size, 1, none⟩) (by show w5.heap.size < _; omega)).trans cx01
  replace BA : Hid (Below w.heap.size w w8) := BA.out.trans (b_8.mono (by omega))
  replace ZA : w.heap.size ≤ w8.heap.size := (by omega)
  replace ya0 : w.heap.size < w8.heap.size := (by omega)
  replace yx0 : w5.heap.size < w8.heap.size := (by omega)
  clear b_8
  go_wp2_with fail
  have b_9 : Below w8.heap.size w8 w8.drew := (Below.refl _ _).drew
  have z9 := b_9.size
  replace Ow := Lib.hid (Ow.out.later b_9)
  replace Oi0 := Lib.hid (Oi0.out.later b_9)
  replace Og := Lib.hid (Og.out.later b_9)
  replace ca00 := (b_9.cell (p := ⟨w.heap.size, 0, none⟩) (by show w.heap.size < _; omega)).trans ca00
  replace ca01 := (b_9.cell (p := ⟨w.heap.size, 1, none⟩) (by show w.heap.size < _; omega)).trans ca01
  replace cx00 := (b_9.cell (p := ⟨w5.heap.size, 0, none⟩) (by show w5.heap.size < _; omega)).trans cx00
  replace cx01 := (b_9.cell (p := ⟨w5.heap.size, 1, none⟩) (by show w5.heap.size < _; omega)).trans cx01
  replace BA : Hid (Below w.heap.size w w8.drew) := BA.out.trans (b_9.mono (by omega))
  replace ZA : w.heap.size ≤ w8.drew.heap.size := (by omega)
  replace ya0 : w.heap.size < w8.drew.heap.size := (by omega)
  replace yx0 : w5.heap.size < w8.drew.heap.size := (by omega)
  have zd9 : w8.drew.heap.size = w8.heap.size := rfl
  clear b_9
  go_region_held3 (fun W' => W'.cell? ⟨w.heap.size, 0, none⟩ = some (.int .i64 a0) ∧ W'.cell? ⟨w.heap.size, 1, none⟩ = some (.slice ao0 n0 cap0) ∧ W'.cell? ⟨w5.heap.size, 0, none⟩ = some (.int .i64 a0) ∧ W'.cell? ⟨w5.heap.size, 1, none⟩ = some (.slice aoi0 n0 capi0)) (refine ⟨?_, ?_, ?_, ?_⟩ <;> with_reducible assumption) (first | (go_at_call 19; refine (eqNetwork_c _ _ _ _ a0 a0 _ _ _ _ x0 x0 w10 Oi0.out Oc0.out (by omega) (by omega) (by rw [← HL0.out]; omega) (fun xs hx => by have := HQ0.out xs hx; omega)).mono ?_; rintro e w11 ⟨rfl, b_11⟩; rw [show decide (a0 = a0 ∧ x0 = x0) = true from by simp]; have z11 := b_11.size; replace Ow := Lib.hid (Ow.out.later b_11); replace Oi0 := Lib.hid (Oi0.out.later b_11); replace Og := Lib.hid (Og.out.later b_11); replace Oc0 := Lib.hid (Oc0.out.later b_11); replace ca00 := (b_11.cell (p := ⟨w.heap.size, 0, none⟩) (by show w.heap.size < _; omega)).trans ca00; replace ca01 := (b_11.cell (p := ⟨w.heap.size, 1, none⟩) (by show w.heap.size < _; omega)).trans ca01; replace cx00 := (b_11.cell (p := ⟨w5.heap.size, 0, none⟩) (by show w5.heap.size < _; omega)).trans cx00; replace cx01 := (b_11.cell (p := ⟨w5.heap.size, 1, none⟩) (by show w5.heap.size < _; omega)).trans cx01; replace BA : Hid (Below w.heap.size w w11) := BA.out.trans (b_11.mono (by omega)); replace ZA : w.heap.size ≤ w11.heap.size := (by omega); replace ya0 : w.heap.size < w11.heap.size := (by omega); replace yx0 : w5.heap.size < w11.heap.size := (by omega); clear b_11) | (go_at_call 17; refine (toNetwork_c 0 w.heap.size a0 _ us0 x0 w8.drew (HU0.out.later BA.out (Nat.le_refl _)) ZA (by rw [← HL0.out]; omega) HQ0.out).mono ?_; rintro e w10 ⟨qc0, qsc0, rfl, oc0, b_10⟩; obtain ⟨aoc0, gc0, capc0, ec0, -, -, -⟩ := oc0.rows; rw [← HL0.out] at ec0; have Oc0 := Lib.hid oc0; clear oc0; subst ec0; have z10 := b_10.size; replace Ow := Lib.hid (Ow.out.later b_10); replace Oi0 := Lib.hid (Oi0.out.later b_10); replace Og := Lib.hid (Og.out.later b_10); replace ca00 := (b_10.cell (p := ⟨w.heap.size, 0, none⟩) (by show w.heap.size < _; omega)).trans ca00; replace ca01 := (b_10.cell (p := ⟨w.heap.size, 1, none⟩) (by show w.heap.size < _; omega)).trans ca01; replace cx00 := (b_10.cell (p := ⟨w5.heap.size, 0, none⟩) (by show w5.heap.size < _; omega)).trans cx00; replace cx01 := (b_10.cell (p := ⟨w5.heap.size, 1, none⟩) (by show w5.heap.size < _; omega)).trans cx01; replace BA : Hid (Below w.heap.size w w10) := BA.out.trans (b_10.mono (by omega)); replace ZA : w.heap.size ≤ w10.heap.size := (by omega); replace ya0 : w.heap.size < w10.heap.size := (by omega); replace yx0 : w5.heap.size < w10.heap.size := (by omega); clear b_10) | fail)
  clear Oc0
  go_wp2_with fail
  refine (markNetwork_c w4.heap.size w5.heap.size a0 _ _ x0 1 w11 Oi0.out (by omega) (by omega) (by have := HOF0.out; omega) (by rw [← HL0.out]; omega)).mono ?_
  rintro e w12 ⟨rfl, om12, b_12⟩
  have z12 := b_12.size
  replace Ow := Lib.hid (b_12.own Ow.out (by omega))
  replace Og := Lib.hid (b_12.own Og.out (by omega))
  replace ca00 := (b_12.cell (p := ⟨w.heap.size, 0, none⟩) (by show w.heap.size < _; omega) (by show w.heap.size < _ ∨ _ ≤ w.heap.size; omega)).trans ca00
  replace ca01 := (b_12.cell (p := ⟨w.heap.size, 1, none⟩) (by show w.heap.size < _; omega) (by show w.heap.size < _ ∨ _ ≤ w.heap.size; omega)).trans ca01
  replace cx00 := (b_12.cell (p := ⟨w5.heap.size, 0, none⟩) (by show w5.heap.size < _; omega) (by show w5.heap.size < _ ∨ _ ≤ w5.heap.size; omega)).trans cx00
  replace cx01 := (b_12.cell (p := ⟨w5.heap.size, 1, none⟩) (by show w5.heap.size < _; omega) (by show w5.heap.size < _ ∨ _ ≤ w5.heap.size; omega)).trans cx01
  replace BA : Hid (Below w.heap.size w w12) := BA.out.trans (b_12.below (by omega) (by omega))
  replace ZA : w.heap.size ≤ w12.heap.size := (by omega)
  replace ya0 : w.heap.size < w12.heap.size := (by omega)
  replace yx0 : w5.heap.size < w12.heap.size := (by omega)
  clear Oi0
  have Oi0 := Lib.hid om12
  clear om12 b_12
  obtain ⟨of0, hof0⟩ : ∃ n, n = offs x0 x0.length := ⟨_, rfl⟩
  have hofl0 : of0 ≤ 1099511627776 := (by have := HOF0.out; omega)
  rw [← hof0]
  clear hof0
  clear Oi0
  go_wp2_with fail
  refine (eqIntS_c _ _ _ _ _ _ rx rx w12 Og.out Ow.out (by omega) (by omega) (by rw [← HRN.out]; omega)).mono ?_
  rintro e w13 ⟨rfl, b_13⟩
  rw [show decide (rx = rx) = true from by simp]
  have z13 := b_13.size
  replace Ow := Lib.hid (Ow.out.later b_13)
  replace Og := Lib.hid (Og.out.later b_13)
  replace ca00 := (b_13.cell (p := ⟨w.heap.size, 0, none⟩) (by show w.heap.size < _; omega)).trans ca00
  replace ca01 := (b_13.cell (p := ⟨w.heap.size, 1, none⟩) (by show w.heap.size < _; omega)).trans ca01
  replace cx00 := (b_13.cell (p := ⟨w5.heap.size, 0, none⟩) (by show w5.heap.size < _; omega)).trans cx00
  replace cx01 := (b_13.cell (p := ⟨w5.heap.size, 1, none⟩) (by show w5.heap.size < _; omega)).trans cx01
  replace BA : Hid (Below w.heap.size w w13) := BA.out.trans (b_13.mono (by omega))
  replace ZA : w.heap.size ≤ w13.heap.size := (by omega)
  replace ya0 : w.heap.size < w13.heap.size := (by omega)
  replace yx0 : w5.heap.size < w13.heap.size := (by omega)
  clear b_13
  go_wp2_with fail
  refine (markIntS_c w6.heap.size w7.heap.size _ rx 1 w13 Og.out (by omega) (by rw [← HRN.out]; omega)).mono ?_
  rintro e w14 ⟨rfl, om14, bg14⟩
  have b_14 := Out.of_grown bg14 (fun k hk => ⟨(Own.row Og.out).lt k hk |>.1, Own.lt Og.out k hk⟩)
  clear bg14
  have z14 := b_14.size
  replace Ow := Lib.hid (b_14.own Ow.out (by omega))
  replace ca00 := (b_14.cell (p := ⟨w.heap.size, 0, none⟩) (by show w.heap.size < _; omega) (by show w.heap.size < _ ∨ _ ≤ w.heap.size; omega)).trans ca00
  replace ca01 := (b_14.cell (p := ⟨w.heap.size, 1, none⟩) (by show w.heap.size < _; omega) (by show w.heap.size < _ ∨ _ ≤ w.heap.size; omega)).trans ca01
  replace cx00 := (b_14.cell (p := ⟨w5.heap.size, 0, none⟩) (by show w5.heap.size < _; omega) (by show w5.heap.size < _ ∨ _ ≤ w5.heap.size; omega)).trans cx00
  replace cx01 := (b_14.cell (p := ⟨w5.heap.size, 1, none⟩) (by show w5.heap.size < _; omega) (by show w5.heap.size < _ ∨ _ ≤ w5.heap.size; omega)).trans cx01
  replace BA : Hid (Below w.heap.size w w14) := BA.out.trans (b_14.below (by omega) (by omega))
  replace ZA : w.heap.size ≤ w14.heap.size := (by omega)
  replace ya0 : w.heap.size < w14.heap.size := (by omega)
  replace yx0 : w5.heap.size < w14.heap.size := (by omega)
  clear Og
  have Og := Lib.hid om14
  clear om14 b_14
  rw [← HRN.out]
  go_wp2_with fail
  refine (heldIntS_c w6.heap.size w7.heap.size _ _ 1 w14 Og.out (by omega) (by rw [← HRN.out]; omega)).mono ?_
  rintro e w15 ⟨rfl, hw15⟩
  subst hw15
  rw [← HRN.out]
  go_wp2_with fail
  refine (toNetwork_c 0 w.heap.size a0 _ us0 x0 w14 (HU0.out.later BA.out (Nat.le_refl _)) ZA (by rw [← HL0.out]; omega) HQ0.out).mono ?_
  rintro e w15 ⟨qh0, qsh0, rfl, oh0, b_15⟩
  obtain ⟨aoh0, gh0, caph0, eh0, -, -, -⟩ := oh0.rows
  rw [← HL0.out] at eh0
  have Oh0 := Lib.hid oh0
  clear oh0
  subst eh0
  have z15 := b_15.size
  replace Ow := Lib.hid (Ow.out.later b_15)
  replace Og := Lib.hid (Og.out.later b_15)
  replace ca00 := (b_15.cell (p := ⟨w.heap.size, 0, none⟩) (by show w.heap.size < _; omega)).trans ca00
  replace ca01 := (b_15.cell (p := ⟨w.heap.size, 1, none⟩) (by show w.heap.size < _; omega)).trans ca01
  replace cx00 := (b_15.cell (p := ⟨w5.heap.size, 0, none⟩) (by show w5.heap.size < _; omega)).trans cx00
  replace cx01 := (b_15.cell (p := ⟨w5.heap.size, 1, none⟩) (by show w5.heap.size < _; omega)).trans cx01
  replace BA : Hid (Below w.heap.size w w15) := BA.out.trans (b_15.mono (by omega))
  replace ZA : w.heap.size ≤ w15.heap.size := (by omega)
  replace ya0 : w.heap.size < w15.heap.size := (by omega)
  replace yx0 : w5.heap.size < w15.heap.size := (by omega)
  clear b_15
  go_wp2_with fail
  refine (HI.out w15 _ _ _ _ Oh0.out (by omega) (by rw [← HL0.out]; omega)).mono ?_
  rintro e w16 ⟨qk, rfl, ok, b_16⟩
  obtain ⟨aok, gk, capk, ek, -, -, -⟩ := ok.view
  rw [← HRN.out] at ek
  have Ok := Lib.hid ok
  clear ok
  subst ek
  have z16 := b_16.size
  replace Ow := Lib.hid (Ow.out.later b_16)
  replace Og := Lib.hid (Og.out.later b_16)
  replace Oh0 := Lib.hid (Oh0.out.later b_16)
  replace ca00 := (b_16.cell (p := ⟨w.heap.size, 0, none⟩) (by show w.heap.size < _; omega)).trans ca00
  replace ca01 := (b_16.cell (p := ⟨w.heap.size, 1, none⟩) (by show w.heap.size < _; omega)).trans ca01
  replace cx00 := (b_16.cell (p := ⟨w5.heap.size, 0, none⟩) (by show w5.heap.size < _; omega)).trans cx00
  replace cx01 := (b_16.cell (p := ⟨w5.heap.size, 1, none⟩) (by show w5.heap.size < _; omega)).trans cx01
  replace BA : Hid (Below w.heap.size w w16) := BA.out.trans (b_16.mono (by omega))
  replace ZA : w.heap.size ≤ w16.heap.size := (by omega)
  replace ya0 : w.heap.size < w16.heap.size := (by omega)
  replace yx0 : w5.heap.size < w16.heap.size := (by omega)
  clear b_16
  clear Oh0
  go_wp2_with fail
  refine (eqIntS_c _ _ _ _ _ _ rx rx w16 Ok.out Ow.out (by omega) (by omega) (by rw [← HRN.out]; omega)).mono ?_
  rintro e w17 ⟨rfl, b_17⟩
  rw [show decide (rx = rx) = true from by simp]
  have z17 := b_17.size
  replace Ow := Lib.hid (Ow.out.later b_17)
  replace Og := Lib.hid (Og.out.later b_17)
  replace Ok := Lib.hid (Ok.out.later b_17)
  replace ca00 := (b_17.cell (p := ⟨w.heap.size, 0, none⟩) (by show w.heap.size < _; omega)).trans ca00
  replace ca01 := (b_17.cell (p := ⟨w.heap.size, 1, none⟩) (by show w.heap.size < _; omega)).trans ca01
  replace cx00 := (b_17.cell (p := ⟨w5.heap.size, 0, none⟩) (by show w5.heap.size < _; omega)).trans cx00
  replace cx01 := (b_17.cell (p := ⟨w5.heap.size, 1, none⟩) (by show w5.heap.size < _; omega)).trans cx01
  replace BA : Hid (Below w.heap.size w w17) := BA.out.trans (b_17.mono (by omega))
  replace ZA : w.heap.size ≤ w17.heap.size := (by omega)
  replace ya0 : w.heap.size < w17.heap.size := (by omega)
  replace yx0 : w5.heap.size < w17.heap.size := (by omega)
  clear b_17
  go_wp2_with fail
  refine (heldIntS_c w6.heap.size w7.heap.size _ _ 1 w17 Og.out (by omega) (by rw [← HRN.out]; omega)).mono ?_
  rintro e w18 ⟨rfl, hw18⟩
  subst hw18
  rw [← HRN.out]
  go_wp2
  go_ret
  exact ⟨rfl, BA.out⟩
end Go.Proofs.Ytgdkihabphihoaa
