/- The walk of the law 'FnExactIsLean': if the program's function and the reference's hand back the same, the law returns true. Conditions: the two contracts. -/
import Derived.Test.YtgdkihabphihoaaTo
import Derived.Test.YtgdkihabphihoaaEq
import Derived.Deep.RegionHeld3
namespace Go.Proofs.Ytgdkihabphihoaa
open Go.RowKit
set_option maxRecDepth 100000

set_option maxHeartbeats 2000000 in
theorem FnExactIsLean_core (w : World) (a0 : Int) (u0 : Value) (us0 : List Value) (x0 : List (List Int)) (hu0 : RowsV w 0 w.heap.size u0 us0 x0) (hm0 : x0.length ≤ maxLen) (hn0 : ∀ xs ∈ x0, xs.length ≤ maxLen) (r : Bool)
    (hs : (∀ (w : World) (l0 h0 : Nat) (v0 : Value) (vs0 : List Value), OwnR w l0 h0 v0 vs0 x0 → h0 ≤ w.heap.size → x0.length ≤ 1048576 → Calls Try.prog 16 #[.agg #[.int .i64 a0, v0]] w fun e w' => e = .returned (.bool r) ∧ Below w.heap.size w w'))
    (hi : (∀ (w : World) (l0 h0 : Nat) (v0 : Value) (vs0 : List Value), OwnR w l0 h0 v0 vs0 x0 → h0 ≤ w.heap.size → x0.length ≤ 1048576 → Calls Try.prog 18 #[.agg #[.int .i64 a0, v0]] w fun e w' => e = .returned (.bool r) ∧ Below w.heap.size w w')) :
    Calls Try.prog 3 #[.agg #[.int .i64 a0, u0]] w fun e w' => e = .returned (.bool true) ∧ Below w.heap.size w w' := by
  have HS := Lib.hid hs
  have HI := Lib.hid hi
  unfold maxLen at *
  have HU0 := Lib.hid hu0
  have HN0 := Lib.hid hn0
  obtain ⟨ao0, b0, off0, cap0, e0, hcap0, -, -, -⟩ := hu0
  subst e0
  clear hn0
  obtain ⟨n0, hnl0⟩ : ∃ n, n = x0.length := ⟨_, rfl⟩
  have HL0 := Lib.hid hnl0
  rw [← hnl0] at hm0 hcap0 HU0 ⊢
  clear hnl0
  have rq : (r == r) = true := by simp
  have rq2 : (r != r) = false := by simp
  clear hs hi
  go_enter Try.func3, Try.ntmps3
  have BA : Hid (Below w.heap.size w w) := Below.refl _ _
  have ZA : w.heap.size ≤ w.heap.size := Nat.le_refl _
  go_wp2_with fail
  obtain ⟨w1, hW1, ca00, ca01, hz1, b_1, -, -⟩ := box2 w (.int .i64 a0) (.slice ao0 n0 cap0) 24
  rw [hW1]
  clear hW1
  have z1 := b_1.size
  replace BA : Hid (Below w.heap.size w w1) := BA.out.trans (b_1.mono (by omega))
  replace ZA : w.heap.size ≤ w1.heap.size := (by omega)
  have zz1 : w.heap.size < w1.heap.size := (by omega)
  clear b_1 hz1
  refine (szNetwork_c 0 w.heap.size a0 _ us0 x0 w1 (HU0.out.later BA.out (Nat.le_refl _)) ZA (by rw [← HL0.out]; exact hm0) (fun xs hx => HN0.out xs hx)).mono ?_
  rintro e w2 ⟨s2, rfl, b_2, hr2⟩
  have z2 := b_2.size
  replace ca00 := (b_2.cell (p := ⟨w.heap.size, 0, none⟩) (by show w.heap.size < _; omega)).trans ca00
  replace ca01 := (b_2.cell (p := ⟨w.heap.size, 1, none⟩) (by show w.heap.size < _; omega)).trans ca01
  replace BA : Hid (Below w.heap.size w w2) := BA.out.trans (b_2.mono (by omega))
  replace ZA : w.heap.size ≤ w2.heap.size := (by omega)
  by_cases hs2 : s2 < 0
  · go_wp2
    go_ret
    exact ⟨rfl, BA.out⟩
  obtain ⟨hq0, hr0⟩ := hr2 (by omega)
  have HQ0 := Lib.hid hr0
  rw [← HL0.out] at hq0
  clear hr0 b_2
  go_wp2_with fail
  refine (toNetwork_c 0 w.heap.size a0 _ us0 x0 w2 (HU0.out.later BA.out (Nat.le_refl _)) ZA (by rw [← HL0.out]; omega) HQ0.out).mono ?_
  rintro e w3 ⟨qs0, qss0, rfl, os0, b_3⟩
  obtain ⟨aos0, gs0, caps0, es0, -, -, -⟩ := os0.rows
  rw [← HL0.out] at es0
  have Os0 := Lib.hid os0
  clear os0
  subst es0
  have z3 := b_3.size
  replace ca00 := (b_3.cell (p := ⟨w.heap.size, 0, none⟩) (by show w.heap.size < _; omega)).trans ca00
  replace ca01 := (b_3.cell (p := ⟨w.heap.size, 1, none⟩) (by show w.heap.size < _; omega)).trans ca01
  replace BA : Hid (Below w.heap.size w w3) := BA.out.trans (b_3.mono (by omega))
  replace ZA : w.heap.size ≤ w3.heap.size := (by omega)
  clear b_3
  go_wp2_with fail
  refine (HS.out w3 _ _ _ _ Os0.out (by omega) (by rw [← HL0.out]; omega)).mono ?_
  rintro e w4 ⟨rfl, b_4⟩
  have z4 := b_4.size
  replace Os0 := Lib.hid (Os0.out.later b_4)
  replace ca00 := (b_4.cell (p := ⟨w.heap.size, 0, none⟩) (by show w.heap.size < _; omega)).trans ca00
  replace ca01 := (b_4.cell (p := ⟨w.heap.size, 1, none⟩) (by show w.heap.size < _; omega)).trans ca01
  replace BA : Hid (Below w.heap.size w w4) := BA.out.trans (b_4.mono (by omega))
  replace ZA : w.heap.size ≤ w4.heap.size := (by omega)
  clear b_4
  clear Os0
  go_wp2_with fail
  refine (toNetwork_c 0 w.heap.size a0 _ us0 x0 w4 (HU0.out.later BA.out (Nat.le_refl _)) ZA (by rw [← HL0.out]; omega) HQ0.out).mono ?_
  rintro e w5 ⟨qi0, qsi0, rfl, oi0, b_5⟩
  obtain ⟨aoi0, gi0, capi0, ei0, -, -, -⟩ := oi0.rows
  rw [← HL0.out] at ei0
  have Oi0 := Lib.hid oi0
  clear oi0
  subst ei0
  have z5 := b_5.size
  replace ca00 := (b_5.cell (p := ⟨w.heap.size, 0, none⟩) (by show w.heap.size < _; omega)).trans ca00
  replace ca01 := (b_5.cell (p := ⟨w.heap.size, 1, none⟩) (by show w.heap.size < _; omega)).trans ca01
  replace BA : Hid (Below w.heap.size w w5) := BA.out.trans (b_5.mono (by omega))
  replace ZA : w.heap.size ≤ w5.heap.size := (by omega)
  clear b_5
  go_wp2_with fail
  obtain ⟨w6, hW6, cx00, cx01, hz6, b_6, -, -⟩ := box2 w5 (.int .i64 a0) (.slice aoi0 n0 capi0) 27
  rw [hW6]
  clear hW6
  have z6 := b_6.size
  replace Oi0 := Lib.hid (Oi0.out.later b_6)
  replace ca00 := (b_6.cell (p := ⟨w.heap.size, 0, none⟩) (by show w.heap.size < _; omega)).trans ca00
  replace ca01 := (b_6.cell (p := ⟨w.heap.size, 1, none⟩) (by show w.heap.size < _; omega)).trans ca01
  replace BA : Hid (Below w.heap.size w w6) := BA.out.trans (b_6.mono (by omega))
  replace ZA : w.heap.size ≤ w6.heap.size := (by omega)
  have zz6 : w5.heap.size < w6.heap.size := (by omega)
  clear b_6 hz6
  refine (HI.out w6 _ _ _ _ Oi0.out (by omega) (by rw [← HL0.out]; omega)).mono ?_
  rintro e w7 ⟨rfl, b_7⟩
  have z7 := b_7.size
  replace Oi0 := Lib.hid (Oi0.out.later b_7)
  replace ca00 := (b_7.cell (p := ⟨w.heap.size, 0, none⟩) (by show w.heap.size < _; omega)).trans ca00
  replace ca01 := (b_7.cell (p := ⟨w.heap.size, 1, none⟩) (by show w.heap.size < _; omega)).trans ca01
  replace cx00 := (b_7.cell (p := ⟨w5.heap.size, 0, none⟩) (by show w5.heap.size < _; omega)).trans cx00
  replace cx01 := (b_7.cell (p := ⟨w5.heap.size, 1, none⟩) (by show w5.heap.size < _; omega)).trans cx01
  replace BA : Hid (Below w.heap.size w w7) := BA.out.trans (b_7.mono (by omega))
  replace ZA : w.heap.size ≤ w7.heap.size := (by omega)
  clear b_7
  go_wp2_with fail
  have b_8 : Below w7.heap.size w7 w7.drew := (Below.refl _ _).drew
  have z8 := b_8.size
  replace Oi0 := Lib.hid (Oi0.out.later b_8)
  replace ca00 := (b_8.cell (p := ⟨w.heap.size, 0, none⟩) (by show w.heap.size < _; omega)).trans ca00
  replace ca01 := (b_8.cell (p := ⟨w.heap.size, 1, none⟩) (by show w.heap.size < _; omega)).trans ca01
  replace cx00 := (b_8.cell (p := ⟨w5.heap.size, 0, none⟩) (by show w5.heap.size < _; omega)).trans cx00
  replace cx01 := (b_8.cell (p := ⟨w5.heap.size, 1, none⟩) (by show w5.heap.size < _; omega)).trans cx01
  replace BA : Hid (Below w.heap.size w w7.drew) := BA.out.trans (b_8.mono (by omega))
  replace ZA : w.heap.size ≤ w7.drew.heap.size := (by omega)
  have zd8 : w7.drew.heap.size = w7.heap.size := rfl
  clear b_8
  go_region_held3 (fun W' => W'.cell? ⟨w.heap.size, 0, none⟩ = some (.int .i64 a0) ∧ W'.cell? ⟨w.heap.size, 1, none⟩ = some (.slice ao0 n0 cap0) ∧ W'.cell? ⟨w5.heap.size, 0, none⟩ = some (.int .i64 a0) ∧ W'.cell? ⟨w5.heap.size, 1, none⟩ = some (.slice aoi0 n0 capi0)) (refine ⟨?_, ?_, ?_, ?_⟩ <;> with_reducible assumption) (first | (go_at_call 19; refine (eqNetwork_c _ _ _ _ a0 a0 _ _ _ _ x0 x0 w9 Oi0.out Oc0.out (by omega) (by omega) (by rw [← HL0.out]; omega) (fun xs hx => by have := HQ0.out xs hx; omega)).mono ?_; rintro e w10 ⟨rfl, b_10⟩; rw [show decide (a0 = a0 ∧ x0 = x0) = true from by simp]; have z10 := b_10.size; replace Oi0 := Lib.hid (Oi0.out.later b_10); replace Oc0 := Lib.hid (Oc0.out.later b_10); replace ca00 := (b_10.cell (p := ⟨w.heap.size, 0, none⟩) (by show w.heap.size < _; omega)).trans ca00; replace ca01 := (b_10.cell (p := ⟨w.heap.size, 1, none⟩) (by show w.heap.size < _; omega)).trans ca01; replace cx00 := (b_10.cell (p := ⟨w5.heap.size, 0, none⟩) (by show w5.heap.size < _; omega)).trans cx00; replace cx01 := (b_10.cell (p := ⟨w5.heap.size, 1, none⟩) (by show w5.heap.size < _; omega)).trans cx01; replace BA : Hid (Below w.heap.size w w10) := BA.out.trans (b_10.mono (by omega)); replace ZA : w.heap.size ≤ w10.heap.size := (by omega); clear b_10) | (go_at_call 17; refine (toNetwork_c 0 w.heap.size a0 _ us0 x0 w7.drew (HU0.out.later BA.out (Nat.le_refl _)) ZA (by rw [← HL0.out]; omega) HQ0.out).mono ?_; rintro e w9 ⟨qc0, qsc0, rfl, oc0, b_9⟩; obtain ⟨aoc0, gc0, capc0, ec0, -, -, -⟩ := oc0.rows; rw [← HL0.out] at ec0; have Oc0 := Lib.hid oc0; clear oc0; subst ec0; have z9 := b_9.size; replace Oi0 := Lib.hid (Oi0.out.later b_9); replace ca00 := (b_9.cell (p := ⟨w.heap.size, 0, none⟩) (by show w.heap.size < _; omega)).trans ca00; replace ca01 := (b_9.cell (p := ⟨w.heap.size, 1, none⟩) (by show w.heap.size < _; omega)).trans ca01; replace cx00 := (b_9.cell (p := ⟨w5.heap.size, 0, none⟩) (by show w5.heap.size < _; omega)).trans cx00; replace cx01 := (b_9.cell (p := ⟨w5.heap.size, 1, none⟩) (by show w5.heap.size < _; omega)).trans cx01; replace BA : Hid (Below w.heap.size w w9) := BA.out.trans (b_9.mono (by omega)); replace ZA : w.heap.size ≤ w9.heap.size := (by omega); clear b_9) | fail)
  clear Oc0
  clear Oi0
  go_wp2
  go_ret
  exact ⟨rfl, BA.out⟩
end Go.Proofs.Ytgdkihabphihoaa
