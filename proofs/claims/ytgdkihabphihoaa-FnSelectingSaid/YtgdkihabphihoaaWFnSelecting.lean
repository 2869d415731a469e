/- The walk of the law FnSelecting: it returns true, whatever the code. Conditions: none. -/
import Derived.Test.YtgdkihabphihoaaPSel
import Derived.Test.YtgdkihabphihoaaMake
import Derived.Test.YtgdkihabphihoaaStd2
import Derived.Deep.DeepCutAuto
namespace Go.Proofs.Ytgdkihabphihoaa
open Go.RowKit
set_option maxRecDepth 100000
set_option linter.unusedVariables false
set_option linter.unusedSimpArgs false

set_option maxHeartbeats 4000000 in
theorem FnSelecting_core (w : World) (N : Nat) (cv : Value) (hv : BytesV w w.heap.size cv N) : Calls Try.prog 9 #[cv] w fun e w' => e = .returned (.bool true) ∧ Below w.heap.size w w' := by
  have HV := Lib.hid hv
  obtain ⟨cao, cb, coff, ccap, ecv, -, -, -⟩ := id hv
  subst ecv
  clear hv
  by_cases hN : N ≤ 1048576
  rotate_left
  · have hN' : (1048576 : Int) < (N : Int) := by omega
    go_enter Try.func9, Try.ntmps9
    go_wp2_with fail
    go_ret
    exact ⟨rfl, Below.refl _ _⟩
  have hN' : ¬ (1048576 : Int) < (N : Int) := by omega
  go_enter Try.func9, Try.ntmps9
  have BA : Hid (Below w.heap.size w w) := Below.refl _ _
  have ZA : w.heap.size ≤ w.heap.size := Nat.le_refl _
  go_wp2_with fail
  refine (MakeSize_c w.heap.size N 0 (1) (6) _ w (HV.out.kept fun k hk => BA.out.block k hk) ZA hN (by omega) (by omega) (by omega)).mono ?_
  rintro e w1 ⟨n, rfl, n_lo, n_hi, b_w1⟩
  have z_w1 := b_w1.size
  replace BA : Hid (Below w.heap.size w w1) := BA.out.trans (b_w1.mono (by omega))
  replace ZA : w.heap.size ≤ w1.heap.size := (by omega)
  clear b_w1
  go_wp2_with fail
  refine (MakeSize_c w.heap.size N 1 (0) (n) _ w1 (HV.out.kept fun k hk => BA.out.block k hk) ZA hN (by omega) (by omega) (by omega)).mono ?_
  rintro e w2 ⟨k, rfl, k_lo, k_hi, b_w2⟩
  have z_w2 := b_w2.size
  replace BA : Hid (Below w.heap.size w w2) := BA.out.trans (b_w2.mono (by omega))
  replace ZA : w.heap.size ≤ w2.heap.size := (by omega)
  clear b_w2
  have F1 := Lib.hid (fin_select n k n_lo n_hi k_hi)
  have F2 := Lib.hid (fin_median n n_lo n_hi)
  go_wp2_with fail
  refine (SelectNetwork_y n k n_lo (by omega) k_hi w2).mono ?_
  rintro e w3 ⟨qs, uss, rfl, os, b_w3⟩
  obtain ⟨xs, hxs⟩ : ∃ X, X = XSelectNetwork (n : Int) (k : Int) := ⟨_, rfl⟩
  rw [← hxs] at os
  have HXs := Lib.hid hxs
  clear hxs
  obtain ⟨aos, gs, caps, es, -, -, -⟩ := os.rows
  obtain ⟨Ls, hLs⟩ : ∃ L, L = xs.length := ⟨_, rfl⟩
  rw [← hLs] at es
  subst es
  have HNs := Lib.hid hLs
  clear hLs
  have z_w3 := b_w3.size
  replace BA : Hid (Below w.heap.size w w3) := BA.out.trans (b_w3.mono (by omega))
  replace ZA : w.heap.size ≤ w3.heap.size := (by omega)
  clear b_w3
  have Os := Lib.hid os
  clear os
  go_upto_region 6 with fail
  obtain ⟨w4, hWw4, cs0, cs1, hzw4, b_w4, -, -⟩ := box2 w3 (.int .i64 n) (.slice aos Ls caps) 27
  rw [hWw4]
  clear hWw4
  have zz_w4 : w3.heap.size < w4.heap.size := (by omega)
  clear hzw4
  have z_w4 := b_w4.size
  replace Os := Lib.hid (Os.out.later b_w4)
  replace BA : Hid (Below w.heap.size w w4) := BA.out.trans (b_w4.mono (by omega))
  replace ZA : w.heap.size ≤ w4.heap.size := (by omega)
  clear b_w4
  have ys : w3.heap.size < w4.heap.size := zz_w4
  go_cut [57] (fun s wx => s = .bool false ∧ Below w4.heap.size w4 wx)
  case first =>
    have R0 : Hid (Below w4.heap.size w4 w4) := Below.refl _ _
    go_wp2_with fail
    refine (IsSelecting_i_c n _ _ _ uss xs k w4 Os.out (by omega)).mono ?_
    rintro e w5 ⟨rfl, b_w5⟩
    rw [show selR (n : Int) xs (k : Int) = true from by rw [HXs.out]; exact F1.out.2.1]
    have z_w5 := b_w5.size
    replace Os := Lib.hid (Os.out.later b_w5)
    replace cs0 := (b_w5.cell (p := ⟨w3.heap.size, 0, none⟩) (by show w3.heap.size < _; omega)).trans cs0
    replace cs1 := (b_w5.cell (p := ⟨w3.heap.size, 1, none⟩) (by show w3.heap.size < _; omega)).trans cs1
    replace BA : Hid (Below w.heap.size w w5) := BA.out.trans (b_w5.mono (by omega))
    replace ZA : w.heap.size ≤ w5.heap.size := (by omega)
    replace ys : w3.heap.size < w5.heap.size := (by omega)
    replace R0 : Hid (Below w4.heap.size w4 w5) := R0.out.trans (b_w5.mono (by omega))
    clear b_w5
    by_cases hkn : n ≤ k + 1
    · have hkn1 : (n : Int) - 1 ≤ (k : Int) := by omega
      go_wp2_with fail
      refine (IsSorting_i n _ _ _ uss xs w5 Os.out (by omega)).mono ?_
      rintro e w6 ⟨rfl, b_w6⟩
      rw [show sortsR (n : Int) xs = true from by rw [HXs.out]; exact F1.out.2.2.1 hkn]
      have z_w6 := b_w6.size
      replace Os := Lib.hid (Os.out.later b_w6)
      replace cs0 := (b_w6.cell (p := ⟨w3.heap.size, 0, none⟩) (by show w3.heap.size < _; omega)).trans cs0
      replace cs1 := (b_w6.cell (p := ⟨w3.heap.size, 1, none⟩) (by show w3.heap.size < _; omega)).trans cs1
      replace BA : Hid (Below w.heap.size w w6) := BA.out.trans (b_w6.mono (by omega))
      replace ZA : w.heap.size ≤ w6.heap.size := (by omega)
      replace ys : w3.heap.size < w6.heap.size := (by omega)
      replace R0 : Hid (Below w4.heap.size w4 w6) := R0.out.trans (b_w6.mono (by omega))
      clear b_w6
      go_wp2_with fail
      go_meet
      case rel => exact ⟨rfl, R0.out⟩
    · have hkn1 : ¬ (n : Int) - 1 ≤ (k : Int) := by omega
      go_wp2_with fail
      go_meet
      case rel => exact ⟨rfl, R0.out⟩
  case rest =>
    obtain ⟨rfl, hb⟩ := hcut
    have z_wc := hb.size
    replace Os := Lib.hid (Os.out.later hb)
    replace cs0 := (hb.cell (p := ⟨w3.heap.size, 0, none⟩) (by show w3.heap.size < _; omega)).trans cs0
    replace cs1 := (hb.cell (p := ⟨w3.heap.size, 1, none⟩) (by show w3.heap.size < _; omega)).trans cs1
    replace BA : Hid (Below w.heap.size w wc) := BA.out.trans (hb.mono (by omega))
    replace ZA : w.heap.size ≤ wc.heap.size := (by omega)
    replace ys : w3.heap.size < wc.heap.size := (by omega)
    clear hb
    go_wp2_with fail
    go_loopw [7] (fun i wr => ∃ j : Nat, j ≤ k ∧ i = .int .i64 j ∧ Below wc.heap.size wc wr) (fun i _ => k - (intOf i).toNat)
    case atStart => exact ⟨0, Nat.zero_le _, rfl, Below.refl _ _⟩
    case round =>
      obtain ⟨j, hj, rfl, hb⟩ := hrel
      have R0 : Hid (Below wc.heap.size wc wc) := Below.refl _ _
      have z_wr := hb.size
      replace Os := Lib.hid (Os.out.later hb)
      replace cs0 := (hb.cell (p := ⟨w3.heap.size, 0, none⟩) (by show w3.heap.size < _; omega)).trans cs0
      replace cs1 := (hb.cell (p := ⟨w3.heap.size, 1, none⟩) (by show w3.heap.size < _; omega)).trans cs1
      replace BA : Hid (Below w.heap.size w wr) := BA.out.trans (hb.mono (by omega))
      replace ZA : w.heap.size ≤ wr.heap.size := (by omega)
      replace ys : w3.heap.size < wr.heap.size := (by omega)
      replace R0 : Hid (Below wc.heap.size wc wr) := R0.out.trans (hb.mono (by omega))
      clear hb
      by_cases hlt : j < k
      · have hlt1 : (j : Int) < (k : Int) := by omega
        go_wp2_with fail
        refine (PlacesRank_i_c n _ _ _ uss xs j wr Os.out (by omega)).mono ?_
        rintro e w7 ⟨rfl, b_w7⟩
        rw [show rankR (n : Int) xs (j : Int) = true from by rw [HXs.out]; exact (F1.out.2.2.2 j hlt).1]
        have z_w7 := b_w7.size
        replace Os := Lib.hid (Os.out.later b_w7)
        replace cs0 := (b_w7.cell (p := ⟨w3.heap.size, 0, none⟩) (by show w3.heap.size < _; omega)).trans cs0
        replace cs1 := (b_w7.cell (p := ⟨w3.heap.size, 1, none⟩) (by show w3.heap.size < _; omega)).trans cs1
        replace BA : Hid (Below w.heap.size w w7) := BA.out.trans (b_w7.mono (by omega))
        replace ZA : w.heap.size ≤ w7.heap.size := (by omega)
        replace ys : w3.heap.size < w7.heap.size := (by omega)
        replace R0 : Hid (Below wc.heap.size wc w7) := R0.out.trans (b_w7.mono (by omega))
        clear b_w7
        go_wp2_with fail
        refine (IsSelecting_i_c n _ _ _ uss xs j w7 Os.out (by omega)).mono ?_
        rintro e w8 ⟨rfl, b_w8⟩
        rw [show selR (n : Int) xs (j : Int) = true from by rw [HXs.out]; exact (F1.out.2.2.2 j hlt).2]
        have z_w8 := b_w8.size
        replace Os := Lib.hid (Os.out.later b_w8)
        replace cs0 := (b_w8.cell (p := ⟨w3.heap.size, 0, none⟩) (by show w3.heap.size < _; omega)).trans cs0
        replace cs1 := (b_w8.cell (p := ⟨w3.heap.size, 1, none⟩) (by show w3.heap.size < _; omega)).trans cs1
        replace BA : Hid (Below w.heap.size w w8) := BA.out.trans (b_w8.mono (by omega))
        replace ZA : w.heap.size ≤ w8.heap.size := (by omega)
        replace ys : w3.heap.size < w8.heap.size := (by omega)
        replace R0 : Hid (Below wc.heap.size wc w8) := R0.out.trans (b_w8.mono (by omega))
        clear b_w8
        go_wp2
        go_roundw
        case rel => exact ⟨j + 1, by omega, by go_num, R0.out⟩
        case measure => simp [intOf]; omega
      · have hlt1 : ¬ (j : Int) < (k : Int) := by omega
        clear hlt R0
        clear Os
        go_wp2_with fail
        refine (MedianNetwork_y n n_lo n_hi wr).mono ?_
        rintro e w9 ⟨qm, usm, rfl, om, b_w9⟩
        obtain ⟨xm, hxm⟩ : ∃ X, X = medX (n : Int) := ⟨_, rfl⟩
        rw [← hxm] at om
        have HXm := Lib.hid hxm
        clear hxm
        obtain ⟨aom, gm, capm, em, -, -, -⟩ := om.rows
        obtain ⟨Lm, hLm⟩ : ∃ L, L = xm.length := ⟨_, rfl⟩
        rw [← hLm] at em
        subst em
        have HNm := Lib.hid hLm
        clear hLm
        have z_w9 := b_w9.size
        replace BA : Hid (Below w.heap.size w w9) := BA.out.trans (b_w9.mono (by omega))
        replace ZA : w.heap.size ≤ w9.heap.size := (by omega)
        clear b_w9
        have Om := Lib.hid om
        clear om
        go_wp2_with fail
        obtain ⟨w10, hWw10, cm0, cm1, hzw10, b_w10, -, -⟩ := box2 w9 (.int .i64 n) (.slice aom Lm capm) 27
        rw [hWw10]
        clear hWw10
        have zz_w10 : w9.heap.size < w10.heap.size := (by omega)
        clear hzw10
        have z_w10 := b_w10.size
        replace Om := Lib.hid (Om.out.later b_w10)
        replace BA : Hid (Below w.heap.size w w10) := BA.out.trans (b_w10.mono (by omega))
        replace ZA : w.heap.size ≤ w10.heap.size := (by omega)
        clear b_w10
        have ym : w9.heap.size < w10.heap.size := zz_w10
        have hms : (Lm : Int) ≤ batSz (n : Int) := by rw [HNm.out, HXm.out]; exact F2.out.2.2.2
        obtain ⟨bs, hbs⟩ : ∃ b, b = batSz (n : Int) := ⟨_, rfl⟩
        rw [← hbs] at hms
        obtain ⟨n2, hn2⟩ : ∃ x : Nat, x = n / 2 := ⟨_, rfl⟩
        have hq1 : IntKind.i64.wrap ((n : Int).tdiv 2) = (n2 : Int) := by rw [show (n : Int).tdiv 2 = (n2 : Int) from by rw [Int.tdiv_eq_ediv_of_nonneg (by omega)]; omega]; exact IntWalk.i64_in _ (by omega)
        have hq3 : (n : Int) / 2 = (n2 : Int) := by omega
        have CP : Hid (∀ w', Below w10.heap.size w10 w' → Calls Try.prog 40 #[.agg #[.int .i64 n, .slice aom Lm capm], .int .i64 n2] w' fun e w'' => e = .returned (.bool true) ∧ Below w'.heap.size w' w'') := fun w' h1 => by
          have := PlacesRank_i_c n _ _ _ usm xm n2 w' (Om.out.below h1 (by omega)) (by have := h1.size; omega)
          rwa [show rankR (n : Int) xm n2 = true from by rw [HXm.out, ← hq3]; exact F2.out.2.2.1] at this
        have CB : Hid (∀ w', Calls Try.prog 42 #[.int .i64 n] w' fun e w'' => e = .returned (.int .i64 bs) ∧ Below w'.heap.size w' w'') := fun w' => by rw [hbs]; exact BatcherSize_i n w'
        clear hbs hn2
        refine wp_region_later w10.heap.size w10 (by kernel_rfl) (by kernel_rfl) (Below.refl _ _) ?_
        have hLW := LW.cells (B := w10.heap.size) (w0 := w10)
        repeat (go_big_quiet_step ((first | (go_at_call 40; refine LW.call (Nat.le_refl _) (CP.out _ (LW.h _))) | (go_at_call 42; refine LW.call (Nat.le_refl _) (CB.out _)) | fail)))
        refine wpQuiet_nil ?_
        rintro w11 ⟨⟨w2s, b_w11⟩, rfl⟩
        clear hLW
        have z_w11 := b_w11.size
        replace Om := Lib.hid (Om.out.later b_w11)
        replace cm0 := (b_w11.cell (p := ⟨w9.heap.size, 0, none⟩) (by show w9.heap.size < _; omega)).trans cm0
        replace cm1 := (b_w11.cell (p := ⟨w9.heap.size, 1, none⟩) (by show w9.heap.size < _; omega)).trans cm1
        replace BA : Hid (Below w.heap.size w w11) := BA.out.trans (b_w11.mono (by omega))
        replace ZA : w.heap.size ≤ w11.heap.size := (by omega)
        replace ym : w9.heap.size < w11.heap.size := (by omega)
        clear b_w11
        clear CP CB hq1 hq3
        clear Om
        go_wp2_with fail
        refine (MakeStandard_c w.heap.size N 20 _ w11 (HV.out.kept fun k hk => BA.out.block k hk) ZA hN (by omega)).mono ?_
        rintro e w12 ⟨v, qy, usy, xy, rfl, ⟨v1, v6, hst, hyl⟩, oy, b_w12⟩
        obtain ⟨aoy, gy, capy, ey, -, -, -⟩ := oy.rows
        obtain ⟨Ly, hLy⟩ : ∃ L, L = xy.length := ⟨_, rfl⟩
        rw [← hLy] at ey
        subst ey
        have HNy := Lib.hid hLy
        clear hLy
        have z_w12 := b_w12.size
        replace BA : Hid (Below w.heap.size w w12) := BA.out.trans (b_w12.mono (by omega))
        replace ZA : w.heap.size ≤ w12.heap.size := (by omega)
        clear b_w12
        have Oy := Lib.hid oy
        clear oy
        go_wp2_with fail
        obtain ⟨w13, hWw13, cy0, cy1, hzw13, b_w13, -, -⟩ := box2 w12 (.int .i64 v) (.slice aoy Ly capy) 27
        rw [hWw13]
        clear hWw13
        have zz_w13 : w12.heap.size < w13.heap.size := (by omega)
        clear hzw13
        have z_w13 := b_w13.size
        replace Oy := Lib.hid (Oy.out.later b_w13)
        replace BA : Hid (Below w.heap.size w w13) := BA.out.trans (b_w13.mono (by omega))
        replace ZA : w.heap.size ≤ w13.heap.size := (by omega)
        clear b_w13
        have yy : w12.heap.size < w13.heap.size := zz_w13
        have hok := netOk_of_pairUp hst v1 (by omega) (by omega)
        have HST := Lib.hid hst
        have HOK := Lib.hid hok
        obtain ⟨FA, hFA⟩ : ∃ F, F = fun K => allB (rankB v xy K) (2 ^ v) := ⟨_, rfl⟩
        have HFA := Lib.hid hFA
        clear hst hok hFA hyl
        go_wp2_with fail
        go_loopw [12, 13] (fun a i wr => ∃ j : Nat, j ≤ v ∧ i = .int .i64 j ∧ a = .bool (allB FA j) ∧ Below w13.heap.size w13 wr) (fun _ i _ => v - (intOf i).toNat)
        case atStart => exact ⟨0, Nat.zero_le _, rfl, rfl, Below.refl _ _⟩
        case round =>
          obtain ⟨j, hj, rfl, rfl, hb⟩ := hrel
          have R0 : Hid (Below w13.heap.size w13 w13) := Below.refl _ _
          obtain ⟨A, hA⟩ : ∃ A, A = allB FA j := ⟨_, rfl⟩
          rw [← hA]
          have HA := Lib.hid hA
          clear hA
          have z_wr := hb.size
          replace Oy := Lib.hid (Oy.out.later hb)
          replace cy0 := (hb.cell (p := ⟨w12.heap.size, 0, none⟩) (by show w12.heap.size < _; omega)).trans cy0
          replace cy1 := (hb.cell (p := ⟨w12.heap.size, 1, none⟩) (by show w12.heap.size < _; omega)).trans cy1
          replace BA : Hid (Below w.heap.size w wr) := BA.out.trans (hb.mono (by omega))
          replace ZA : w.heap.size ≤ wr.heap.size := (by omega)
          replace yy : w12.heap.size < wr.heap.size := (by omega)
          replace R0 : Hid (Below w13.heap.size w13 wr) := R0.out.trans (hb.mono (by omega))
          clear hb
          by_cases hlt : j < v
          · have hlt1 : (j : Int) < (v : Int) := by omega
            have rg := range_std HOK.out HST.out j hlt
            have rr := rank_range HOK.out HST.out j hlt
            have HLV := Lib.hid (live_one HOK.out j hlt)
            obtain ⟨lo, hlo⟩ : ∃ x, x = lowF v xy j v (2 ^ v) := ⟨_, rfl⟩
            obtain ⟨hi, hhi⟩ : ∃ x, x = highF v xy j (-1) (2 ^ v) := ⟨_, rfl⟩
            rw [← hlo, ← hhi] at rg rr
            have HLO := Lib.hid hlo
            have HHI := Lib.hid hhi
            obtain ⟨rg1, rg2, rg3, rg4⟩ := rg
            have p1 : ¬ lo < 0 := by omega
            have p2 : ¬ (j : Int) < lo := by omega
            have p3 : ¬ hi < (j : Int) := by omega
            have p4 : ¬ (v : Int) ≤ hi := by omega
            have p5 : (lo != lo) = false := by simp
            have p6 : (hi != hi) = false := by simp
            obtain ⟨S, hS⟩ : ∃ S, S = allB (rankB v xy j) (2 ^ v) := ⟨_, rfl⟩
            rw [← hS] at rr
            have HS := Lib.hid hS
            have HRR := Lib.hid rr
            clear hlo hhi hS rr
            go_wp2_with fail
            refine (RankRange_i_yes v _ _ _ usy xy j wr Oy.out (by omega) HOK.out hlt).mono ?_
            rintro e w14 ⟨rfl, b_w14⟩
            have z_w14 := b_w14.size
            replace Oy := Lib.hid (Oy.out.later b_w14)
            replace cy0 := (b_w14.cell (p := ⟨w12.heap.size, 0, none⟩) (by show w12.heap.size < _; omega)).trans cy0
            replace cy1 := (b_w14.cell (p := ⟨w12.heap.size, 1, none⟩) (by show w12.heap.size < _; omega)).trans cy1
            replace BA : Hid (Below w.heap.size w w14) := BA.out.trans (b_w14.mono (by omega))
            replace ZA : w.heap.size ≤ w14.heap.size := (by omega)
            replace yy : w12.heap.size < w14.heap.size := (by omega)
            replace R0 : Hid (Below w13.heap.size w13 w14) := R0.out.trans (b_w14.mono (by omega))
            clear b_w14
            rw [← HLO.out, ← HHI.out]
            go_wp2_with fail
            refine (PlacesRank_i_c v _ _ _ usy xy j w14 Oy.out (by omega)).mono ?_
            rintro e w15 ⟨rfl, b_w15⟩
            have z_w15 := b_w15.size
            replace Oy := Lib.hid (Oy.out.later b_w15)
            replace cy0 := (b_w15.cell (p := ⟨w12.heap.size, 0, none⟩) (by show w12.heap.size < _; omega)).trans cy0
            replace cy1 := (b_w15.cell (p := ⟨w12.heap.size, 1, none⟩) (by show w12.heap.size < _; omega)).trans cy1
            replace BA : Hid (Below w.heap.size w w15) := BA.out.trans (b_w15.mono (by omega))
            replace ZA : w.heap.size ≤ w15.heap.size := (by omega)
            replace yy : w12.heap.size < w15.heap.size := (by omega)
            replace R0 : Hid (Below w13.heap.size w13 w15) := R0.out.trans (b_w15.mono (by omega))
            clear b_w15
            rw [show rankR (v : Int) xy (j : Int) = S from by rw [HS.out]; exact rankR_yes HOK.out hlt]
            have HAS : Hid (allB FA (j + 1) = (A && S)) := by show _ = _; rw [HA.out, HS.out, allB_succ, HFA.out]
            have HSR : Hid (S = (lo == (j : Int) && hi == (j : Int))) := HRR.out
            clear HRR
            have HCASE : (∃ b : Bool, S = b ∧ b = (lo == (j : Int) && hi == (j : Int))) := ⟨S, rfl, HSR.out⟩
            clear HCASE
            obtain ⟨AS, hAS⟩ : ∃ b, b = (A && S) := ⟨_, rfl⟩
            have HAS2 := Lib.hid hAS
            go_upto_region 24 with fail
            go_cut [12] (fun a wx => a = .bool AS ∧ w15 = wx)
            case first =>
              clear hAS
              cases A <;> cases S
              all_goals
                go_wp2_with fail
                go_meet
                case rel => exact ⟨by simp [HAS2.out], rfl⟩
            case rest =>
              clear hAS
              obtain ⟨rfl, rfl⟩ := hcut
              obtain ⟨e1, he1⟩ : ∃ b, b = (lo == (j : Int)) := ⟨_, rfl⟩
              obtain ⟨e2, he2⟩ : ∃ b, b = (hi == (j : Int)) := ⟨_, rfl⟩
              have hse : S = (e1 && e2) := by rw [he1, he2]; exact HSR.out
              clear HSR HS
              subst hse
              replace he1 := he1.symm
              replace he2 := he2.symm
              go_wp2_with fail
              obtain ⟨w16, hWw16⟩ : ∃ W, W = w15.alloc (.cells #[.int .i64 (j : Int)] 3) := ⟨_, rfl⟩
              have Iz : Hid (IntsV w16 0 w16.heap.size (.slice (some ⟨w15.heap.size, 0, none⟩) 1 1) [(j : Int)]) := by show IntsV _ _ _ _ _; rw [hWw16]; exact intsV_one w15 (j : Int)
              have b_w16 : Below w15.heap.size w15 w16 := by rw [hWw16]; exact (Below.refl _ _).alloc (Nat.le_refl _) _
              rw [← hWw16]
              clear hWw16
              have z_w16 := b_w16.size
              replace Oy := Lib.hid (Oy.out.later b_w16)
              replace cy0 := (b_w16.cell (p := ⟨w12.heap.size, 0, none⟩) (by show w12.heap.size < _; omega)).trans cy0
              replace cy1 := (b_w16.cell (p := ⟨w12.heap.size, 1, none⟩) (by show w12.heap.size < _; omega)).trans cy1
              replace BA : Hid (Below w.heap.size w w16) := BA.out.trans (b_w16.mono (by omega))
              replace ZA : w.heap.size ≤ w16.heap.size := (by omega)
              replace yy : w12.heap.size < w16.heap.size := (by omega)
              replace R0 : Hid (Below w13.heap.size w13 w16) := R0.out.trans (b_w16.mono (by omega))
              clear b_w16
              refine (LiveNetwork_y v _ _ 0 _ _ usy xy _ j w16 Oy.out (by omega) Iz.out (Nat.le_refl _) HOK.out hlt).mono ?_
              rintro e w17 ⟨qz, usz, rfl, oz, b_w17⟩
              clear Iz
              obtain ⟨xz, hxz⟩ : ∃ X, X = liveX v xy [(j : Int)] := ⟨_, rfl⟩
              rw [← hxz] at oz HLV
              clear hxz
              obtain ⟨aoz, gz, capz, ez, -, -, -⟩ := oz.rows
              obtain ⟨Lz, hLz⟩ : ∃ L, L = xz.length := ⟨_, rfl⟩
              rw [← hLz] at ez
              subst ez
              have HNz := Lib.hid hLz
              clear hLz
              have z_w17 := b_w17.size
              replace Oy := Lib.hid (Oy.out.later b_w17)
              replace cy0 := (b_w17.cell (p := ⟨w12.heap.size, 0, none⟩) (by show w12.heap.size < _; omega)).trans cy0
              replace cy1 := (b_w17.cell (p := ⟨w12.heap.size, 1, none⟩) (by show w12.heap.size < _; omega)).trans cy1
              replace BA : Hid (Below w.heap.size w w17) := BA.out.trans (b_w17.mono (by omega))
              replace ZA : w.heap.size ≤ w17.heap.size := (by omega)
              replace yy : w12.heap.size < w17.heap.size := (by omega)
              replace R0 : Hid (Below w13.heap.size w13 w17) := R0.out.trans (b_w17.mono (by omega))
              clear b_w17
              have Oz := Lib.hid oz
              clear oz
              go_wp2_with fail
              obtain ⟨w18, hWw18, cz0, cz1, hzw18, b_w18, -, -⟩ := box2 w17 (.int .i64 v) (.slice aoz Lz capz) 27
              rw [hWw18]
              clear hWw18
              have zz_w18 : w17.heap.size < w18.heap.size := (by omega)
              clear hzw18
              have z_w18 := b_w18.size
              replace Oy := Lib.hid (Oy.out.later b_w18)
              replace Oz := Lib.hid (Oz.out.later b_w18)
              replace cy0 := (b_w18.cell (p := ⟨w12.heap.size, 0, none⟩) (by show w12.heap.size < _; omega)).trans cy0
              replace cy1 := (b_w18.cell (p := ⟨w12.heap.size, 1, none⟩) (by show w12.heap.size < _; omega)).trans cy1
              replace BA : Hid (Below w.heap.size w w18) := BA.out.trans (b_w18.mono (by omega))
              replace ZA : w.heap.size ≤ w18.heap.size := (by omega)
              replace yy : w12.heap.size < w18.heap.size := (by omega)
              replace R0 : Hid (Below w13.heap.size w13 w18) := R0.out.trans (b_w18.mono (by omega))
              clear b_w18
              have yz : w17.heap.size < w18.heap.size := zz_w18
              have p7 : ¬ (Ly : Int) < (Lz : Int) := by have := HLV.out.2.2.2.1; have := HNy.out; have := HNz.out; omega
              refine (RankRange_i_yes v _ _ _ usz xz j w18 Oz.out (by omega) HLV.out.2.2.1 hlt).mono ?_
              rintro e w19 ⟨rfl, b_w19⟩
              have z_w19 := b_w19.size
              replace Oy := Lib.hid (Oy.out.later b_w19)
              replace Oz := Lib.hid (Oz.out.later b_w19)
              replace cy0 := (b_w19.cell (p := ⟨w12.heap.size, 0, none⟩) (by show w12.heap.size < _; omega)).trans cy0
              replace cy1 := (b_w19.cell (p := ⟨w12.heap.size, 1, none⟩) (by show w12.heap.size < _; omega)).trans cy1
              replace cz0 := (b_w19.cell (p := ⟨w17.heap.size, 0, none⟩) (by show w17.heap.size < _; omega)).trans cz0
              replace cz1 := (b_w19.cell (p := ⟨w17.heap.size, 1, none⟩) (by show w17.heap.size < _; omega)).trans cz1
              replace BA : Hid (Below w.heap.size w w19) := BA.out.trans (b_w19.mono (by omega))
              replace ZA : w.heap.size ≤ w19.heap.size := (by omega)
              replace yy : w12.heap.size < w19.heap.size := (by omega)
              replace yz : w17.heap.size < w19.heap.size := (by omega)
              replace R0 : Hid (Below w13.heap.size w13 w19) := R0.out.trans (b_w19.mono (by omega))
              clear b_w19
              rw [HLV.out.2.2.2.2.1, HLV.out.2.2.2.2.2, ← HLO.out, ← HHI.out]
              cases e1 <;> cases e2
              all_goals
                go_wp2
                go_roundw
                case rel => exact ⟨j + 1, by omega, by go_num, by rw [HAS.out, HAS2.out], R0.out⟩
                case measure => simp [intOf]; omega
          · have hlt1 : ¬ (j : Int) < (v : Int) := by omega
            have HE : Hid (A = sortsR v xy) := by show _ = _; rw [HA.out, show j = v by omega, ← rank_all HOK.out, HFA.out]
            clear hlt R0 HA
            go_wp2_with fail
            refine (IsSorting_i v _ _ _ usy xy wr Oy.out (by omega)).mono ?_
            rintro e w20 ⟨rfl, b_w20⟩
            have z_w20 := b_w20.size
            replace Oy := Lib.hid (Oy.out.later b_w20)
            replace cy0 := (b_w20.cell (p := ⟨w12.heap.size, 0, none⟩) (by show w12.heap.size < _; omega)).trans cy0
            replace cy1 := (b_w20.cell (p := ⟨w12.heap.size, 1, none⟩) (by show w12.heap.size < _; omega)).trans cy1
            replace BA : Hid (Below w.heap.size w w20) := BA.out.trans (b_w20.mono (by omega))
            replace ZA : w.heap.size ≤ w20.heap.size := (by omega)
            replace yy : w12.heap.size < w20.heap.size := (by omega)
            clear b_w20
            rw [← HE.out]
            have pa : (A != A) = false := by simp
            go_wp2_with fail
            refine (MakeSize_c w.heap.size N 2 (0) (3) _ w20 (HV.out.kept fun k hk => BA.out.block k hk) ZA hN (by omega) (by omega) (by omega)).mono ?_
            rintro e w21 ⟨a, rfl, a_lo, a_hi, b_w21⟩
            have z_w21 := b_w21.size
            replace Oy := Lib.hid (Oy.out.later b_w21)
            replace cy0 := (b_w21.cell (p := ⟨w12.heap.size, 0, none⟩) (by show w12.heap.size < _; omega)).trans cy0
            replace cy1 := (b_w21.cell (p := ⟨w12.heap.size, 1, none⟩) (by show w12.heap.size < _; omega)).trans cy1
            replace BA : Hid (Below w.heap.size w w21) := BA.out.trans (b_w21.mono (by omega))
            replace ZA : w.heap.size ≤ w21.heap.size := (by omega)
            replace yy : w12.heap.size < w21.heap.size := (by omega)
            clear b_w21
            have F3 := Lib.hid (fin_merge a a_hi)
            clear hj
            go_wp2_with fail
            refine (OddEvenMerge_y a a_hi w21).mono ?_
            rintro e w22 ⟨qu, usu, rfl, ou, b_w22⟩
            obtain ⟨xu, hxu⟩ : ∃ X, X = XOddEvenMerge (a : Int) 3 := ⟨_, rfl⟩
            rw [← hxu] at ou
            have HXu := Lib.hid hxu
            clear hxu
            obtain ⟨aou, gu, capu, eu, -, -, -⟩ := ou.rows
            obtain ⟨Lu, hLu⟩ : ∃ L, L = xu.length := ⟨_, rfl⟩
            rw [← hLu] at eu
            subst eu
            have HNu := Lib.hid hLu
            clear hLu
            have z_w22 := b_w22.size
            replace Oy := Lib.hid (Oy.out.later b_w22)
            replace cy0 := (b_w22.cell (p := ⟨w12.heap.size, 0, none⟩) (by show w12.heap.size < _; omega)).trans cy0
            replace cy1 := (b_w22.cell (p := ⟨w12.heap.size, 1, none⟩) (by show w12.heap.size < _; omega)).trans cy1
            replace BA : Hid (Below w.heap.size w w22) := BA.out.trans (b_w22.mono (by omega))
            replace ZA : w.heap.size ≤ w22.heap.size := (by omega)
            replace yy : w12.heap.size < w22.heap.size := (by omega)
            clear b_w22
            have Ou := Lib.hid ou
            clear ou
            go_wp2_with fail
            obtain ⟨w23, hWw23, cu0, cu1, hzw23, b_w23, -, -⟩ := box2 w22 (.int .i64 ((a : Int) + 3)) (.slice aou Lu capu) 27
            rw [hWw23]
            clear hWw23
            have zz_w23 : w22.heap.size < w23.heap.size := (by omega)
            clear hzw23
            have z_w23 := b_w23.size
            replace Oy := Lib.hid (Oy.out.later b_w23)
            replace Ou := Lib.hid (Ou.out.later b_w23)
            replace cy0 := (b_w23.cell (p := ⟨w12.heap.size, 0, none⟩) (by show w12.heap.size < _; omega)).trans cy0
            replace cy1 := (b_w23.cell (p := ⟨w12.heap.size, 1, none⟩) (by show w12.heap.size < _; omega)).trans cy1
            replace BA : Hid (Below w.heap.size w w23) := BA.out.trans (b_w23.mono (by omega))
            replace ZA : w.heap.size ≤ w23.heap.size := (by omega)
            replace yy : w12.heap.size < w23.heap.size := (by omega)
            clear b_w23
            have yu : w22.heap.size < w23.heap.size := zz_w23
            go_loopw [24] (fun i wr => ∃ j : Nat, j ≤ a + 3 ∧ i = .int .i64 j ∧ Below w23.heap.size w23 wr) (fun i _ => a + 3 - (intOf i).toNat)
            case atStart => exact ⟨0, Nat.zero_le _, rfl, Below.refl _ _⟩
            case round =>
              obtain ⟨i, hi9, rfl, hb⟩ := hrel
              have R0 : Hid (Below w23.heap.size w23 w23) := Below.refl _ _
              have z_wr := hb.size
              replace Oy := Lib.hid (Oy.out.later hb)
              replace Ou := Lib.hid (Ou.out.later hb)
              replace cy0 := (hb.cell (p := ⟨w12.heap.size, 0, none⟩) (by show w12.heap.size < _; omega)).trans cy0
              replace cy1 := (hb.cell (p := ⟨w12.heap.size, 1, none⟩) (by show w12.heap.size < _; omega)).trans cy1
              replace cu0 := (hb.cell (p := ⟨w22.heap.size, 0, none⟩) (by show w22.heap.size < _; omega)).trans cu0
              replace cu1 := (hb.cell (p := ⟨w22.heap.size, 1, none⟩) (by show w22.heap.size < _; omega)).trans cu1
              replace BA : Hid (Below w.heap.size w wr) := BA.out.trans (hb.mono (by omega))
              replace ZA : w.heap.size ≤ wr.heap.size := (by omega)
              replace yy : w12.heap.size < wr.heap.size := (by omega)
              replace yu : w22.heap.size < wr.heap.size := (by omega)
              replace R0 : Hid (Below w23.heap.size w23 wr) := R0.out.trans (hb.mono (by omega))
              clear hb
              by_cases hlt : i < a + 3
              · have hlt1 : (i : Int) < (a : Int) + 3 := by omega
                go_wp2_with fail
                refine (MergesToRank_i_c ((a : Int) + 3) _ _ _ usu xu a i wr Ou.out (by omega)).mono ?_
                rintro e w24 ⟨rfl, b_w24⟩
                rw [show mtrR ((a : Int) + 3) xu (a : Int) (i : Int) = true from by rw [HXu.out]; exact F3.out.2 i hlt]
                have z_w24 := b_w24.size
                replace Oy := Lib.hid (Oy.out.later b_w24)
                replace Ou := Lib.hid (Ou.out.later b_w24)
                replace cy0 := (b_w24.cell (p := ⟨w12.heap.size, 0, none⟩) (by show w12.heap.size < _; omega)).trans cy0
                replace cy1 := (b_w24.cell (p := ⟨w12.heap.size, 1, none⟩) (by show w12.heap.size < _; omega)).trans cy1
                replace cu0 := (b_w24.cell (p := ⟨w22.heap.size, 0, none⟩) (by show w22.heap.size < _; omega)).trans cu0
                replace cu1 := (b_w24.cell (p := ⟨w22.heap.size, 1, none⟩) (by show w22.heap.size < _; omega)).trans cu1
                replace BA : Hid (Below w.heap.size w w24) := BA.out.trans (b_w24.mono (by omega))
                replace ZA : w.heap.size ≤ w24.heap.size := (by omega)
                replace yy : w12.heap.size < w24.heap.size := (by omega)
                replace yu : w22.heap.size < w24.heap.size := (by omega)
                replace R0 : Hid (Below w23.heap.size w23 w24) := R0.out.trans (b_w24.mono (by omega))
                clear b_w24
                go_wp2
                go_roundw
                case rel => exact ⟨i + 1, by omega, by go_num, R0.out⟩
                case measure => simp [intOf]; omega
              · have hlt1 : ¬ (i : Int) < (a : Int) + 3 := by omega
                clear hlt R0
                go_wp2_with fail
                refine (IsSelecting_i_c v _ _ _ usy xy 0 wr Oy.out (by omega)).mono ?_
                rintro e w25 ⟨rfl, b_w25⟩
                rw [show selR (v : Int) xy 0 = true from (sel_ends HOK.out).1]
                have z_w25 := b_w25.size
                replace Oy := Lib.hid (Oy.out.later b_w25)
                replace Ou := Lib.hid (Ou.out.later b_w25)
                replace cy0 := (b_w25.cell (p := ⟨w12.heap.size, 0, none⟩) (by show w12.heap.size < _; omega)).trans cy0
                replace cy1 := (b_w25.cell (p := ⟨w12.heap.size, 1, none⟩) (by show w12.heap.size < _; omega)).trans cy1
                replace cu0 := (b_w25.cell (p := ⟨w22.heap.size, 0, none⟩) (by show w22.heap.size < _; omega)).trans cu0
                replace cu1 := (b_w25.cell (p := ⟨w22.heap.size, 1, none⟩) (by show w22.heap.size < _; omega)).trans cu1
                replace BA : Hid (Below w.heap.size w w25) := BA.out.trans (b_w25.mono (by omega))
                replace ZA : w.heap.size ≤ w25.heap.size := (by omega)
                replace yy : w12.heap.size < w25.heap.size := (by omega)
                replace yu : w22.heap.size < w25.heap.size := (by omega)
                clear b_w25
                go_wp2_with fail
                refine (IsSelecting_i_c v _ _ _ usy xy v w25 Oy.out (by omega)).mono ?_
                rintro e w26 ⟨rfl, b_w26⟩
                rw [show selR (v : Int) xy (v : Int) = true from (sel_ends HOK.out).2]
                have z_w26 := b_w26.size
                replace Oy := Lib.hid (Oy.out.later b_w26)
                replace Ou := Lib.hid (Ou.out.later b_w26)
                replace cy0 := (b_w26.cell (p := ⟨w12.heap.size, 0, none⟩) (by show w12.heap.size < _; omega)).trans cy0
                replace cy1 := (b_w26.cell (p := ⟨w12.heap.size, 1, none⟩) (by show w12.heap.size < _; omega)).trans cy1
                replace cu0 := (b_w26.cell (p := ⟨w22.heap.size, 0, none⟩) (by show w22.heap.size < _; omega)).trans cu0
                replace cu1 := (b_w26.cell (p := ⟨w22.heap.size, 1, none⟩) (by show w22.heap.size < _; omega)).trans cu1
                replace BA : Hid (Below w.heap.size w w26) := BA.out.trans (b_w26.mono (by omega))
                replace ZA : w.heap.size ≤ w26.heap.size := (by omega)
                replace yy : w12.heap.size < w26.heap.size := (by omega)
                replace yu : w22.heap.size < w26.heap.size := (by omega)
                clear b_w26
                go_wp2
                go_ret
                exact ⟨rfl, BA.out⟩
end Go.Proofs.Ytgdkihabphihoaa
