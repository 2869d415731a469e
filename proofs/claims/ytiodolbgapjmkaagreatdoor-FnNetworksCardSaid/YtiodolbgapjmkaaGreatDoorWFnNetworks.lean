/- The walk of the law FnNetworks: it returns true, whatever the code. Conditions: a variable of the library holds an int. -/
import Derived.Test.YtiodolbgapjmkaaGreatDoorPNet
import Derived.Test.YtiodolbgapjmkaaGreatDoorNameN
import Derived.Test.YtiodolbgapjmkaaGreatDoorJoinC
import Derived.Test.YtiodolbgapjmkaaGreatDoorTxtR
import Derived.Test.YtiodolbgapjmkaaGreatDoorSumC
import Derived.Test.YtiodolbgapjmkaaGreatDoorSortL
import Derived.Test.YtiodolbgapjmkaaGreatDoorSameC
import Derived.Test.YtiodolbgapjmkaaGreatDoorMake
import Derived.Test.YtiodolbgapjmkaaGreatDoorOrder
import Derived.Deep.DeepCutAuto
import Derived.Deep.RegionHeld3
namespace Go.Proofs.YtiodolbgapjmkaaGreatDoor
open Go.RowKit
set_option maxRecDepth 100000
set_option linter.unusedVariables false
set_option linter.unusedSimpArgs false

set_option maxHeartbeats 16000000 in
theorem FnNetworks_core (w : World) (N : Nat) (cv : Value) (mm : Int) (hmm : w.cell? ⟨0, 0, none⟩ = some (.int .i64 mm)) (h00 : 0 < w.heap.size) (hv : BytesV w w.heap.size cv N) : Calls Tryz.prog 3 #[cv] w fun e w' => e = .returned (.bool true) ∧ Below w.heap.size w w' := by
  have HV := Lib.hid hv
  obtain ⟨cao, cb, coff, ccap, ecv, -, -, -⟩ := id hv
  subst ecv
  clear hv
  by_cases hN : N ≤ 1048576
  rotate_left
  · have hN' : (1048576 : Int) < (N : Int) := by omega
    go_enter Tryz.func3, Tryz.ntmps3
    go_wp2_with fail
    go_ret
    exact ⟨rfl, Below.refl _ _⟩
  have hN' : ¬ (1048576 : Int) < (N : Int) := by omega
  have HMM : Hid (∀ w1, Below w.heap.size w w1 → w1.cell? ⟨0, 0, none⟩ = some (.int .i64 mm)) := fun w1 h1 => (h1.cell (p := ⟨0, 0, none⟩) h00).trans hmm
  clear hmm
  go_enter Tryz.func3, Tryz.ntmps3
  have BA : Hid (Below w.heap.size w w) := Below.refl _ _
  have ZA : w.heap.size ≤ w.heap.size := Nat.le_refl _
  go_wp2_with fail
  refine (MakeNetwork_c w.heap.size N 0 _ w (HV.out.kept fun k hk => BA.out.block k hk) ZA hN (by omega)).mono ?_
  rintro e w1 ⟨n, qx, usx, xx, rfl, hdrw, ox, b_w1⟩
  obtain ⟨aox, gx, capx, ex, -, -, -⟩ := ox.rows
  obtain ⟨Lx, hLx⟩ : ∃ L, L = xx.length := ⟨_, rfl⟩
  rw [← hLx] at ex
  subst ex
  have HNx := Lib.hid hLx
  clear hLx
  have z_w1 := b_w1.size
  replace BA : Hid (Below w.heap.size w w1) := BA.out.trans (b_w1.mono (by omega))
  replace ZA : w.heap.size ≤ w1.heap.size := (by omega)
  clear b_w1
  have Ox := Lib.hid ox
  clear ox
  go_wp2_with fail
  obtain ⟨w2, hWw2, cx0, cx1, hzw2, b_w2, -, -⟩ := box2 w1 (.int .i64 n) (.slice aox Lx capx) 25
  rw [hWw2]
  clear hWw2
  have zz_w2 : w1.heap.size < w2.heap.size := (by omega)
  have HZ_w2 := Lib.hid hzw2
  clear hzw2
  have z_w2 := b_w2.size
  replace Ox := Lib.hid (Ox.out.later b_w2)
  replace BA : Hid (Below w.heap.size w w2) := BA.out.trans (b_w2.mono (by omega))
  replace ZA : w.heap.size ≤ w2.heap.size := (by omega)
  clear b_w2
  have yx : w1.heap.size < w2.heap.size := zz_w2
  obtain ⟨n1, n6, hpx, hx12⟩ := hdrw
  have XOK : Hid (netOk (n : Nat) xx = true) := netOk_of_pairUp hpx n1 (by omega) (by omega)
  have HPX := Lib.hid hpx
  have HX12 := Lib.hid hx12
  have hLx12 : Lx ≤ 12 := by rw [HNx.out]; exact hx12
  clear hpx hx12
  go_wp2_with fail
  refine (LevelsOf_y n _ _ _ usx xx w2 Ox.out (by omega) XOK.out).mono ?_
  rintro e w3 ⟨ql, rfl, ol, b_w3⟩
  obtain ⟨xl, hxl⟩ : ∃ X, X = levelsP xx xx.length := ⟨_, rfl⟩
  rw [← hxl] at ol
  have HXl := Lib.hid hxl
  clear hxl
  obtain ⟨aol, gl, capl, el, -, -, -⟩ := OwnI.view ol
  obtain ⟨Ll, hLl⟩ : ∃ L, L = xl.length := ⟨_, rfl⟩
  rw [← hLl] at el
  subst el
  have HNl := Lib.hid hLl
  clear hLl
  have z_w3 := b_w3.size
  replace Ox := Lib.hid (Ox.out.later b_w3)
  replace cx0 := (b_w3.cell (p := ⟨w1.heap.size, 0, none⟩) (by show w1.heap.size < _; omega)).trans cx0
  replace cx1 := (b_w3.cell (p := ⟨w1.heap.size, 1, none⟩) (by show w1.heap.size < _; omega)).trans cx1
  replace BA : Hid (Below w.heap.size w w3) := BA.out.trans (b_w3.mono (by omega))
  replace ZA : w.heap.size ≤ w3.heap.size := (by omega)
  replace yx : w1.heap.size < w3.heap.size := (by omega)
  clear b_w3
  have Ol := Lib.hid ol
  clear ol
  have hLl : Ll = Lx := by rw [HNl.out, HXl.out, levelsP_len, HNx.out]
  subst hLl
  obtain ⟨gx', haox, hcapx, hrowx⟩ := rowsX Ox.out HNx.out HPX.out
  obtain ⟨gl', haol, hcapl, hrowl⟩ := intsX Ol.out HNl.out
  have HRX := Lib.hid hrowx
  have HRL : Hid (∀ k, k < Ll → w3.cell? ⟨gl', k, none⟩ = some (.int .i64 (lvAt xx k : Nat))) := fun k hk => by
    have := hrowl k hk
    rw [HXl.out] at this
    rw [this]
    have hk' : k < xx.length := by rw [← HNx.out]; exact hk
    simp [levelsP, List.getD, hk']
  have HAX := Lib.hid haox
  have HAL := Lib.hid haol
  have HLV1 : Hid (∀ k, 1 ≤ lvAt xx k) := fun k => lvAt_pos xx k
  have HLVM : Hid (∀ k i, k < i → meetB (xx.getD i []) (xx.getD k []) = true → lvAt xx k < lvAt xx i) := fun k i h1 h2 => lvAt_meet h1 h2
  have HLVL : Hid (∀ k, lvAt xx k ≤ k + 1) := fun k => lvAt_le xx k
  have HDPL : Hid (∀ k, depthP xx k ≤ k) := fun k => depthP_le xx k
  have HDPS : Hid (∀ k, ((depthP xx (k + 1) : Nat) : Int) = max (depthP xx k : Int) (lvAt xx k : Int)) := fun k => by
    show ((max (depthP xx k) (lvAt xx k) : Nat) : Int) = _
    omega
  clear hrowx hrowl haox haol
  go_wp2_with fail
  go_loopw [6, 59] (fun h i wr => ∃ k : Nat, k ≤ Ll ∧ i = .int .i64 k ∧ h = .int .i64 (depthP xx k : Nat) ∧ Below w3.heap.size w3 wr) (fun _ i _ => Ll - (intOf i).toNat)
  case atStart => exact ⟨0, Nat.zero_le _, rfl, rfl, Below.refl _ _⟩
  case round =>
    obtain ⟨k, hk, rfl, rfl, hb⟩ := hrel
    have R0 : Hid (Below w3.heap.size w3 w3) := Below.refl _ _
    have z_wr := hb.size
    replace Ox := Lib.hid (Ox.out.later hb)
    replace Ol := Lib.hid (Ol.out.later hb)
    replace cx0 := (hb.cell (p := ⟨w1.heap.size, 0, none⟩) (by show w1.heap.size < _; omega)).trans cx0
    replace cx1 := (hb.cell (p := ⟨w1.heap.size, 1, none⟩) (by show w1.heap.size < _; omega)).trans cx1
    replace BA : Hid (Below w.heap.size w wr) := BA.out.trans (hb.mono (by omega))
    replace ZA : w.heap.size ≤ wr.heap.size := (by omega)
    replace yx : w1.heap.size < wr.heap.size := (by omega)
    replace R0 : Hid (Below w3.heap.size w3 wr) := R0.out.trans (hb.mono (by omega))
    clear hb
    by_cases hlt : k < Ll
    · have hki : (k : Int) < (Ll : Int) := by omega
      obtain ⟨rfl, hgx⟩ := HAX.out (by omega)
      obtain ⟨rfl, hgl⟩ := HAL.out (by omega)
      obtain ⟨p0, p1, GP, CP, erk, rk0, rk1, rk2, rk3⟩ := HRX.out k hlt
      have lk0 := HRL.out k hlt
      have hkc : (k : Int) ≤ (capx : Int) := by omega
      have hk0 : (0 : Int) ≤ (k : Int) := by omega
      have hGP : GP < wr.heap.size := by omega
      have hgxw : gx' < wr.heap.size := by omega
      have hglw : gl' < wr.heap.size := by omega
      replace rk0 := (R0.out.cell (p := ⟨gx', k, none⟩) (by show gx' < _; omega)).trans rk0
      replace rk2 := (R0.out.cell (p := ⟨GP, 0, none⟩) (by show GP < _; omega)).trans rk2
      replace rk3 := (R0.out.cell (p := ⟨GP, 1, none⟩) (by show GP < _; omega)).trans rk3
      replace lk0 := (R0.out.cell (p := ⟨gl', k, none⟩) (by show gl' < _; omega)).trans lk0
      have hdl := HDPL.out k
      have hll := HLVL.out k
      have hl1 := HLV1.out k
      have HDS := Lib.hid (HDPS.out k)
      obtain ⟨dk, hdk⟩ : ∃ d, d = depthP xx k := ⟨_, rfl⟩
      obtain ⟨lk, hlk⟩ : ∃ d, d = lvAt xx k := ⟨_, rfl⟩
      rw [← hdk] at hdl HDS ⊢
      rw [← hlk] at lk0 hll hl1 HDS
      have HLK := Lib.hid hlk
      have ERK := Lib.hid erk
      clear hdk hlk erk
      go_wp2_with fail
      obtain ⟨wk, rfl⟩ : ∃ W : World, W = wr := ⟨_, rfl⟩
      go_loopw [75] (fun i wr => ∃ q : Nat, q ≤ k ∧ i = .int .i64 q ∧ Below wk.heap.size wk wr) (fun i _ => k - (intOf i).toNat)
      case atStart => exact ⟨0, Nat.zero_le _, rfl, Below.refl _ _⟩
      case round =>
        obtain ⟨q, hq, rfl, hb⟩ := hrel
        have HBQ := Lib.hid hb
        have hzq := hb.size
        by_cases hltq : q < k
        · have hqi : (q : Int) < (k : Int) := by omega
          obtain ⟨q0, q1, GQ, CQ, erq, rq0, rq1, rq2, rq3⟩ := HRX.out q (by omega)
          have lq0 := HRL.out q (by omega)
          have hGQ : GQ < wr.heap.size := by omega
          have hGPw : GP < wr.heap.size := by omega
          have hgxr : gx' < wr.heap.size := by omega
          have hglr : gl' < wr.heap.size := by omega
          have HWR : Hid (Below w3.heap.size w3 wr) := R0.out.trans (hb.mono (by omega))
          replace rq0 := (HWR.out.cell (p := ⟨gx', q, none⟩) (by show gx' < _; omega)).trans rq0
          replace rq2 := (HWR.out.cell (p := ⟨GQ, 0, none⟩) (by show GQ < _; omega)).trans rq2
          replace rq3 := (HWR.out.cell (p := ⟨GQ, 1, none⟩) (by show GQ < _; omega)).trans rq3
          have lq1 := (HWR.out.cell (p := ⟨gl', q, none⟩) (by show gl' < _; omega)).trans lq0
          have sk2 := (hb.cell (p := ⟨GP, 0, none⟩) (by show GP < _; omega)).trans rk2
          have sk3 := (hb.cell (p := ⟨GP, 1, none⟩) (by show GP < _; omega)).trans rk3
          have mk0 := (hb.cell (p := ⟨gl', k, none⟩) (by show gl' < _; omega)).trans lk0
          have hlql := HLVL.out q
          have HMT : Hid (meetB (xx.getD k []) (xx.getD q []) = true → lvAt xx q < lk) := fun h => by rw [HLK.out]; exact HLVM.out q k hltq h
          have HME : Hid (∀ e : Prop, (p0 = q0 ∨ p0 = q1 ∨ p1 = q0 ∨ p1 = q1) → meetB (xx.getD k []) (xx.getD q []) = true) := fun e h => by
            rw [ERK.out, erq]
            simp [meetB]
            omega
          obtain ⟨lq, hlq⟩ : ∃ d, d = lvAt xx q := ⟨_, rfl⟩
          rw [← hlq] at lq0 lq1 hlql HMT
          have hl2 : ¬ (lk : Int) < 1 := by omega
          have hqL : (q : Int) < (Ll : Int) := by omega
          have hq00 : (0 : Int) ≤ (q : Int) := by omega
          clear hlq erq hb lq0 rk2 rk3 lk0 rk0
          by_cases e0 : p0 = q0
          · have t0 : ((p0 : Int) == (q0 : Int)) = true := by simp; omega
            have hlm : ¬ (lk : Int) ≤ (lq : Int) := by have := HMT.out (HME.out True (by omega)); omega
            have hlm2 : ¬ lk ≤ lq := by omega
            have hlm3 : decide ((lk : Int) ≤ (lq : Int)) = false := decide_eq_false hlm
            have hlm4 : decide (lk ≤ lq) = false := decide_eq_false hlm2
            have hlm5 : decide ((lq : Int) ≥ (lk : Int)) = false := decide_eq_false hlm
            have hlm6 : decide (lq < lk) = true := decide_eq_true (by omega)
            have hlm7 : lq < lk := by omega
            clear e0
            go_wp2_with fail
            refine wp_region_later wr.heap.size wr (by kernel_rfl) (by kernel_rfl) (Below.refl _ _) ?_
            have hLW := LW.cells (B := wr.heap.size) (w0 := wr)
            repeat (go_big_quiet_step (fail))
            refine wpQuiet_nil ?_
            rintro wA ⟨⟨w2s, hA⟩, rfl⟩
            clear hLW
            have lq2 := (hA.cell (p := ⟨gl', q, none⟩) hglr).trans lq1
            have mk2 := (hA.cell (p := ⟨gl', k, none⟩) hglr).trans mk0
            have hglA : gl' < wA.heap.size := by have := hA.size; omega
            have HBA := Lib.hid (HBQ.out.trans (hA.mono hzq))
            have hzA := hA.size
            clear hA
            go_wp2_with fail
            refine wp_region_later wA.heap.size wA (by kernel_rfl) (by kernel_rfl) (Below.refl _ _) ?_
            have hLW := LW.cells (B := wA.heap.size) (w0 := wA)
            repeat (go_big_quiet_step (fail))
            refine wpQuiet_nil ?_
            rintro wB ⟨⟨w2s, hB⟩, rfl⟩
            clear hLW
            go_wp2_with fail
            go_roundw
            case rel => exact ⟨q + 1, by omega, by go_num, HBA.out.trans (hB.mono (by omega))⟩
            case measure => simp [intOf]; omega
          · by_cases e1 : p0 = q1
            · have t0 : ((p0 : Int) == (q0 : Int)) = false := by simp; omega
              have t1 : ((p0 : Int) == (q1 : Int)) = true := by simp; omega
              have hlm : ¬ (lk : Int) ≤ (lq : Int) := by have := HMT.out (HME.out True (by omega)); omega
              have hlm2 : ¬ lk ≤ lq := by omega
              have hlm3 : decide ((lk : Int) ≤ (lq : Int)) = false := decide_eq_false hlm
              have hlm4 : decide (lk ≤ lq) = false := decide_eq_false hlm2
              have hlm5 : decide ((lq : Int) ≥ (lk : Int)) = false := decide_eq_false hlm
              have hlm6 : decide (lq < lk) = true := decide_eq_true (by omega)
              have hlm7 : lq < lk := by omega
              clear e0
              clear e1
              go_wp2_with fail
              refine wp_region_later wr.heap.size wr (by kernel_rfl) (by kernel_rfl) (Below.refl _ _) ?_
              have hLW := LW.cells (B := wr.heap.size) (w0 := wr)
              repeat (go_big_quiet_step (fail))
              refine wpQuiet_nil ?_
              rintro wA ⟨⟨w2s, hA⟩, rfl⟩
              clear hLW
              have lq2 := (hA.cell (p := ⟨gl', q, none⟩) hglr).trans lq1
              have mk2 := (hA.cell (p := ⟨gl', k, none⟩) hglr).trans mk0
              have hglA : gl' < wA.heap.size := by have := hA.size; omega
              have HBA := Lib.hid (HBQ.out.trans (hA.mono hzq))
              have hzA := hA.size
              clear hA
              go_wp2_with fail
              refine wp_region_later wA.heap.size wA (by kernel_rfl) (by kernel_rfl) (Below.refl _ _) ?_
              have hLW := LW.cells (B := wA.heap.size) (w0 := wA)
              repeat (go_big_quiet_step (fail))
              refine wpQuiet_nil ?_
              rintro wB ⟨⟨w2s, hB⟩, rfl⟩
              clear hLW
              go_wp2_with fail
              go_roundw
              case rel => exact ⟨q + 1, by omega, by go_num, HBA.out.trans (hB.mono (by omega))⟩
              case measure => simp [intOf]; omega
            · by_cases e2 : p1 = q0
              · have t0 : ((p0 : Int) == (q0 : Int)) = false := by simp; omega
                have t1 : ((p0 : Int) == (q1 : Int)) = false := by simp; omega
                have t2 : ((p1 : Int) == (q0 : Int)) = true := by simp; omega
                have hlm : ¬ (lk : Int) ≤ (lq : Int) := by have := HMT.out (HME.out True (by omega)); omega
                have hlm2 : ¬ lk ≤ lq := by omega
                have hlm3 : decide ((lk : Int) ≤ (lq : Int)) = false := decide_eq_false hlm
                have hlm4 : decide (lk ≤ lq) = false := decide_eq_false hlm2
                have hlm5 : decide ((lq : Int) ≥ (lk : Int)) = false := decide_eq_false hlm
                have hlm6 : decide (lq < lk) = true := decide_eq_true (by omega)
                have hlm7 : lq < lk := by omega
                clear e0
                clear e1
                clear e2
                go_wp2_with fail
                refine wp_region_later wr.heap.size wr (by kernel_rfl) (by kernel_rfl) (Below.refl _ _) ?_
                have hLW := LW.cells (B := wr.heap.size) (w0 := wr)
                repeat (go_big_quiet_step (fail))
                refine wpQuiet_nil ?_
                rintro wA ⟨⟨w2s, hA⟩, rfl⟩
                clear hLW
                have lq2 := (hA.cell (p := ⟨gl', q, none⟩) hglr).trans lq1
                have mk2 := (hA.cell (p := ⟨gl', k, none⟩) hglr).trans mk0
                have hglA : gl' < wA.heap.size := by have := hA.size; omega
                have HBA := Lib.hid (HBQ.out.trans (hA.mono hzq))
                have hzA := hA.size
                clear hA
                go_wp2_with fail
                refine wp_region_later wA.heap.size wA (by kernel_rfl) (by kernel_rfl) (Below.refl _ _) ?_
                have hLW := LW.cells (B := wA.heap.size) (w0 := wA)
                repeat (go_big_quiet_step (fail))
                refine wpQuiet_nil ?_
                rintro wB ⟨⟨w2s, hB⟩, rfl⟩
                clear hLW
                go_wp2_with fail
                go_roundw
                case rel => exact ⟨q + 1, by omega, by go_num, HBA.out.trans (hB.mono (by omega))⟩
                case measure => simp [intOf]; omega
              · by_cases e3 : p1 = q1
                · have t0 : ((p0 : Int) == (q0 : Int)) = false := by simp; omega
                  have t1 : ((p0 : Int) == (q1 : Int)) = false := by simp; omega
                  have t2 : ((p1 : Int) == (q0 : Int)) = false := by simp; omega
                  have t3 : ((p1 : Int) == (q1 : Int)) = true := by simp; omega
                  have hlm : ¬ (lk : Int) ≤ (lq : Int) := by have := HMT.out (HME.out True (by omega)); omega
                  have hlm2 : ¬ lk ≤ lq := by omega
                  have hlm3 : decide ((lk : Int) ≤ (lq : Int)) = false := decide_eq_false hlm
                  have hlm4 : decide (lk ≤ lq) = false := decide_eq_false hlm2
                  have hlm5 : decide ((lq : Int) ≥ (lk : Int)) = false := decide_eq_false hlm
                  have hlm6 : decide (lq < lk) = true := decide_eq_true (by omega)
                  have hlm7 : lq < lk := by omega
                  clear e0
                  clear e1
                  clear e2
                  clear e3
                  go_wp2_with fail
                  refine wp_region_later wr.heap.size wr (by kernel_rfl) (by kernel_rfl) (Below.refl _ _) ?_
                  have hLW := LW.cells (B := wr.heap.size) (w0 := wr)
                  repeat (go_big_quiet_step (fail))
                  refine wpQuiet_nil ?_
                  rintro wA ⟨⟨w2s, hA⟩, rfl⟩
                  clear hLW
                  have lq2 := (hA.cell (p := ⟨gl', q, none⟩) hglr).trans lq1
                  have mk2 := (hA.cell (p := ⟨gl', k, none⟩) hglr).trans mk0
                  have hglA : gl' < wA.heap.size := by have := hA.size; omega
                  have HBA := Lib.hid (HBQ.out.trans (hA.mono hzq))
                  have hzA := hA.size
                  clear hA
                  go_wp2_with fail
                  refine wp_region_later wA.heap.size wA (by kernel_rfl) (by kernel_rfl) (Below.refl _ _) ?_
                  have hLW := LW.cells (B := wA.heap.size) (w0 := wA)
                  repeat (go_big_quiet_step (fail))
                  refine wpQuiet_nil ?_
                  rintro wB ⟨⟨w2s, hB⟩, rfl⟩
                  clear hLW
                  go_wp2_with fail
                  go_roundw
                  case rel => exact ⟨q + 1, by omega, by go_num, HBA.out.trans (hB.mono (by omega))⟩
                  case measure => simp [intOf]; omega
                · have t0 : ((p0 : Int) == (q0 : Int)) = false := by simp; omega
                  have t1 : ((p0 : Int) == (q1 : Int)) = false := by simp; omega
                  have t2 : ((p1 : Int) == (q0 : Int)) = false := by simp; omega
                  have t3 : ((p1 : Int) == (q1 : Int)) = false := by simp; omega
                  clear e0
                  clear e1
                  clear e2
                  clear e3
                  go_wp2_with fail
                  refine wp_region_later wr.heap.size wr (by kernel_rfl) (by kernel_rfl) (Below.refl _ _) ?_
                  have hLW := LW.cells (B := wr.heap.size) (w0 := wr)
                  repeat (go_big_quiet_step (fail))
                  refine wpQuiet_nil ?_
                  rintro wA ⟨⟨w2s, hA⟩, rfl⟩
                  clear hLW
                  have lq2 := (hA.cell (p := ⟨gl', q, none⟩) hglr).trans lq1
                  have mk2 := (hA.cell (p := ⟨gl', k, none⟩) hglr).trans mk0
                  have hglA : gl' < wA.heap.size := by have := hA.size; omega
                  have HBA := Lib.hid (HBQ.out.trans (hA.mono hzq))
                  have hzA := hA.size
                  clear hA
                  go_wp2_with fail
                  refine wp_region_later wA.heap.size wA (by kernel_rfl) (by kernel_rfl) (Below.refl _ _) ?_
                  have hLW := LW.cells (B := wA.heap.size) (w0 := wA)
                  repeat (go_big_quiet_step (fail))
                  refine wpQuiet_nil ?_
                  rintro wB ⟨⟨w2s, hB⟩, rfl⟩
                  clear hLW
                  go_wp2_with fail
                  go_roundw
                  case rel => exact ⟨q + 1, by omega, by go_num, HBA.out.trans (hB.mono (by omega))⟩
                  case measure => simp [intOf]; omega
        · have hqi : ¬ (q : Int) < (k : Int) := by omega
          have HBW : Hid (Below w3.heap.size w3 wr) := R0.out.trans (hb.mono (by omega))
          clear hb rk0 rk2 rk3 lk0
          go_wp2_with fail
          go_roundw
          case rel => exact ⟨k + 1, by omega, by go_num, by rw [HDS.out], HBW.out⟩
          case measure => simp [intOf]; omega
    · have hki : ¬ (k : Int) < (Ll : Int) := by omega
      obtain ⟨dd, hdd⟩ : ∃ d, d = depthP xx xx.length := ⟨_, rfl⟩
      have hdk : depthP xx k = dd := by rw [hdd, ← HNx.out, show k = Ll by omega]
      rw [hdk]
      have HDD := Lib.hid hdd
      have hdd12 : dd ≤ 12 := by rw [hdd]; have := depthP_le xx xx.length; have := HX12.out; omega
      clear hdd hdk
      clear R0
      go_wp2_with fail
      refine (ByLevels_y n _ _ _ usx xx wr Ox.out (by omega) XOK.out (by have := HX12.out; omega)).mono ?_
      rintro e w4 ⟨ly, hsy, qy, usy, rfl, oy, b_w4⟩
      obtain ⟨xy, hxy⟩ : ∃ X, X = rowsAt xx ly := ⟨_, rfl⟩
      rw [← hxy] at oy
      have HXy := Lib.hid hxy
      have HSy := Lib.hid hsy
      clear hxy hsy
      obtain ⟨aoy, gy, capy, ey, -, -, -⟩ := oy.rows
      obtain ⟨Ly, hLy⟩ : ∃ L, L = xy.length := ⟨_, rfl⟩
      rw [← hLy] at ey
      subst ey
      have HNy := Lib.hid hLy
      clear hLy
      have z_w4 := b_w4.size
      replace Ox := Lib.hid (Ox.out.later b_w4)
      replace Ol := Lib.hid (Ol.out.later b_w4)
      replace cx0 := (b_w4.cell (p := ⟨w1.heap.size, 0, none⟩) (by show w1.heap.size < _; omega)).trans cx0
      replace cx1 := (b_w4.cell (p := ⟨w1.heap.size, 1, none⟩) (by show w1.heap.size < _; omega)).trans cx1
      replace BA : Hid (Below w.heap.size w w4) := BA.out.trans (b_w4.mono (by omega))
      replace ZA : w.heap.size ≤ w4.heap.size := (by omega)
      replace yx : w1.heap.size < w4.heap.size := (by omega)
      clear b_w4
      have Oy := Lib.hid oy
      clear oy
      go_upto_region 22 with fail
      obtain ⟨w5, hWw5, cy0, cy1, hzw5, b_w5, -, -⟩ := box2 w4 (.int .i64 n) (.slice aoy Ly capy) 25
      rw [hWw5]
      clear hWw5
      have zz_w5 : w4.heap.size < w5.heap.size := (by omega)
      have HZ_w5 := Lib.hid hzw5
      clear hzw5
      have z_w5 := b_w5.size
      replace Ox := Lib.hid (Ox.out.later b_w5)
      replace Ol := Lib.hid (Ol.out.later b_w5)
      replace Oy := Lib.hid (Oy.out.later b_w5)
      replace cx0 := (b_w5.cell (p := ⟨w1.heap.size, 0, none⟩) (by show w1.heap.size < _; omega)).trans cx0
      replace cx1 := (b_w5.cell (p := ⟨w1.heap.size, 1, none⟩) (by show w1.heap.size < _; omega)).trans cx1
      replace BA : Hid (Below w.heap.size w w5) := BA.out.trans (b_w5.mono (by omega))
      replace ZA : w.heap.size ≤ w5.heap.size := (by omega)
      replace yx : w1.heap.size < w5.heap.size := (by omega)
      clear b_w5
      have yy : w4.heap.size < w5.heap.size := zz_w5
      obtain ⟨f1, f2, f3, f4⟩ := by_facts n1 n6 HPX.out (by have := HX12.out; omega) HSy.out
      rw [← HXy.out] at f1 f2 f3 f4
      have HPY := Lib.hid f1
      have HYL := Lib.hid f2
      have HYB := Lib.hid f3
      have HYD : Hid (depthP xy xy.length = dd) := by show _ = _; rw [f4, HDD.out]
      have YOK : Hid (netOk (n : Nat) xy = true) := netOk_of_pairUp f1 n1 (by omega) (by rw [f2]; have := HX12.out; omega)
      have hLy : Ly = Ll := by rw [HNy.out, f2, HNx.out]
      subst hLy
      clear f1 f2 f3 f4
      go_wp2_with fail
      refine (DepthOf_y n _ _ _ usx xx w5 Ox.out (by omega) XOK.out).mono ?_
      rintro e w6 ⟨rfl, b_w6⟩
      rw [show depthP xx xx.length = dd from HDD.out.symm]
      have z_w6 := b_w6.size
      replace Ox := Lib.hid (Ox.out.later b_w6)
      replace Ol := Lib.hid (Ol.out.later b_w6)
      replace Oy := Lib.hid (Oy.out.later b_w6)
      replace cx0 := (b_w6.cell (p := ⟨w1.heap.size, 0, none⟩) (by show w1.heap.size < _; omega)).trans cx0
      replace cx1 := (b_w6.cell (p := ⟨w1.heap.size, 1, none⟩) (by show w1.heap.size < _; omega)).trans cx1
      replace cy0 := (b_w6.cell (p := ⟨w4.heap.size, 0, none⟩) (by show w4.heap.size < _; omega)).trans cy0
      replace cy1 := (b_w6.cell (p := ⟨w4.heap.size, 1, none⟩) (by show w4.heap.size < _; omega)).trans cy1
      replace BA : Hid (Below w.heap.size w w6) := BA.out.trans (b_w6.mono (by omega))
      replace ZA : w.heap.size ≤ w6.heap.size := (by omega)
      replace yx : w1.heap.size < w6.heap.size := (by omega)
      replace yy : w4.heap.size < w6.heap.size := (by omega)
      clear b_w6
      go_wp2_with fail
      refine (DepthOf_y n _ _ _ usy xy w6 Oy.out (by omega) YOK.out).mono ?_
      rintro e w7 ⟨rfl, b_w7⟩
      rw [show depthP xy xy.length = dd from HYD.out]
      have z_w7 := b_w7.size
      replace Ox := Lib.hid (Ox.out.later b_w7)
      replace Ol := Lib.hid (Ol.out.later b_w7)
      replace Oy := Lib.hid (Oy.out.later b_w7)
      replace cx0 := (b_w7.cell (p := ⟨w1.heap.size, 0, none⟩) (by show w1.heap.size < _; omega)).trans cx0
      replace cx1 := (b_w7.cell (p := ⟨w1.heap.size, 1, none⟩) (by show w1.heap.size < _; omega)).trans cx1
      replace cy0 := (b_w7.cell (p := ⟨w4.heap.size, 0, none⟩) (by show w4.heap.size < _; omega)).trans cy0
      replace cy1 := (b_w7.cell (p := ⟨w4.heap.size, 1, none⟩) (by show w4.heap.size < _; omega)).trans cy1
      replace BA : Hid (Below w.heap.size w w7) := BA.out.trans (b_w7.mono (by omega))
      replace ZA : w.heap.size ≤ w7.heap.size := (by omega)
      replace yx : w1.heap.size < w7.heap.size := (by omega)
      replace yy : w4.heap.size < w7.heap.size := (by omega)
      clear b_w7
      go_wp2_with fail
      refine (DoSame_y n _ _ _ _ _ _ usx usy xx xy w7 Ox.out (by omega) XOK.out Oy.out (by omega) YOK.out HYB.out).mono ?_
      rintro e w8 ⟨rfl, b_w8⟩
      have z_w8 := b_w8.size
      replace Ox := Lib.hid (Ox.out.later b_w8)
      replace Ol := Lib.hid (Ol.out.later b_w8)
      replace Oy := Lib.hid (Oy.out.later b_w8)
      replace cx0 := (b_w8.cell (p := ⟨w1.heap.size, 0, none⟩) (by show w1.heap.size < _; omega)).trans cx0
      replace cx1 := (b_w8.cell (p := ⟨w1.heap.size, 1, none⟩) (by show w1.heap.size < _; omega)).trans cx1
      replace cy0 := (b_w8.cell (p := ⟨w4.heap.size, 0, none⟩) (by show w4.heap.size < _; omega)).trans cy0
      replace cy1 := (b_w8.cell (p := ⟨w4.heap.size, 1, none⟩) (by show w4.heap.size < _; omega)).trans cy1
      replace BA : Hid (Below w.heap.size w w8) := BA.out.trans (b_w8.mono (by omega))
      replace ZA : w.heap.size ≤ w8.heap.size := (by omega)
      replace yx : w1.heap.size < w8.heap.size := (by omega)
      replace yy : w4.heap.size < w8.heap.size := (by omega)
      clear b_w8
      clear Ol
      go_wp2_with fail
      refine (MakeList_c w.heap.size N 20 (n) _ w8 (HV.out.kept fun k hk => BA.out.block k hk) ZA hN (by omega) (by omega)).mono ?_
      rintro e w9 ⟨qm, xm, rfl, hlm, hxm, om, b_w9⟩
      obtain ⟨aom, gm, capm, em, -, -, -⟩ := OwnI.view om
      obtain ⟨Lm, hLm⟩ : ∃ L, L = xm.length := ⟨_, rfl⟩
      rw [← hLm] at em
      subst em
      have HNm := Lib.hid hLm
      clear hLm
      have z_w9 := b_w9.size
      replace Ox := Lib.hid (Ox.out.later b_w9)
      replace Oy := Lib.hid (Oy.out.later b_w9)
      replace cx0 := (b_w9.cell (p := ⟨w1.heap.size, 0, none⟩) (by show w1.heap.size < _; omega)).trans cx0
      replace cx1 := (b_w9.cell (p := ⟨w1.heap.size, 1, none⟩) (by show w1.heap.size < _; omega)).trans cx1
      replace cy0 := (b_w9.cell (p := ⟨w4.heap.size, 0, none⟩) (by show w4.heap.size < _; omega)).trans cy0
      replace cy1 := (b_w9.cell (p := ⟨w4.heap.size, 1, none⟩) (by show w4.heap.size < _; omega)).trans cy1
      replace BA : Hid (Below w.heap.size w w9) := BA.out.trans (b_w9.mono (by omega))
      replace ZA : w.heap.size ≤ w9.heap.size := (by omega)
      replace yx : w1.heap.size < w9.heap.size := (by omega)
      replace yy : w4.heap.size < w9.heap.size := (by omega)
      clear b_w9
      have Om := Lib.hid om
      clear om
      have HLm := Lib.hid hlm
      have HXm := Lib.hid hxm
      clear hlm hxm
      go_wp2_with fail
      refine (ApplyNetwork_y n _ _ _ _ _ usx xx _ xm w9 Ox.out (by omega) XOK.out (OwnI.ints Om.out) (by omega) HLm.out).mono ?_
      rintro e w10 ⟨qa, rfl, oa, b_w10⟩
      obtain ⟨xa, hxa⟩ : ∃ X, X = applyP xx xm := ⟨_, rfl⟩
      rw [← hxa] at oa
      have HXa := Lib.hid hxa
      clear hxa
      obtain ⟨aoa, ga, capa, ea, -, -, -⟩ := OwnI.view oa
      obtain ⟨La, hLa⟩ : ∃ L, L = xa.length := ⟨_, rfl⟩
      rw [← hLa] at ea
      subst ea
      have HNa := Lib.hid hLa
      clear hLa
      have z_w10 := b_w10.size
      replace Ox := Lib.hid (Ox.out.later b_w10)
      replace Oy := Lib.hid (Oy.out.later b_w10)
      replace Om := Lib.hid (Om.out.later b_w10)
      replace cx0 := (b_w10.cell (p := ⟨w1.heap.size, 0, none⟩) (by show w1.heap.size < _; omega)).trans cx0
      replace cx1 := (b_w10.cell (p := ⟨w1.heap.size, 1, none⟩) (by show w1.heap.size < _; omega)).trans cx1
      replace cy0 := (b_w10.cell (p := ⟨w4.heap.size, 0, none⟩) (by show w4.heap.size < _; omega)).trans cy0
      replace cy1 := (b_w10.cell (p := ⟨w4.heap.size, 1, none⟩) (by show w4.heap.size < _; omega)).trans cy1
      replace BA : Hid (Below w.heap.size w w10) := BA.out.trans (b_w10.mono (by omega))
      replace ZA : w.heap.size ≤ w10.heap.size := (by omega)
      replace yx : w1.heap.size < w10.heap.size := (by omega)
      replace yy : w4.heap.size < w10.heap.size := (by omega)
      clear b_w10
      have Oa := Lib.hid oa
      clear oa
      have HLA : Hid (xa.length = n) := by show _ = _; rw [HXa.out, applyP_len, HLm.out]
      have JOK : Hid (netOk (n : Nat) (xx ++ xy) = true) := by
        refine netOk_of_pairUp (up := false) (fun r hr => ?_) n1 (by omega) (by rw [List.length_append, HYL.out]; have := HX12.out; omega)
        rcases List.mem_append.1 hr with h | h
        · exact HPX.out r h
        · exact HPY.out r h
      go_wp2_with fail
      refine (JoinNetworks_y n _ _ _ _ _ _ usx usy xx xy w10 Ox.out (by omega) XOK.out Oy.out (by omega) YOK.out JOK.out).mono ?_
      rintro e w11 ⟨qj, usj, rfl, oj, b_w11⟩
      obtain ⟨xj, hxj⟩ : ∃ X, X = xx ++ xy := ⟨_, rfl⟩
      rw [← hxj] at oj
      have HXj := Lib.hid hxj
      clear hxj
      obtain ⟨aoj, gj, capj, ej, -, -, -⟩ := oj.rows
      obtain ⟨Lj, hLj⟩ : ∃ L, L = xj.length := ⟨_, rfl⟩
      rw [← hLj] at ej
      subst ej
      have HNj := Lib.hid hLj
      clear hLj
      have z_w11 := b_w11.size
      replace Ox := Lib.hid (Ox.out.later b_w11)
      replace Oy := Lib.hid (Oy.out.later b_w11)
      replace Om := Lib.hid (Om.out.later b_w11)
      replace Oa := Lib.hid (Oa.out.later b_w11)
      replace cx0 := (b_w11.cell (p := ⟨w1.heap.size, 0, none⟩) (by show w1.heap.size < _; omega)).trans cx0
      replace cx1 := (b_w11.cell (p := ⟨w1.heap.size, 1, none⟩) (by show w1.heap.size < _; omega)).trans cx1
      replace cy0 := (b_w11.cell (p := ⟨w4.heap.size, 0, none⟩) (by show w4.heap.size < _; omega)).trans cy0
      replace cy1 := (b_w11.cell (p := ⟨w4.heap.size, 1, none⟩) (by show w4.heap.size < _; omega)).trans cy1
      replace BA : Hid (Below w.heap.size w w11) := BA.out.trans (b_w11.mono (by omega))
      replace ZA : w.heap.size ≤ w11.heap.size := (by omega)
      replace yx : w1.heap.size < w11.heap.size := (by omega)
      replace yy : w4.heap.size < w11.heap.size := (by omega)
      clear b_w11
      have Oj := Lib.hid oj
      clear oj
      go_wp2_with fail
      obtain ⟨w12, hWw12, cj0, cj1, hzw12, b_w12, -, -⟩ := box2 w11 (.int .i64 n) (.slice aoj Lj capj) 25
      rw [hWw12]
      clear hWw12
      have zz_w12 : w11.heap.size < w12.heap.size := (by omega)
      have HZ_w12 := Lib.hid hzw12
      clear hzw12
      have z_w12 := b_w12.size
      replace Ox := Lib.hid (Ox.out.later b_w12)
      replace Oy := Lib.hid (Oy.out.later b_w12)
      replace Om := Lib.hid (Om.out.later b_w12)
      replace Oa := Lib.hid (Oa.out.later b_w12)
      replace Oj := Lib.hid (Oj.out.later b_w12)
      replace cx0 := (b_w12.cell (p := ⟨w1.heap.size, 0, none⟩) (by show w1.heap.size < _; omega)).trans cx0
      replace cx1 := (b_w12.cell (p := ⟨w1.heap.size, 1, none⟩) (by show w1.heap.size < _; omega)).trans cx1
      replace cy0 := (b_w12.cell (p := ⟨w4.heap.size, 0, none⟩) (by show w4.heap.size < _; omega)).trans cy0
      replace cy1 := (b_w12.cell (p := ⟨w4.heap.size, 1, none⟩) (by show w4.heap.size < _; omega)).trans cy1
      replace BA : Hid (Below w.heap.size w w12) := BA.out.trans (b_w12.mono (by omega))
      replace ZA : w.heap.size ≤ w12.heap.size := (by omega)
      replace yx : w1.heap.size < w12.heap.size := (by omega)
      replace yy : w4.heap.size < w12.heap.size := (by omega)
      clear b_w12
      have yj : w11.heap.size < w12.heap.size := zz_w12
      have JOK2 : Hid (netOk (n : Nat) xj = true) := by show _ = _; rw [HXj.out]; exact JOK.out
      go_wp2_with fail
      refine (ApplyNetwork_y n _ _ _ _ _ usy xy _ xa w12 Oy.out (by omega) YOK.out (OwnI.ints Oa.out) (by omega) HLA.out).mono ?_
      rintro e w13 ⟨qb, rfl, ob, b_w13⟩
      obtain ⟨xb, hxb⟩ : ∃ X, X = applyP xy xa := ⟨_, rfl⟩
      rw [← hxb] at ob
      have HXb := Lib.hid hxb
      clear hxb
      obtain ⟨aob, gb, capb, eb, -, -, -⟩ := OwnI.view ob
      obtain ⟨Lb, hLb⟩ : ∃ L, L = xb.length := ⟨_, rfl⟩
      rw [← hLb] at eb
      subst eb
      have HNb := Lib.hid hLb
      clear hLb
      have z_w13 := b_w13.size
      replace Ox := Lib.hid (Ox.out.later b_w13)
      replace Oy := Lib.hid (Oy.out.later b_w13)
      replace Om := Lib.hid (Om.out.later b_w13)
      replace Oa := Lib.hid (Oa.out.later b_w13)
      replace Oj := Lib.hid (Oj.out.later b_w13)
      replace cx0 := (b_w13.cell (p := ⟨w1.heap.size, 0, none⟩) (by show w1.heap.size < _; omega)).trans cx0
      replace cx1 := (b_w13.cell (p := ⟨w1.heap.size, 1, none⟩) (by show w1.heap.size < _; omega)).trans cx1
      replace cy0 := (b_w13.cell (p := ⟨w4.heap.size, 0, none⟩) (by show w4.heap.size < _; omega)).trans cy0
      replace cy1 := (b_w13.cell (p := ⟨w4.heap.size, 1, none⟩) (by show w4.heap.size < _; omega)).trans cy1
      replace cj0 := (b_w13.cell (p := ⟨w11.heap.size, 0, none⟩) (by show w11.heap.size < _; omega)).trans cj0
      replace cj1 := (b_w13.cell (p := ⟨w11.heap.size, 1, none⟩) (by show w11.heap.size < _; omega)).trans cj1
      replace BA : Hid (Below w.heap.size w w13) := BA.out.trans (b_w13.mono (by omega))
      replace ZA : w.heap.size ≤ w13.heap.size := (by omega)
      replace yx : w1.heap.size < w13.heap.size := (by omega)
      replace yy : w4.heap.size < w13.heap.size := (by omega)
      replace yj : w11.heap.size < w13.heap.size := (by omega)
      clear b_w13
      have Ob := Lib.hid ob
      clear ob
      go_wp2_with fail
      refine (ApplyNetwork_y n _ _ _ _ _ usj xj _ xm w13 Oj.out (by omega) JOK2.out (OwnI.ints Om.out) (by omega) HLm.out).mono ?_
      rintro e w14 ⟨qc, rfl, oc, b_w14⟩
      obtain ⟨xc, hxc⟩ : ∃ X, X = applyP xj xm := ⟨_, rfl⟩
      rw [← hxc] at oc
      have HXc := Lib.hid hxc
      clear hxc
      obtain ⟨aoc, gc, capc, ec, -, -, -⟩ := OwnI.view oc
      obtain ⟨Lc, hLc⟩ : ∃ L, L = xc.length := ⟨_, rfl⟩
      rw [← hLc] at ec
      subst ec
      have HNc := Lib.hid hLc
      clear hLc
      have z_w14 := b_w14.size
      replace Ox := Lib.hid (Ox.out.later b_w14)
      replace Oy := Lib.hid (Oy.out.later b_w14)
      replace Om := Lib.hid (Om.out.later b_w14)
      replace Oa := Lib.hid (Oa.out.later b_w14)
      replace Oj := Lib.hid (Oj.out.later b_w14)
      replace Ob := Lib.hid (Ob.out.later b_w14)
      replace cx0 := (b_w14.cell (p := ⟨w1.heap.size, 0, none⟩) (by show w1.heap.size < _; omega)).trans cx0
      replace cx1 := (b_w14.cell (p := ⟨w1.heap.size, 1, none⟩) (by show w1.heap.size < _; omega)).trans cx1
      replace cy0 := (b_w14.cell (p := ⟨w4.heap.size, 0, none⟩) (by show w4.heap.size < _; omega)).trans cy0
      replace cy1 := (b_w14.cell (p := ⟨w4.heap.size, 1, none⟩) (by show w4.heap.size < _; omega)).trans cy1
      replace cj0 := (b_w14.cell (p := ⟨w11.heap.size, 0, none⟩) (by show w11.heap.size < _; omega)).trans cj0
      replace cj1 := (b_w14.cell (p := ⟨w11.heap.size, 1, none⟩) (by show w11.heap.size < _; omega)).trans cj1
      replace BA : Hid (Below w.heap.size w w14) := BA.out.trans (b_w14.mono (by omega))
      replace ZA : w.heap.size ≤ w14.heap.size := (by omega)
      replace yx : w1.heap.size < w14.heap.size := (by omega)
      replace yy : w4.heap.size < w14.heap.size := (by omega)
      replace yj : w11.heap.size < w14.heap.size := (by omega)
      clear b_w14
      have Oc := Lib.hid oc
      clear oc
      have HBC : Hid (xb = xc) := by show _ = _; rw [HXb.out, HXc.out, HXj.out, applyP_append, HXa.out]
      have HLB : Hid (xb.length = n) := by show _ = _; rw [HXb.out, applyP_len, HLA.out]
      have hLa : n = La := by rw [HNa.out, HLA.out]
      subst hLa
      go_wp2_with fail
      refine (same_c _ _ _ _ _ _ xb xc w14 (OwnI.ints Ob.out) (OwnI.ints Oc.out) (by omega) (by omega) (by rw [HLB.out]; omega)).mono ?_
      rintro e w15 ⟨rfl, b_w15⟩
      rw [show decide (xb = xc) = true from decide_eq_true HBC.out]
      have z_w15 := b_w15.size
      replace Ox := Lib.hid (Ox.out.later b_w15)
      replace Oy := Lib.hid (Oy.out.later b_w15)
      replace Om := Lib.hid (Om.out.later b_w15)
      replace Oa := Lib.hid (Oa.out.later b_w15)
      replace Oj := Lib.hid (Oj.out.later b_w15)
      replace Ob := Lib.hid (Ob.out.later b_w15)
      replace Oc := Lib.hid (Oc.out.later b_w15)
      replace cx0 := (b_w15.cell (p := ⟨w1.heap.size, 0, none⟩) (by show w1.heap.size < _; omega)).trans cx0
      replace cx1 := (b_w15.cell (p := ⟨w1.heap.size, 1, none⟩) (by show w1.heap.size < _; omega)).trans cx1
      replace cy0 := (b_w15.cell (p := ⟨w4.heap.size, 0, none⟩) (by show w4.heap.size < _; omega)).trans cy0
      replace cy1 := (b_w15.cell (p := ⟨w4.heap.size, 1, none⟩) (by show w4.heap.size < _; omega)).trans cy1
      replace cj0 := (b_w15.cell (p := ⟨w11.heap.size, 0, none⟩) (by show w11.heap.size < _; omega)).trans cj0
      replace cj1 := (b_w15.cell (p := ⟨w11.heap.size, 1, none⟩) (by show w11.heap.size < _; omega)).trans cj1
      replace BA : Hid (Below w.heap.size w w15) := BA.out.trans (b_w15.mono (by omega))
      replace ZA : w.heap.size ≤ w15.heap.size := (by omega)
      replace yx : w1.heap.size < w15.heap.size := (by omega)
      replace yy : w4.heap.size < w15.heap.size := (by omega)
      replace yj : w11.heap.size < w15.heap.size := (by omega)
      clear b_w15
      clear Ob
      clear Oc
      clear Oj
      clear Oy
      go_wp2_with fail
      refine (MakeOrder_c w.heap.size N 40 n _ w15 (HV.out.kept fun k hk => BA.out.block k hk) ZA hN (by omega) (by omega)).mono ?_
      rintro e w16 ⟨qo, xo, rfl, hlo, hxo, oo, b_w16⟩
      obtain ⟨aoo, go, capo, eo, -, -, -⟩ := OwnI.view oo
      obtain ⟨Lo, hLo⟩ : ∃ L, L = xo.length := ⟨_, rfl⟩
      rw [← hLo] at eo
      subst eo
      have HNo := Lib.hid hLo
      clear hLo
      have z_w16 := b_w16.size
      replace Ox := Lib.hid (Ox.out.later b_w16)
      replace Om := Lib.hid (Om.out.later b_w16)
      replace Oa := Lib.hid (Oa.out.later b_w16)
      replace cx0 := (b_w16.cell (p := ⟨w1.heap.size, 0, none⟩) (by show w1.heap.size < _; omega)).trans cx0
      replace cx1 := (b_w16.cell (p := ⟨w1.heap.size, 1, none⟩) (by show w1.heap.size < _; omega)).trans cx1
      replace BA : Hid (Below w.heap.size w w16) := BA.out.trans (b_w16.mono (by omega))
      replace ZA : w.heap.size ≤ w16.heap.size := (by omega)
      replace yx : w1.heap.size < w16.heap.size := (by omega)
      clear b_w16
      have Oo := Lib.hid oo
      clear oo
      have NAM : Hid (NamP n xo) := namP_of_perm hxo
      have hLo : n = Lo := by rw [HNo.out, hlo]
      have hLm : n = Lm := by rw [HNm.out, HLm.out]
      subst hLo
      subst hLm
      clear hlo hxo
      go_wp2_with fail
      refine (RenameWires_y n _ _ _ _ _ _ usx xx xo w16 Ox.out (by omega) XOK.out (OwnI.ints Oo.out) (by omega) NAM.out).mono ?_
      rintro e w17 ⟨qz, usz, rfl, oz, b_w17⟩
      have hmk := run_make_row' (P := Tryz.prog) 27 3 (.int .i64 0) 8 (by kernel_rfl) (by kernel_rfl) rfl .i64 .i64 n (by omega) (by omega)
      obtain ⟨xz, hxz⟩ : ∃ X, X = renP (namF xo) xx := ⟨_, rfl⟩
      rw [← hxz] at oz
      have HXz := Lib.hid hxz
      clear hxz
      obtain ⟨aoz, gz, capz, ez, -, -, -⟩ := oz.rows
      obtain ⟨Lz, hLz⟩ : ∃ L, L = xz.length := ⟨_, rfl⟩
      rw [← hLz] at ez
      subst ez
      have HNz := Lib.hid hLz
      clear hLz
      have z_w17 := b_w17.size
      replace Ox := Lib.hid (Ox.out.later b_w17)
      replace Om := Lib.hid (Om.out.later b_w17)
      replace Oa := Lib.hid (Oa.out.later b_w17)
      replace Oo := Lib.hid (Oo.out.later b_w17)
      replace cx0 := (b_w17.cell (p := ⟨w1.heap.size, 0, none⟩) (by show w1.heap.size < _; omega)).trans cx0
      replace cx1 := (b_w17.cell (p := ⟨w1.heap.size, 1, none⟩) (by show w1.heap.size < _; omega)).trans cx1
      replace BA : Hid (Below w.heap.size w w17) := BA.out.trans (b_w17.mono (by omega))
      replace ZA : w.heap.size ≤ w17.heap.size := (by omega)
      replace yx : w1.heap.size < w17.heap.size := (by omega)
      clear b_w17
      have Oz := Lib.hid oz
      clear oz
      go_wp2_with fail
      obtain ⟨w18, hWw18, cz0, cz1, hzw18, b_w18, -, -⟩ := box2 w17 (.int .i64 n) (.slice aoz Lz capz) 25
      rw [hWw18]
      clear hWw18
      have zz_w18 : w17.heap.size < w18.heap.size := (by omega)
      have HZ_w18 := Lib.hid hzw18
      clear hzw18
      have z_w18 := b_w18.size
      replace Ox := Lib.hid (Ox.out.later b_w18)
      replace Om := Lib.hid (Om.out.later b_w18)
      replace Oa := Lib.hid (Oa.out.later b_w18)
      replace Oo := Lib.hid (Oo.out.later b_w18)
      replace Oz := Lib.hid (Oz.out.later b_w18)
      replace cx0 := (b_w18.cell (p := ⟨w1.heap.size, 0, none⟩) (by show w1.heap.size < _; omega)).trans cx0
      replace cx1 := (b_w18.cell (p := ⟨w1.heap.size, 1, none⟩) (by show w1.heap.size < _; omega)).trans cx1
      replace BA : Hid (Below w.heap.size w w18) := BA.out.trans (b_w18.mono (by omega))
      replace ZA : w.heap.size ≤ w18.heap.size := (by omega)
      replace yx : w1.heap.size < w18.heap.size := (by omega)
      clear b_w18
      have yz : w17.heap.size < w18.heap.size := zz_w18
      have ZOK : Hid (netOk (n : Nat) xz = true) := by show _ = _; rw [HXz.out]; exact netOk_of_pairUp (pairUp_nam NAM.out HPX.out) n1 (by omega) (by rw [renP_len]; have := HX12.out; omega)
      clear hmk
      obtain ⟨WM, hWM⟩ : ∃ W, W = w18.alloc (.cells (madeCells #[Value.int .i64 0] n) 3) := ⟨_, rfl⟩
      have HMV0 : Hid (OwnI WM w18.heap.size (w18.heap.size + 1) (.slice (some ⟨w18.heap.size, 0, none⟩) n n) (List.replicate n 0)) := by show OwnI _ _ _ _ _; rw [hWM]; exact ownI_madeN w18 n (by omega)
      have HMB : Hid (Below w18.heap.size w18 WM) := by show Below _ _ _; rw [hWM]; exact (Below.refl _ _).alloc (Nat.le_refl _) _
      try rw [← hWM]
      obtain ⟨go', haoo, hcapo, hrowo⟩ := intsX Oo.out HNo.out
      obtain ⟨gm', haom, hcapm, hrowm⟩ := intsX Om.out HNm.out
      have HRO := Lib.hid hrowo
      have HRM := Lib.hid hrowm
      obtain ⟨rfl, hgo⟩ := haoo (by omega)
      obtain ⟨rfl, hgm⟩ := haom (by omega)
      have hzB := HZ_w18.out
      rw [hzB] at HMV0 HMB
      obtain ⟨BM, hBM⟩ : ∃ b, b = w17.heap.size + 1 := ⟨_, rfl⟩
      rw [← hBM] at HMV0 HMB ⊢
      have HBM : Hid (BM = w18.heap.size) := by show _ = _; rw [hBM, hzB]
      have hBMn : BM < w18.heap.size + 1 := by have := HBM.out; omega
      clear hzB
      clear hWM hrowo hrowm hBM
      go_loopw [235] (fun i wr => ∃ k : Nat, k ≤ n ∧ i = .int .i64 k ∧ ∃ mv, OwnI wr BM (BM + 1) (.slice (some ⟨BM, 0, none⟩) n n) mv ∧ mv.length = n ∧ (∀ q, q < k → mv.getD (xo.getD q 0).toNat 0 = xm.getD q 0) ∧ Below BM w18 wr) (fun i _ => n - (intOf i).toNat)
      case atStart => exact ⟨0, Nat.zero_le _, rfl, _, HMV0.out, by simp, fun q h => by omega, HMB.out⟩
      case round =>
        obtain ⟨k, hk3, rfl, mv, hmv, hml, hmq, hbm⟩ := hrel
        have HMV := Lib.hid hmv
        have HMQ := Lib.hid hmq
        have HBB := Lib.hid hbm
        clear hmv hmq
        by_cases hlt : k < n
        · have hki3 : (k : Int) < (n : Int) := by omega
          obtain ⟨q, hq, hqn⟩ := NAM.out.2.1 k hlt
          have e1 := HRM.out k hlt
          have e2 := HRO.out k hlt
          rw [hq] at e2
          obtain ⟨x, hx⟩ : ∃ x, x = xm.getD k 0 := ⟨_, rfl⟩
          rw [← hx] at e1
          have hBS : BM = w18.heap.size := HBM.out
          have e3 := (hbm.cell (p := ⟨gm', k, none⟩) (by show gm' < _; omega)).trans e1
          have e4 := (hbm.cell (p := ⟨go', k, none⟩) (by show go' < _; omega)).trans e2
          obtain ⟨e5, e6⟩ := OwnI.cellAt HMV.out q (by omega)
          have hqi : (q : Int) < (n : Int) := by omega
          have hq0 : (0 : Int) ≤ (q : Int) := by omega
          have HST : Hid (OwnI (wr.setCell ⟨BM, q, none⟩ (.int .i64 x)) BM (BM + 1) (.slice (some ⟨BM, 0, none⟩) n n) (mv.set q x)) := OwnI.store HMV.out hml.symm q x
          have HNEW : Hid (∀ p, p < k + 1 → (mv.set q x).getD (xo.getD p 0).toNat 0 = xm.getD p 0) := by
            intro p hp
            by_cases hpk : p = k
            · subst hpk
              rw [hq, Int.toNat_natCast, getD_set_eq (by omega), hx]
            · obtain ⟨q2, e, hq2⟩ := NAM.out.2.1 p (by omega)
              rw [e, Int.toNat_natCast, getD_set_neq (fun h => hpk (NAM.out.2.2 p k (by omega) hlt (by rw [e, hq, h])))]
              have := HMQ.out p (by omega)
              rwa [e, Int.toNat_natCast] at this
          obtain ⟨x5, hx5⟩ : ∃ x, x = mv.getD q 0 := ⟨_, rfl⟩
          rw [← hx5] at e5
          clear hq hx e1 e2 hx5 hBS hbm
          go_wp2_with fail
          go_roundw
          case rel => exact ⟨k + 1, by omega, by go_num, _, HST.out, by simp [hml], HNEW.out, HBB.out.setCell (by show BM ≤ BM; omega) _⟩
          case measure => simp [intOf]; omega
        · have hki3 : ¬ (k : Int) < (n : Int) := by omega
          have HMOV : Hid (Moved n xo xm mv) := ⟨by rw [← HNm.out], hml, fun q hq => HMQ.out q (by omega)⟩
          have hb9 : Below w18.heap.size w18 wr := by rw [← HBM.out]; exact hbm
          have HMI : Hid (IntsV wr BM (BM + 1) (.slice (some ⟨BM, 0, none⟩) n n) mv) := OwnI.ints HMV.out
          have hBMw : BM + 1 ≤ wr.heap.size := by
            obtain ⟨-, hlt9⟩ := HMV.out
            have := (HMV.out).row.lt BM rfl
            omega
          have hml9 : mv.length = n := hml
          clear hbm hml HMQ HBB HBM
          have z_wr := hb9.size
          replace Ox := Lib.hid (Ox.out.later hb9)
          replace Om := Lib.hid (Om.out.later hb9)
          replace Oa := Lib.hid (Oa.out.later hb9)
          replace Oo := Lib.hid (Oo.out.later hb9)
          replace Oz := Lib.hid (Oz.out.later hb9)
          replace cx0 := (hb9.cell (p := ⟨w1.heap.size, 0, none⟩) (by show w1.heap.size < _; omega)).trans cx0
          replace cx1 := (hb9.cell (p := ⟨w1.heap.size, 1, none⟩) (by show w1.heap.size < _; omega)).trans cx1
          replace cz0 := (hb9.cell (p := ⟨w17.heap.size, 0, none⟩) (by show w17.heap.size < _; omega)).trans cz0
          replace cz1 := (hb9.cell (p := ⟨w17.heap.size, 1, none⟩) (by show w17.heap.size < _; omega)).trans cz1
          replace BA : Hid (Below w.heap.size w wr) := BA.out.trans (hb9.mono (by omega))
          replace ZA : w.heap.size ≤ wr.heap.size := (by omega)
          replace yx : w1.heap.size < wr.heap.size := (by omega)
          replace yz : w17.heap.size < wr.heap.size := (by omega)
          clear hb9
          go_wp2_with fail
          refine (ApplyNetwork_y n _ _ _ _ _ usz xz _ mv wr Oz.out (by omega) ZOK.out HMI.out (by omega) hml9).mono ?_
          rintro e w19 ⟨qd, rfl, od, b_w19⟩
          obtain ⟨xd, hxd⟩ : ∃ X, X = applyP xz mv := ⟨_, rfl⟩
          rw [← hxd] at od
          have HXd := Lib.hid hxd
          clear hxd
          obtain ⟨aod, gd, capd, ed, -, -, -⟩ := OwnI.view od
          obtain ⟨Ld, hLd⟩ : ∃ L, L = xd.length := ⟨_, rfl⟩
          rw [← hLd] at ed
          subst ed
          have HNd := Lib.hid hLd
          clear hLd
          have z_w19 := b_w19.size
          replace Ox := Lib.hid (Ox.out.later b_w19)
          replace Om := Lib.hid (Om.out.later b_w19)
          replace Oa := Lib.hid (Oa.out.later b_w19)
          replace Oo := Lib.hid (Oo.out.later b_w19)
          replace Oz := Lib.hid (Oz.out.later b_w19)
          replace cx0 := (b_w19.cell (p := ⟨w1.heap.size, 0, none⟩) (by show w1.heap.size < _; omega)).trans cx0
          replace cx1 := (b_w19.cell (p := ⟨w1.heap.size, 1, none⟩) (by show w1.heap.size < _; omega)).trans cx1
          replace cz0 := (b_w19.cell (p := ⟨w17.heap.size, 0, none⟩) (by show w17.heap.size < _; omega)).trans cz0
          replace cz1 := (b_w19.cell (p := ⟨w17.heap.size, 1, none⟩) (by show w17.heap.size < _; omega)).trans cz1
          replace BA : Hid (Below w.heap.size w w19) := BA.out.trans (b_w19.mono (by omega))
          replace ZA : w.heap.size ≤ w19.heap.size := (by omega)
          replace yx : w1.heap.size < w19.heap.size := (by omega)
          replace yz : w17.heap.size < w19.heap.size := (by omega)
          clear b_w19
          have Od := Lib.hid od
          clear od
          have HDA : Hid (∀ k, k < n → xd.getD (xo.getD k 0).toNat 0 = xa.getD k 0) := by
            have := moved_apply NAM.out xx xm mv HPX.out HMOV.out
            rw [← HXz.out, ← HXd.out, ← HXa.out] at this
            exact this.2.2
          have hLd : n = Ld := by rw [HNd.out, HXd.out, applyP_len, hml9]
          subst hLd
          clear HMI hml9 HMOV HMV hBMw hBMn hlt hki3 hk3
          obtain ⟨ga', haoa, hcapa, hrowa⟩ := intsX Oa.out HNa.out
          obtain ⟨gd', haod, hcapd, hrowd⟩ := intsX Od.out HNd.out
          obtain ⟨gp', haop, hcapp, hrowp⟩ := intsX Oo.out HNo.out
          obtain ⟨rfl, hga⟩ := haoa (by omega)
          obtain ⟨rfl, hgd⟩ := haod (by omega)
          obtain ⟨hgp1, hgp⟩ := haop (by omega)
          have HGPE : Hid (gp' = go') := by show _ = _; injection hgp1 with h; injection h with h; exact h.symm
          have HRA := Lib.hid hrowa
          have HRD := Lib.hid hrowd
          have HRP := Lib.hid hrowp
          clear hrowa hrowd hrowp hgp1 HRO HRM
          go_wp2_with fail
          go_loopw [268] (fun i wr => ∃ k : Nat, k ≤ n ∧ i = .int .i64 k ∧ Below w19.heap.size w19 wr) (fun i _ => n - (intOf i).toNat)
          case atStart => exact ⟨0, Nat.zero_le _, rfl, Below.refl _ _⟩
          case round =>
            obtain ⟨k4, hk4, rfl, hb⟩ := hrel
            have R4 : Hid (Below w19.heap.size w19 w19) := Below.refl _ _
            have z_wr := hb.size
            replace Ox := Lib.hid (Ox.out.later hb)
            replace Om := Lib.hid (Om.out.later hb)
            replace Oa := Lib.hid (Oa.out.later hb)
            replace Oo := Lib.hid (Oo.out.later hb)
            replace Oz := Lib.hid (Oz.out.later hb)
            replace Od := Lib.hid (Od.out.later hb)
            replace cx0 := (hb.cell (p := ⟨w1.heap.size, 0, none⟩) (by show w1.heap.size < _; omega)).trans cx0
            replace cx1 := (hb.cell (p := ⟨w1.heap.size, 1, none⟩) (by show w1.heap.size < _; omega)).trans cx1
            replace cz0 := (hb.cell (p := ⟨w17.heap.size, 0, none⟩) (by show w17.heap.size < _; omega)).trans cz0
            replace cz1 := (hb.cell (p := ⟨w17.heap.size, 1, none⟩) (by show w17.heap.size < _; omega)).trans cz1
            replace BA : Hid (Below w.heap.size w wr) := BA.out.trans (hb.mono (by omega))
            replace ZA : w.heap.size ≤ wr.heap.size := (by omega)
            replace yx : w1.heap.size < wr.heap.size := (by omega)
            replace yz : w17.heap.size < wr.heap.size := (by omega)
            replace R4 : Hid (Below w19.heap.size w19 wr) := R4.out.trans (hb.mono (by omega))
            clear hb
            by_cases hlt4 : k4 < n
            · have hki4 : (k4 : Int) < (n : Int) := by omega
              obtain ⟨q, hq, hqn⟩ := NAM.out.2.1 k4 hlt4
              have e1 := HRA.out k4 hlt4
              have e2 := HRP.out k4 hlt4
              have e3 := HRD.out q hqn
              have e4 := HDA.out k4 hlt4
              rw [hq] at e2 e4
              rw [Int.toNat_natCast] at e4
              rw [e4] at e3
              obtain ⟨x, hx⟩ : ∃ x, x = xa.getD k4 0 := ⟨_, rfl⟩
              rw [← hx] at e1 e3
              rw [HGPE.out] at e2
              replace e1 := (R4.out.cell (p := ⟨ga', k4, none⟩) (by show ga' < _; omega)).trans e1
              replace e2 := (R4.out.cell (p := ⟨go', k4, none⟩) (by show go' < _; have := HGPE.out; omega)).trans e2
              replace e3 := (R4.out.cell (p := ⟨gd', q, none⟩) (by show gd' < _; omega)).trans e3
              have hqi : (q : Int) < (n : Int) := by omega
              have hq0 : (0 : Int) ≤ (q : Int) := by omega
              have hxx : (x != x) = false := by simp
              clear hq hx e4
              go_wp2_with fail
              go_roundw
              case rel => exact ⟨k4 + 1, by omega, by go_num, R4.out⟩
              case measure => simp [intOf]; omega
            · have hki4 : ¬ (k4 : Int) < (n : Int) := by omega
              clear R4
              clear HRA HRD HRP HDA
              obtain ⟨d8, hd8⟩ : ∃ d : Nat, d = 8 - n := ⟨_, rfl⟩
              have hd8n : d8 + n = 8 := by omega
              have hd8i : (8 : Int) - (n : Int) = (d8 : Int) := by omega
              clear hd8
              clear Oo
              clear Od
              clear Oz
              go_wp2_with fail
              refine (PlaceNetwork_y n d8 _ _ _ usx xx wr Ox.out (by omega) XOK.out hd8n).mono ?_
              rintro e w20 ⟨qp, usp, rfl, op, b_w20⟩
              obtain ⟨xp, hxp⟩ : ∃ X, X = renP (fun x => (d8 : Int) + x) xx := ⟨_, rfl⟩
              rw [← hxp] at op
              have HXp := Lib.hid hxp
              clear hxp
              obtain ⟨aop, gp, capp, ep, -, -, -⟩ := op.rows
              obtain ⟨Lp, hLp⟩ : ∃ L, L = xp.length := ⟨_, rfl⟩
              rw [← hLp] at ep
              subst ep
              have HNp := Lib.hid hLp
              clear hLp
              have z_w20 := b_w20.size
              replace Ox := Lib.hid (Ox.out.later b_w20)
              replace Om := Lib.hid (Om.out.later b_w20)
              replace Oa := Lib.hid (Oa.out.later b_w20)
              replace cx0 := (b_w20.cell (p := ⟨w1.heap.size, 0, none⟩) (by show w1.heap.size < _; omega)).trans cx0
              replace cx1 := (b_w20.cell (p := ⟨w1.heap.size, 1, none⟩) (by show w1.heap.size < _; omega)).trans cx1
              replace BA : Hid (Below w.heap.size w w20) := BA.out.trans (b_w20.mono (by omega))
              replace ZA : w.heap.size ≤ w20.heap.size := (by omega)
              replace yx : w1.heap.size < w20.heap.size := (by omega)
              clear b_w20
              have Op := Lib.hid op
              clear op
              go_upto_region 49 with fail
              obtain ⟨w21, hWw21, cp0, cp1, hzw21, b_w21, -, -⟩ := box2 w20 (.int .i64 8) (.slice aop Lp capp) 25
              rw [hWw21]
              clear hWw21
              have zz_w21 : w20.heap.size < w21.heap.size := (by omega)
              have HZ_w21 := Lib.hid hzw21
              clear hzw21
              have z_w21 := b_w21.size
              replace Ox := Lib.hid (Ox.out.later b_w21)
              replace Om := Lib.hid (Om.out.later b_w21)
              replace Oa := Lib.hid (Oa.out.later b_w21)
              replace Op := Lib.hid (Op.out.later b_w21)
              replace cx0 := (b_w21.cell (p := ⟨w1.heap.size, 0, none⟩) (by show w1.heap.size < _; omega)).trans cx0
              replace cx1 := (b_w21.cell (p := ⟨w1.heap.size, 1, none⟩) (by show w1.heap.size < _; omega)).trans cx1
              replace BA : Hid (Below w.heap.size w w21) := BA.out.trans (b_w21.mono (by omega))
              replace ZA : w.heap.size ≤ w21.heap.size := (by omega)
              replace yx : w1.heap.size < w21.heap.size := (by omega)
              clear b_w21
              have yp : w20.heap.size < w21.heap.size := zz_w21
              have POK : Hid (netOk (8 : Nat) xp = true) := by
                show _ = _
                have h := pairUp_place (d := d8) HPX.out
                rw [hd8n, ← HXp.out] at h
                exact netOk_of_pairUp h (by omega) (by omega) (by rw [HXp.out, renP_len]; have := HX12.out; omega)
              clear hlt4 hki4 hk4
              have hmk := run_make_row' (P := Tryz.prog) 27 3 (.int .i64 0) 8 (by kernel_rfl) (by kernel_rfl) rfl .i64 .i64 d8 (by omega) (by omega)
              have HZW : Hid (OwnI (w21.alloc (.cells (madeCells #[Value.int .i64 0] d8) 3)) w21.heap.size (w21.heap.size + 1) (.slice (some ⟨w21.heap.size, 0, none⟩) d8 d8) (List.replicate d8 0)) := ownI_madeN w21 d8 (by omega)
              have HZB : Hid (Below w21.heap.size w21 (w21.alloc (.cells (madeCells #[Value.int .i64 0] d8) 3))) := (Below.refl _ _).alloc (Nat.le_refl _) _
              have HVM := Lib.hid (OwnI.ints (Om.out.later HZB.out))
              have HZZ : Hid (w21.heap.size ≤ (w21.alloc (.cells (madeCells #[Value.int .i64 0] d8) 3)).heap.size) := HZB.out.size
              have HLZ : Hid ((List.replicate d8 (0 : Int)).length + xm.length ≤ 1000000000) := by show _ ≤ _; rw [List.length_replicate, HLm.out]; omega
              go_upto_region 50 with (at_builtin; refine wpList_app_ints rfl (.tmp 292) (.tmp 293) rfl (w21.alloc (.cells (madeCells #[Value.int .i64 0] d8) 3)) w21.heap.size (w21.heap.size + 1) _ _ _ _ (List.replicate d8 0) xm HZW.out HVM.out HZZ.out HLZ.out rfl rfl ?_; intro aow Lw capw ww hLw ow qw zw; have OW0 := Lib.hid ow; have QW : Hid (Below w21.heap.size w21 ww) := HZB.out.trans qw; clear ow qw)
              have bww := QW.out
              clear HZW HZB HVM HZZ HLZ hmk QW
              obtain ⟨xw, hxw⟩ : ∃ X, X = List.replicate d8 (0 : Int) ++ xm := ⟨_, rfl⟩
              rw [← hxw] at OW0
              have HXW := Lib.hid hxw
              have HLW : Hid (xw.length = 8) := by show _ = _; rw [hxw, List.length_append, List.length_replicate, HLm.out, hd8n]
              clear hxw
              have z_ww := bww.size
              replace Ox := Lib.hid (Ox.out.later bww)
              replace Om := Lib.hid (Om.out.later bww)
              replace Oa := Lib.hid (Oa.out.later bww)
              replace Op := Lib.hid (Op.out.later bww)
              replace cx0 := (bww.cell (p := ⟨w1.heap.size, 0, none⟩) (by show w1.heap.size < _; omega)).trans cx0
              replace cx1 := (bww.cell (p := ⟨w1.heap.size, 1, none⟩) (by show w1.heap.size < _; omega)).trans cx1
              replace cp0 := (bww.cell (p := ⟨w20.heap.size, 0, none⟩) (by show w20.heap.size < _; omega)).trans cp0
              replace cp1 := (bww.cell (p := ⟨w20.heap.size, 1, none⟩) (by show w20.heap.size < _; omega)).trans cp1
              replace BA : Hid (Below w.heap.size w ww) := BA.out.trans (bww.mono (by omega))
              replace ZA : w.heap.size ≤ ww.heap.size := (by omega)
              replace yx : w1.heap.size < ww.heap.size := (by omega)
              replace yp : w20.heap.size < ww.heap.size := (by omega)
              clear bww
              go_wp2_with fail
              refine (ApplyNetwork_y 8 _ _ _ _ _ usp xp _ xw ww Op.out (by omega) POK.out (OwnI.ints OW0.out) (by omega) HLW.out).mono ?_
              rintro e w22 ⟨qe, rfl, oe, b_w22⟩
              obtain ⟨xe, hxe⟩ : ∃ X, X = applyP xp xw := ⟨_, rfl⟩
              rw [← hxe] at oe
              have HXe := Lib.hid hxe
              clear hxe
              obtain ⟨aoe, ge, cape, ee, -, -, -⟩ := OwnI.view oe
              obtain ⟨Le, hLe⟩ : ∃ L, L = xe.length := ⟨_, rfl⟩
              rw [← hLe] at ee
              subst ee
              have HNe := Lib.hid hLe
              clear hLe
              have z_w22 := b_w22.size
              replace Ox := Lib.hid (Ox.out.later b_w22)
              replace Om := Lib.hid (Om.out.later b_w22)
              replace Oa := Lib.hid (Oa.out.later b_w22)
              replace Op := Lib.hid (Op.out.later b_w22)
              replace cx0 := (b_w22.cell (p := ⟨w1.heap.size, 0, none⟩) (by show w1.heap.size < _; omega)).trans cx0
              replace cx1 := (b_w22.cell (p := ⟨w1.heap.size, 1, none⟩) (by show w1.heap.size < _; omega)).trans cx1
              replace cp0 := (b_w22.cell (p := ⟨w20.heap.size, 0, none⟩) (by show w20.heap.size < _; omega)).trans cp0
              replace cp1 := (b_w22.cell (p := ⟨w20.heap.size, 1, none⟩) (by show w20.heap.size < _; omega)).trans cp1
              replace BA : Hid (Below w.heap.size w w22) := BA.out.trans (b_w22.mono (by omega))
              replace ZA : w.heap.size ≤ w22.heap.size := (by omega)
              replace yx : w1.heap.size < w22.heap.size := (by omega)
              replace yp : w20.heap.size < w22.heap.size := (by omega)
              clear b_w22
              have Oe := Lib.hid oe
              clear oe
              have hLe : Le = 8 := by rw [HNe.out, HXe.out, applyP_len, HLW.out]
              subst hLe
              have HED : Hid (xe = List.replicate d8 0 ++ xa) := by
                show _ = _
                rw [HXe.out, HXp.out, HXW.out, place_apply d8 _ List.length_replicate xx n xm HPX.out HLm.out, ← HXa.out]
              have HDR : Hid (xe.drop d8 = xa) := by show _ = _; rw [HED.out, List.drop_left' List.length_replicate]
              have HTK : Hid (∀ x ∈ xe.take d8, x = 0) := by
                show ∀ x ∈ _, _
                rw [HED.out, List.take_left' List.length_replicate]
                exact fun x hx => List.eq_of_mem_replicate hx
              clear OW0
              clear Om
              clear Op
              obtain ⟨TS, hTS⟩ : ∃ T, T = strB (fmtT n xx) := ⟨_, rfl⟩
              have HTS := Lib.hid hTS
              clear hTS
              go_wp2_with fail
              refine (FormatNetwork_y n _ _ _ usx xx w22 Ox.out (by omega) XOK.out).mono ?_
              rintro e w23 ⟨rfl, b_w23⟩
              rw [show strB (fmtT n xx) = TS from HTS.out.symm]
              have z_w23 := b_w23.size
              replace Ox := Lib.hid (Ox.out.later b_w23)
              replace Oa := Lib.hid (Oa.out.later b_w23)
              replace Oe := Lib.hid (Oe.out.later b_w23)
              replace cx0 := (b_w23.cell (p := ⟨w1.heap.size, 0, none⟩) (by show w1.heap.size < _; omega)).trans cx0
              replace cx1 := (b_w23.cell (p := ⟨w1.heap.size, 1, none⟩) (by show w1.heap.size < _; omega)).trans cx1
              replace BA : Hid (Below w.heap.size w w23) := BA.out.trans (b_w23.mono (by omega))
              replace ZA : w.heap.size ≤ w23.heap.size := (by omega)
              replace yx : w1.heap.size < w23.heap.size := (by omega)
              clear b_w23
              have HPR : Hid (Calls Tryz.prog 17 #[.string TS] w23 (NetC w23 n xx true)) := by
                show Calls _ _ _ _ _
                rw [HTS.out]
                exact ParseNetwork_y n xx XOK.out mm w23 (HMM.out _ BA.out) (by omega)
              go_wp2_with fail
              refine (HPR.out).mono ?_
              rintro e w24 ⟨qk, usk, rfl, ok, b_w24⟩
              obtain ⟨xk, hxk⟩ : ∃ X, X = xx := ⟨_, rfl⟩
              rw [← hxk] at ok
              have HXk := Lib.hid hxk
              clear hxk
              obtain ⟨aok, gk, capk, ek, -, -, -⟩ := ok.rows
              obtain ⟨Lk, hLk⟩ : ∃ L, L = xk.length := ⟨_, rfl⟩
              rw [← hLk] at ek
              subst ek
              have HNk := Lib.hid hLk
              clear hLk
              have z_w24 := b_w24.size
              replace Ox := Lib.hid (Ox.out.later b_w24)
              replace Oa := Lib.hid (Oa.out.later b_w24)
              replace Oe := Lib.hid (Oe.out.later b_w24)
              replace cx0 := (b_w24.cell (p := ⟨w1.heap.size, 0, none⟩) (by show w1.heap.size < _; omega)).trans cx0
              replace cx1 := (b_w24.cell (p := ⟨w1.heap.size, 1, none⟩) (by show w1.heap.size < _; omega)).trans cx1
              replace BA : Hid (Below w.heap.size w w24) := BA.out.trans (b_w24.mono (by omega))
              replace ZA : w.heap.size ≤ w24.heap.size := (by omega)
              replace yx : w1.heap.size < w24.heap.size := (by omega)
              clear b_w24
              have Ok := Lib.hid ok
              clear ok
              go_upto_region 53 with fail
              obtain ⟨w25, hWw25, ck0, ck1, hzw25, b_w25, -, -⟩ := box2 w24 (.int .i64 n) (.slice aok Lk capk) 25
              rw [hWw25]
              clear hWw25
              have zz_w25 : w24.heap.size < w25.heap.size := (by omega)
              have HZ_w25 := Lib.hid hzw25
              clear hzw25
              have z_w25 := b_w25.size
              replace Ox := Lib.hid (Ox.out.later b_w25)
              replace Oa := Lib.hid (Oa.out.later b_w25)
              replace Oe := Lib.hid (Oe.out.later b_w25)
              replace Ok := Lib.hid (Ok.out.later b_w25)
              replace cx0 := (b_w25.cell (p := ⟨w1.heap.size, 0, none⟩) (by show w1.heap.size < _; omega)).trans cx0
              replace cx1 := (b_w25.cell (p := ⟨w1.heap.size, 1, none⟩) (by show w1.heap.size < _; omega)).trans cx1
              replace BA : Hid (Below w.heap.size w w25) := BA.out.trans (b_w25.mono (by omega))
              replace ZA : w.heap.size ≤ w25.heap.size := (by omega)
              replace yx : w1.heap.size < w25.heap.size := (by omega)
              clear b_w25
              have yk : w24.heap.size < w25.heap.size := zz_w25
              have KOK : Hid (netOk (n : Nat) xk = true) := by show _ = _; rw [HXk.out]; exact XOK.out
              clear HPR
              obtain ⟨ge', haoe, hcape, hrowe⟩ := intsX Oe.out HNe.out
              obtain ⟨rfl, hge⟩ := haoe (by omega)
              clear haoe hrowe
              have hd1 : (d8 : Int) ≤ (cape : Int) := by omega
              have hd2 : (d8 : Int) ≤ 8 := by omega
              have hd3 : ¬ cape = d8 := by omega
              have hd4 : d8 ≤ 8 := by omega
              have hd5 : d8 ≤ cape := by omega
              have hd6 : (0 : Int) ≤ (d8 : Int) := by omega
              have hd7 : ¬ (cape : Int) = (d8 : Int) := by omega
              have hd8' : ¬ cape = 0 := by omega
              have hsz : (TS.size : Int) = 2 + 4 * (Ly : Int) := by rw [HTS.out, strB_size, fmtT_len, HNx.out]; omega
              have hsz2 : ((TS.size : Int) == 2 + 4 * (Ly : Int)) = true := by rw [hsz]; simp
              have hsz3 : ((TS.size : Int) == 4 * (Ly : Int) + 2) = true := by rw [hsz]; simp; omega
              have hd9 : d8 < 8 := by omega
              go_wp2_with fail
              refine (same_c _ _ _ _ _ _ (xe.drop d8) xa w25 (intsV_part Oe.out HNe.out.symm d8 (by omega)).1 (OwnI.ints Oa.out) (by omega) (by omega) (by rw [HDR.out, HLA.out]; omega)).mono ?_
              rintro e w26 ⟨rfl, b_w26⟩
              rw [show decide (xe.drop d8 = xa) = true from decide_eq_true HDR.out]
              have z_w26 := b_w26.size
              replace Ox := Lib.hid (Ox.out.later b_w26)
              replace Oa := Lib.hid (Oa.out.later b_w26)
              replace Oe := Lib.hid (Oe.out.later b_w26)
              replace Ok := Lib.hid (Ok.out.later b_w26)
              replace cx0 := (b_w26.cell (p := ⟨w1.heap.size, 0, none⟩) (by show w1.heap.size < _; omega)).trans cx0
              replace cx1 := (b_w26.cell (p := ⟨w1.heap.size, 1, none⟩) (by show w1.heap.size < _; omega)).trans cx1
              replace ck0 := (b_w26.cell (p := ⟨w24.heap.size, 0, none⟩) (by show w24.heap.size < _; omega)).trans ck0
              replace ck1 := (b_w26.cell (p := ⟨w24.heap.size, 1, none⟩) (by show w24.heap.size < _; omega)).trans ck1
              replace BA : Hid (Below w.heap.size w w26) := BA.out.trans (b_w26.mono (by omega))
              replace ZA : w.heap.size ≤ w26.heap.size := (by omega)
              replace yx : w1.heap.size < w26.heap.size := (by omega)
              replace yk : w24.heap.size < w26.heap.size := (by omega)
              clear b_w26
              go_wp2_with fail
              refine (sum0_c _ _ _ (xe.take d8) w26 (intsV_part Oe.out HNe.out.symm d8 (by omega)).2 HTK.out (by rw [List.length_take]; omega)).mono ?_
              rintro e w27 ⟨rfl, b_w27⟩
              have z_w27 := b_w27.size
              replace Ox := Lib.hid (Ox.out.later b_w27)
              replace Oa := Lib.hid (Oa.out.later b_w27)
              replace Oe := Lib.hid (Oe.out.later b_w27)
              replace Ok := Lib.hid (Ok.out.later b_w27)
              replace cx0 := (b_w27.cell (p := ⟨w1.heap.size, 0, none⟩) (by show w1.heap.size < _; omega)).trans cx0
              replace cx1 := (b_w27.cell (p := ⟨w1.heap.size, 1, none⟩) (by show w1.heap.size < _; omega)).trans cx1
              replace ck0 := (b_w27.cell (p := ⟨w24.heap.size, 0, none⟩) (by show w24.heap.size < _; omega)).trans ck0
              replace ck1 := (b_w27.cell (p := ⟨w24.heap.size, 1, none⟩) (by show w24.heap.size < _; omega)).trans ck1
              replace BA : Hid (Below w.heap.size w w27) := BA.out.trans (b_w27.mono (by omega))
              replace ZA : w.heap.size ≤ w27.heap.size := (by omega)
              replace yx : w1.heap.size < w27.heap.size := (by omega)
              replace yk : w24.heap.size < w27.heap.size := (by omega)
              clear b_w27
              go_wp2_with fail
              refine (SameNetwork_y n n _ _ _ _ _ _ usk usx xk xx w27 Ok.out (by omega) KOK.out Ox.out (by omega) XOK.out).mono ?_
              rintro e w28 ⟨rfl, b_w28⟩
              rw [show (decide (n = n) && decide (xk = xx)) = true from (by rw [HXk.out]; simp)]
              have z_w28 := b_w28.size
              replace Ox := Lib.hid (Ox.out.later b_w28)
              replace Oa := Lib.hid (Oa.out.later b_w28)
              replace Oe := Lib.hid (Oe.out.later b_w28)
              replace Ok := Lib.hid (Ok.out.later b_w28)
              replace cx0 := (b_w28.cell (p := ⟨w1.heap.size, 0, none⟩) (by show w1.heap.size < _; omega)).trans cx0
              replace cx1 := (b_w28.cell (p := ⟨w1.heap.size, 1, none⟩) (by show w1.heap.size < _; omega)).trans cx1
              replace ck0 := (b_w28.cell (p := ⟨w24.heap.size, 0, none⟩) (by show w24.heap.size < _; omega)).trans ck0
              replace ck1 := (b_w28.cell (p := ⟨w24.heap.size, 1, none⟩) (by show w24.heap.size < _; omega)).trans ck1
              replace BA : Hid (Below w.heap.size w w28) := BA.out.trans (b_w28.mono (by omega))
              replace ZA : w.heap.size ≤ w28.heap.size := (by omega)
              replace yx : w1.heap.size < w28.heap.size := (by omega)
              replace yk : w24.heap.size < w28.heap.size := (by omega)
              clear b_w28
              go_wp2
              go_ret
              exact ⟨rfl, BA.out⟩
end Go.Proofs.YtiodolbgapjmkaaGreatDoor
