/- Which comparators of a network exchange how often, and the networks without the idle ones. Conditions: the network is valid. -/
import Derived.Test.YtgdkihabphihoaaBitsC
import Derived.Test.YtgdkihabphihoaaMaskL
import Derived.Test.YtgdkihabphihoaaParts
import Derived.Test.YtgdkihabphihoaaCopy
import Derived.Test.YtgdkihabphihoaaTo
import Derived.Deep.DeepCutAuto
import Derived.Test.YtgdkihabphihoaaCur
import Derived.Test.YtgdkihabphihoaaPast
import Derived.Test.YtgdkihabphihoaaSame
import Derived.Test.YtgdkihabphihoaaMkSort
import Derived.Test.YtgdkihabphihoaaWLeanN
import Derived.Test.YtgdkihabphihoaaNeeded
import Derived.Test.YtgdkihabphihoaaMake
import Derived.Test.YtgdkihabphihoaaWLean
namespace Go.Proofs.Ytgdkihabphihoaa
open Go.RowKit
set_option maxRecDepth 100000
set_option linter.unusedVariables false

/-- Comparator k exchanges at mask m. -/
def exch (xss : List (List Int)) (k m : Nat) : Bool := bitsP (xss.take (k + 1)) m != bitsP (xss.take k) m
/-- How many of the masks below M comparator k exchanges at. -/
def cntX (xss : List (List Int)) (k M : Nat) : Nat := ((List.range M).filter (exch xss k)).length
theorem cntX_yes {xss : List (List Int)} {k M : Nat} (h : exch xss k M = true) : cntX xss k (M + 1) = cntX xss k M + 1 := by simp [cntX, List.range_succ, List.filter_append, h]
theorem cntX_no {xss : List (List Int)} {k M : Nat} (h : exch xss k M = false) : cntX xss k (M + 1) = cntX xss k M := by simp [cntX, List.range_succ, List.filter_append, h]
theorem cntX_le (xss : List (List Int)) (k M : Nat) : cntX xss k M ≤ M := by
  unfold cntX
  exact Nat.le_trans (List.length_filter_le _ _) (by simp)
/-- The counts behind M masks and j comparators of the next. -/
def useF (xss : List (List Int)) (M j k : Nat) : Int := (cntX xss k (if k < j then M + 1 else M) : Nat)
def useL (n : Nat) (xss : List (List Int)) : List Int := (List.range xss.length).map fun k => ((cntX xss k (2 ^ n) : Nat) : Int)
theorem useL_length (n : Nat) (xss : List (List Int)) : (useL n xss).length = xss.length := by simp [useL]
theorem useL_getD (n : Nat) (xss : List (List Int)) (k : Nat) (h : k < xss.length) : (useL n xss).getD k 0 = ((cntX xss k (2 ^ n) : Nat) : Int) := by simp [useL, h]
set_option maxHeartbeats 4000000 in
theorem uses_c (n : Nat) (lo hi : Nat) (v : Value) (vs : List Value) (xss : List (List Int)) (w : World) (hv : OwnR w lo hi v vs xss) (hhi : hi ≤ w.heap.size) (hok : netOk n xss = true) :
    Calls Try.prog 152 #[.agg #[.int .i64 n, v]] w (IntC w (useL n xss)) := by
  have HP := Lib.hid (netOk_pair hok)
  have HLT := Lib.hid (fun (m : Nat) (h : m < 2 ^ n) => bitsP_lt hok h)
  have hn8 : n ≤ 8 := by have := netOk_n hok; omega
  have h256 := pow_le_256 n hn8
  have hl60 := netOk_len hok
  obtain ⟨ao, g, cap, A, G, C, rfl, hcap, hao, hrow⟩ := hv.view
  have HRW := Lib.hid hrow
  obtain ⟨L, hlen⟩ : ∃ l, l = xss.length := ⟨_, rfl⟩
  have HLEN := Lib.hid hlen
  rw [← hlen] at hcap hao HRW HP HLT hl60 ⊢
  obtain ⟨N, hN⟩ : ∃ N, N = 2 ^ n := ⟨_, rfl⟩
  have hwp := wrap_pow n hn8
  rw [← hN] at hwp h256 HLT
  have HN := Lib.hid hN
  obtain ⟨RES, hRES⟩ : ∃ r, r = useL n xss := ⟨_, rfl⟩
  have HRES := Lib.hid hRES
  rw [← hRES]
  have hmk := run_make_row' (P := Try.prog) 31 3 (.int .i64 0) 8 Try.underlying31 Try.infoI rfl .i64 .i64 L (by omega) (by omega)
  clear hv hlen hok hN hRES hrow
  go_enter Try.func152, Try.ntmps152
  obtain ⟨W1, hW1, c0, c1, hsz, hB1, -, -⟩ := box2 w (.int .i64 n) (.slice ao L cap) 27
  go_wp2_with fail
  clear hmk
  try rw [hW1]
  have hs9 : W1.heap.size = w.heap.size + 1 := hsz
  try rw [← hs9]
  clear hW1
  obtain ⟨W2, hW2⟩ : ∃ W, W1.alloc (.cells (madeCells #[.int .i64 0] L) 3) = W := ⟨_, rfl⟩
  have hB2 : Below W1.heap.size W1 W2 := by rw [← hW2]; exact (Below.refl _ _).alloc (Nat.le_refl _) _
  have hrw : W2.rowIs W1.heap.size 3 L (fun k => .int .i64 (useF xss 0 0 k)) := by
    rw [← hW2]
    exact (World.rowIs_made W1 (.int .i64 0) L 3).congr fun i _ => by simp [useF, cntX]
  try rw [hW2]
  have hz2 : W1.heap.size < W2.heap.size := by rw [← hW2]; simp
  clear hW2
  obtain ⟨c0, c1, hz1⟩ := boxC hB2 (by omega) c0 c1
  have HB2 : Hid (Below w.heap.size w W2) := hB1.trans (hB2.mono (by omega))
  try simp only [hwp]
  have hwle : w.heap.size ≤ W1.heap.size := by omega
  have hwlt : w.heap.size < W1.heap.size := by omega
  have HS9 := Lib.hid hs9
  clear hsz hs9 hB1
  go_loopw [15] (fun i wr => ∃ M : Nat, M ≤ N ∧ i = .int .i64 M ∧ Hid (wr.rowIs W1.heap.size 3 L (fun k => .int .i64 (useF xss M 0 k))) ∧ Below W1.heap.size W1 wr ∧ W2.heap.size ≤ wr.heap.size) (fun i _ => N - (intOf i).toNat)
  case atStart => exact ⟨0, Nat.zero_le _, rfl, hrw, hB2, Nat.le_refl _⟩
  case round =>
    obtain ⟨M, hM, rfl, HK, hB, hzr⟩ := hrel
    obtain ⟨c0, c1, hzw⟩ := boxC hB hwlt (by rw [← c0]; exact (hB2.cell (p := ⟨w.heap.size, 0, none⟩) hwlt).symm) (by rw [← c1]; exact (hB2.cell (p := ⟨w.heap.size, 1, none⟩) hwlt).symm)
    have HB := Lib.hid hB
    clear hB hrw
    by_cases hlt : M < N
    · have hlt1 : (M : Int) < (N : Int) := by omega
      obtain ⟨wo, rfl⟩ : ∃ wo : World, wo = wr := ⟨_, rfl⟩
      go_wp2_with fail
      go_loopw [4, 21] (fun x j wr => ∃ k : Nat, k ≤ L ∧ j = .int .i64 k ∧ x = .int .i64 (bitsP (xss.take k) M) ∧ Hid (wr.rowIs W1.heap.size 3 L (fun t => .int .i64 (useF xss M k t))) ∧ Below W1.heap.size W1 wr ∧ W2.heap.size ≤ wr.heap.size) (fun _ j _ => L - (intOf j).toNat)
      case atStart => exact ⟨0, Nat.zero_le _, rfl, by simp [bitsP], HK.out, HB.out, hzr⟩
      case round =>
        obtain ⟨k, hk, rfl, rfl, HK2, hB, hzr2⟩ := hrel
        clear HB HK
        have HB := Lib.hid hB
        by_cases hkl : k < L
        · have hkl1 : (k : Int) < (L : Int) := by omega
          obtain ⟨i, j, hr, hi1, hj1, hne⟩ := HP.out k hkl
          obtain ⟨q1, q2, q3, q4⟩ := HRW.out k hkl
          obtain ⟨ha0, hg1, hg2⟩ := hao (by omega)
          subst ha0
          rw [hr] at q1 q2 q3 q4
          obtain ⟨ea, gk3, gk4⟩ := q3 (by simp)
          rw [ea] at q1
          have hbw : Below w.heap.size w wr := HB2.out.trans (by
            have := hB
            refine ⟨?_, ?_, ?_, ?_, ?_⟩
            · exact hB.os.trans hB2.os.symm
            · exact hB.tape.trans hB2.tape.symm
            · exact hB.output.trans hB2.output.symm
            · exact hzr2
            · intro b hb; exact (hB.block b (by omega)).trans (hB2.block b (by omega)).symm)
          have c2 : wr.cell? ⟨g, k, none⟩ = some (.slice (some ⟨G k, 0, none⟩) 2 (C k)) := (hbw.cell (p := ⟨g, k, none⟩) (by show g < _; omega)).trans q1
          have c3 : wr.cell? ⟨G k, 0, none⟩ = some (.int .i64 i) := (hbw.cell (p := ⟨G k, 0, none⟩) (by show G k < _; omega)).trans (q4 0 (by simp))
          have c4 : wr.cell? ⟨G k, 1, none⟩ = some (.int .i64 j) := (hbw.cell (p := ⟨G k, 1, none⟩) (by show G k < _; omega)).trans (q4 1 (by simp))
          have hGk : G k < wr.heap.size := by omega
          have hx2 := (HLT.out M hlt k (by have := HLEN.out; omega)).1
          have HX := Lib.hid (bitsP_take (xss := xss) (k := k) (by have := HLEN.out; omega) hr M)
          obtain ⟨x, hx⟩ : ∃ x, x = bitsP (xss.take k) M := ⟨_, rfl⟩
          have HXE := Lib.hid hx
          rw [← hx] at HX hx2 ⊢
          have hx3 : x < 256 := by omega
          have HST : Hid (∀ w, Calls Try.prog 189 #[.int .i64 x, .int .i64 i, .int .i64 j] w fun e w' => e = .returned (.int .i64 (stp x i j)) ∧ Below w.heap.size w w') := fun w => step_c x i j w hx3 (by omega) (by omega)
          obtain ⟨y, hy⟩ : ∃ y, y = stp x i j := ⟨_, rfl⟩
          rw [← hy] at HST HX
          have hW1r : W1.heap.size < wr.heap.size := by omega
          clear q1 q2 q3 q4 hr ea hbw hx hy hx2 hB
          by_cases hyx : y = x
          · have hex : exch xss k M = false := by unfold exch; rw [HX.out, ← HXE.out, hyx]; simp
            have hu : ∀ t, useF xss M (k + 1) t = useF xss M k t := by
              intro t
              unfold useF
              by_cases ht : t = k
              · rw [ht, if_pos (by omega), if_neg (by omega), cntX_no hex]
              · by_cases h2 : t < k
                · rw [if_pos (by omega), if_pos h2]
                · rw [if_neg (by omega), if_neg h2]
            have HU := Lib.hid hu
            have hne1 : ((y : Int) != (x : Int)) = false := by rw [hyx]; simp
            clear hu hex hyx
            go_wp2_with fail
            refine wp_region_later wr.heap.size wr (by kernel_rfl) (by kernel_rfl) (Below.refl _ _) ?_
            have hLW := LW.cells (B := wr.heap.size) (w0 := wr)
            repeat (go_big_quiet_step ((go_at_call 189; refine LW.call (Nat.le_refl _) (HST.out _))))
            refine wpQuiet_nil ?_
            rintro w5 ⟨⟨w2s, hb5⟩, rfl⟩
            clear hLW
            have HB5 : Hid (Below W1.heap.size W1 w5) := HB.out.trans (hb5.mono (by omega))
            have HK5 : Hid (w5.rowIs W1.heap.size 3 L (fun t => .int .i64 (useF xss M k t))) := by
              obtain ⟨cc, hh, h2, h3⟩ := HK2.out
              exact ⟨cc, (hb5.block _ hW1r).trans hh, h2, h3⟩
            have hz5 := hb5.size
            clear hb5
            go_wp2
            go_roundw
            case rel => exact ⟨k + 1, by omega, by go_num, by rw [HX.out], by show World.rowIs _ _ _ _ _; exact HK5.out.congr fun t _ => by rw [HU.out], HB5.out, by omega⟩
            case measure => simp [intOf]; omega
          · have hex : exch xss k M = true := by unfold exch; rw [HX.out, ← HXE.out]; simpa using hyx
            have hcv : useF xss M k k = ((cntX xss k M : Nat) : Int) := by unfold useF; rw [if_neg (by omega)]
            obtain ⟨c, hc⟩ : ∃ c, c = cntX xss k M := ⟨_, rfl⟩
            have hc256 : c ≤ 256 := by rw [hc]; have := cntX_le xss k M; omega
            have hu : ∀ t, useF xss M (k + 1) t = if t = k then (c : Int) + 1 else useF xss M k t := by
              intro t
              unfold useF
              by_cases ht : t = k
              · rw [ht, if_pos (by omega), if_pos rfl, cntX_yes hex, hc]; simp
              · rw [if_neg ht]
                by_cases h2 : t < k
                · rw [if_pos (by omega), if_pos h2]
                · rw [if_neg (by omega), if_neg h2]
            have HU := Lib.hid hu
            have hne1 : ((y : Int) != (x : Int)) = true := by rw [bne_iff_ne]; omega
            rw [← hc] at hcv
            have HCV := Lib.hid hcv
            clear hu hex hyx hc hcv
            go_wp2_with fail
            refine wp_region_later wr.heap.size wr (by kernel_rfl) (by kernel_rfl) (Below.refl _ _) ?_
            have hLW := LW.cells (B := wr.heap.size) (w0 := wr)
            repeat (go_big_quiet_step ((go_at_call 189; refine LW.call (Nat.le_refl _) (HST.out _))))
            refine wpQuiet_nil ?_
            rintro w5 ⟨⟨w2s, hb5⟩, rfl⟩
            clear hLW
            have HB5 : Hid (Below W1.heap.size W1 w5) := HB.out.trans (hb5.mono (by omega))
            have HK5 : Hid (w5.rowIs W1.heap.size 3 L (fun t => .int .i64 (useF xss M k t))) := by
              obtain ⟨cc, hh, h2, h3⟩ := HK2.out
              exact ⟨cc, (hb5.block _ hW1r).trans hh, h2, h3⟩
            have hz5 := hb5.size
            clear hb5
            have r1 : w5.cell? ⟨W1.heap.size, k, none⟩ = some (.int .i64 c) := by rw [HK5.out.cell hkl, HCV.out]
            have r2 : w5.frozen? ⟨W1.heap.size, k, none⟩ = false := HK5.out.frozen k
            have HS5 : Hid ((w5.setCell ⟨W1.heap.size, k, none⟩ (.int .i64 ((c : Int) + 1))).rowIs W1.heap.size 3 L (fun t => .int .i64 (useF xss M (k + 1) t))) := by
              refine (HK5.out.set k (.int .i64 ((c : Int) + 1))).congr fun t _ => ?_
              rw [HU.out]
              by_cases ht : t = k
              · simp [ht]
              · simp [ht]
            go_wp2
            go_roundw
            case rel => exact ⟨k + 1, by omega, by go_num, by rw [HX.out], HS5.out, HB5.out.setCell (by show W1.heap.size ≤ W1.heap.size; omega) _, by simp [World.setCell]; omega⟩
            case measure => simp [intOf]; omega
        · have hkl1 : ¬ (k : Int) < (L : Int) := by omega
          have HU : Hid (∀ t, t < L → useF xss (M + 1) 0 t = useF xss M k t) := by
            show ∀ t, _
            intro t ht
            unfold useF
            rw [if_neg (by omega), if_pos (by omega)]
          clear hB
          go_wp2
          go_roundw
          case rel => exact ⟨M + 1, by omega, by go_num, by show World.rowIs _ _ _ _ _; exact HK2.out.congr fun t ht => by rw [HU.out t ht], HB.out, hzr2⟩
          case measure => simp [intOf]; omega
    · have hlt1 : ¬ (M : Int) < (N : Int) := by omega
      have HF : Hid (OwnI wr w.heap.size wr.heap.size (.slice (some ⟨W1.heap.size, 0, none⟩) L L) RES) := by
        have h := own_of_rowIs (lo := w.heap.size) HK.out hwle (by unfold maxLen; omega)
        rw [HRES.out]
        have e : (List.range L).map (fun t => Value.int .i64 (useF xss M 0 t)) = ivs (useL n xss) := by
          unfold ivs useL
          rw [List.map_map, ← HLEN.out]
          refine List.map_congr_left fun t ht => ?_
          show _ = Value.int .i64 _
          rw [useF, if_neg (by omega), ← HN.out, show M = N by omega]
        rw [e] at h
        exact h
      go_wp2
      go_ret
      refine ⟨_, rfl, HF.out, ?_⟩
      exact HB2.out.trans ⟨HB.out.os.trans hB2.os.symm, HB.out.tape.trans hB2.tape.symm, HB.out.output.trans hB2.output.symm, hzr, fun b hb => (HB.out.block b (by omega)).trans (hB2.block b (by omega)).symm⟩
end Go.Proofs.Ytgdkihabphihoaa

namespace Go.Proofs.Ytgdkihabphihoaa
open Go.RowKit
set_option maxRecDepth 100000
set_option linter.unusedVariables false

set_option maxHeartbeats 1000000 in
theorem UseOf_y (n : Nat) (lo hi : Nat) (v : Value) (vs : List Value) (xss : List (List Int)) (w : World) (hv : OwnR w lo hi v vs xss) (hhi : hi ≤ w.heap.size) (hok : netOk n xss = true) :
    Calls Try.prog 58 #[.agg #[.int .i64 n, v]] w (IntC w (useL n xss)) := by
  have HC : Hid (∀ w, OwnR w lo hi v vs xss → hi ≤ w.heap.size → Calls Try.prog 104 #[.agg #[.int .i64 n, v]] w fun e w' => e = .returned (.bool true) ∧ Below w.heap.size w w') := fun w h1 h2 => by
    have := NetworkOk_c n lo hi v vs xss w h1 h2
    rwa [hok] at this
  have CU := Lib.hid (fun (w : World) (h1 : OwnR w lo hi v vs xss) (h2 : hi ≤ w.heap.size) => uses_c n lo hi v vs xss w h1 h2 hok)
  obtain ⟨RES, hRES⟩ : ∃ r, r = useL n xss := ⟨_, rfl⟩
  rw [← hRES] at CU ⊢
  obtain ⟨ao, g, cap, rfl, -, -, -⟩ := hv.rows
  have HV := Lib.hid hv
  obtain ⟨L, hlen⟩ : ∃ l, l = xss.length := ⟨_, rfl⟩
  rw [← hlen] at HV HC CU ⊢
  clear hv hlen hok hRES
  go_enter Try.func58, Try.ntmps58
  go_wp2_with fail
  obtain ⟨W1, hW1, c0, c1, hsz, hB1, -, -⟩ := box2 w (.int .i64 n) (.slice ao L cap) 27
  try rw [hW1]
  clear hW1
  refine (HC.out W1 (HV.out.below hB1 (by omega)) (by omega)).mono ?_
  rintro e w1 ⟨rfl, b1⟩
  obtain ⟨d0, d1, z1⟩ := boxC b1 (by omega) c0 c1
  have zz := b1.size
  have HVb := Lib.hid ((HV.out.below hB1 (by omega)).below b1 (by omega))
  have HB1 : Hid (Below w.heap.size w w1) := hB1.trans (b1.mono (by omega))
  clear c0 c1 HV HC hB1 b1
  go_wp2_with fail
  refine (CU.out w1 HVb.out (by omega)).mono ?_
  rintro e w2 ⟨u, rfl, o2, b2⟩
  have O2 := Lib.hid o2
  have B2 : Hid (Below w.heap.size w w2) := HB1.out.trans (b2.mono (by omega))
  clear o2 b2
  go_wp2
  go_ret
  exact ⟨u, rfl, Own.mono O2.out (by omega) (Nat.le_refl _), B2.out⟩
/-- The comparators below k that exchange nothing. -/
def idleK (n : Nat) (xss : List (List Int)) (k : Nat) : List Int := ((List.range k).filter fun t => cntX xss t (2 ^ n) == 0).map fun t : Nat => (t : Int)
theorem idleK_yes {n : Nat} {xss : List (List Int)} {k : Nat} (h : cntX xss k (2 ^ n) = 0) : idleK n xss (k + 1) = idleK n xss k ++ [(k : Int)] := by simp [idleK, List.range_succ, List.filter_append, h]
theorem idleK_no {n : Nat} {xss : List (List Int)} {k : Nat} (h : ¬ cntX xss k (2 ^ n) = 0) : idleK n xss (k + 1) = idleK n xss k := by simp [idleK, List.range_succ, List.filter_append, h]
theorem idleK_le (n : Nat) (xss : List (List Int)) (k : Nat) : (idleK n xss k).length ≤ k := by
  rw [idleK, List.length_map]
  exact Nat.le_trans (List.length_filter_le _ _) (by simp)
set_option maxHeartbeats 2000000 in
theorem IdleOf_y (n : Nat) (lo hi : Nat) (v : Value) (vs : List Value) (xss : List (List Int)) (w : World) (hv : OwnR w lo hi v vs xss) (hhi : hi ≤ w.heap.size) (hok : netOk n xss = true) :
    Calls Try.prog 59 #[.agg #[.int .i64 n, v]] w (IntC w (idleK n xss xss.length)) := by
  have HC : Hid (∀ w, OwnR w lo hi v vs xss → hi ≤ w.heap.size → Calls Try.prog 104 #[.agg #[.int .i64 n, v]] w fun e w' => e = .returned (.bool true) ∧ Below w.heap.size w w') := fun w h1 h2 => by
    have := NetworkOk_c n lo hi v vs xss w h1 h2
    rwa [hok] at this
  have CU := Lib.hid (fun (w : World) (h1 : OwnR w lo hi v vs xss) (h2 : hi ≤ w.heap.size) => uses_c n lo hi v vs xss w h1 h2 hok)
  have hl60 := netOk_len hok
  obtain ⟨ao, g, cap, rfl, -, -, -⟩ := hv.rows
  have HV := Lib.hid hv
  obtain ⟨L, hlen⟩ : ∃ l, l = xss.length := ⟨_, rfl⟩
  have HLEN := Lib.hid hlen
  rw [← hlen] at HV HC CU hl60 ⊢
  clear hv hlen hok
  go_enter Try.func59, Try.ntmps59
  go_wp2_with fail
  obtain ⟨W1, hW1, c0, c1, hsz, hB1, -, -⟩ := box2 w (.int .i64 n) (.slice ao L cap) 27
  try rw [hW1]
  clear hW1
  refine (HC.out W1 (HV.out.below hB1 (by omega)) (by omega)).mono ?_
  rintro e w1 ⟨rfl, b1⟩
  obtain ⟨d0, d1, z1⟩ := boxC b1 (by omega) c0 c1
  have zz := b1.size
  have HVb := Lib.hid ((HV.out.below hB1 (by omega)).below b1 (by omega))
  have HB1 : Hid (Below w.heap.size w w1) := hB1.trans (b1.mono (by omega))
  have hle1 : hi ≤ w1.heap.size := by omega
  have hww : w.heap.size ≤ w1.heap.size := by omega
  clear c0 c1 HV HC hB1 b1 hsz
  go_wp2_with fail
  obtain ⟨W0, hW0⟩ : ∃ W, W = w1.alloc (.cells #[] 3) := ⟨_, rfl⟩
  have hi0 : OwnI W0 w1.heap.size W0.heap.size (.slice (some ⟨w1.heap.size, 0, none⟩) 0 0) [] := by rw [hW0]; exact Own.mono (ownI_empty w1) (Nat.le_refl _) (by simp)
  have hb0 : Below w1.heap.size w1 W0 := by rw [hW0]; exact (Below.refl _ _).alloc (Nat.le_refl _) _
  have hs00 : w1.heap.size < W0.heap.size := by rw [hW0]; simp
  try rw [← hW0]
  clear hW0
  have hz0 := hb0.size
  obtain ⟨d0, d1, z1⟩ := boxC hb0 z1 d0 d1
  refine (CU.out W0 (HVb.out.below hb0 hle1) (by omega)).mono ?_
  rintro e w2 ⟨u2, rfl, o2, b2⟩
  have z2 := b2.size
  obtain ⟨ao2, g2, cap2, e2, -, ha2, hc2⟩ := OwnI.view o2
  rw [useL_length, ← HLEN.out] at e2 ha2 hc2
  subst e2
  have O2 : Hid (OwnI w2 w1.heap.size w2.heap.size (.slice ao2 L cap2) (useL n xss)) := Own.mono o2 (by omega) (Nat.le_refl _)
  have HSP : Hid (sepV (.slice (some ⟨w1.heap.size, 0, none⟩) 0 0) (.slice ao2 L cap2)) := by
    show sepV _ _
    intro k hk hk2
    simp [Value.ownBlock] at hk
    have := o2.row.lt k hk2
    omega
  have HI2 : Hid (OwnI w2 w1.heap.size w2.heap.size (.slice (some ⟨w1.heap.size, 0, none⟩) 0 0) []) := Own.mono (Own.later hi0 b2) (Nat.le_refl _) z2
  have HB2 : Hid (Below w1.heap.size w1 w2) := hb0.trans (b2.mono (by omega))
  clear o2 b2 ha2 hc2 hi0 hb0
  go_wp2_with fail
  go_loopw [3, 13] (fun v i wr => ∃ k : Nat, k ≤ L ∧ i = .int .i64 k ∧ OwnI wr w1.heap.size wr.heap.size v (idleK n xss k) ∧ Below w1.heap.size w1 wr ∧ OwnI wr w1.heap.size wr.heap.size (.slice ao2 L cap2) (useL n xss) ∧ sepV v (.slice ao2 L cap2)) (fun _ i _ => L - (intOf i).toNat)
  case atStart => exact ⟨0, Nat.zero_le _, rfl, HI2.out, HB2.out, O2.out, HSP.out⟩
  case round =>
    obtain ⟨k, hk, rfl, ho, hb, hu, hsp⟩ := hrel
    have HO := Lib.hid ho
    have HB := Lib.hid hb
    have HU := Lib.hid hu
    have HS := Lib.hid hsp
    have hz := hb.size
    clear HI2 HB2 O2 HSP
    by_cases hlt : k < L
    · have hlt1 : (k : Int) < (L : Int) := by omega
      obtain ⟨ao3, g3, cap3, e3, -, ha3, hc3⟩ := OwnI.view hu
      rw [useL_length, ← HLEN.out] at e3 ha3 hc3
      cases e3
      obtain ⟨e4, -, -⟩ := ha3 (by omega)
      subst e4
      have c1 := (hc3 k hlt).1
      rw [useL_getD n xss k (by have := HLEN.out; omega)] at c1
      obtain ⟨c, hc⟩ : ∃ c, c = cntX xss k (2 ^ n) := ⟨_, rfl⟩
      have HCC := Lib.hid hc
      rw [← hc] at c1
      have HLN : Hid ((idleK n xss k).length ≤ 100000000) := by show _ ≤ _; have := idleK_le n xss k; omega
      clear ho hb hu hsp ha3 hc3 hc
      by_cases h0 : c = 0
      · have HT := Lib.hid (idleK_yes (n := n) (xss := xss) (k := k) (by rw [← HCC.out]; exact h0))
        have e0 : ((c : Int) == 0) = true := by rw [h0]; rfl
        clear h0
        go_wp2_with (at_builtin; refine wpList_app_int2 rfl (.tmp 20) (.tmp 22) rfl wr (k : Int) w1.heap.size wr.heap.size _ (idleK n xss k) HO.out hz HLN.out rfl rfl ?_; intro ao5 L5 cap5 w5 hL5 o5 b5 z5 p5; have O5 := Lib.hid o5; have B5 := Lib.hid b5; have P5 := Lib.hid (p5 _ _ HU.out HS.out); clear o5 b5 p5)
        go_roundw
        case rel => exact ⟨k + 1, by omega, by go_num, by rw [HT.out]; exact O5.out, HB.out.trans B5.out, P5.out.1, P5.out.2⟩
        case measure => simp [intOf]; omega
      · have HT := Lib.hid (idleK_no (n := n) (xss := xss) (k := k) (by rw [← HCC.out]; exact h0))
        have e0 : ((c : Int) == 0) = false := by rw [beq_eq_false_iff_ne]; omega
        clear h0
        go_wp2
        go_roundw
        case rel => exact ⟨k + 1, by omega, by go_num, by rw [HT.out]; exact HO.out, HB.out, HU.out, HS.out⟩
        case measure => simp [intOf]; omega
    · have hlt1 : ¬ (k : Int) < (L : Int) := by omega
      have HE : Hid (k = L) := by show k = L; omega
      clear ho hb hu hsp
      go_wp2
      go_ret
      exact ⟨_, rfl, by rw [← HE.out]; exact Own.mono HO.out (by omega) (Nat.le_refl _), HB1.out.trans (HB.out.mono (by omega))⟩
theorem OwnR.past_box' {w : World} {X lo : Nat} {v y : Value} {vs : List Value} {xss : List (List Int)} {c : Array Value} {f : Nat × Nat} (h : OwnR w lo w.heap.size v vs xss) (hb : w.heap[X]? = some (.cells c 27 f)) : OwnR (w.setCell ⟨X, 1, none⟩ y) lo (w.setCell ⟨X, 1, none⟩ y).heap.size v vs xss := by
  rw [show (w.setCell ⟨X, 1, none⟩ y).heap.size = w.heap.size from by simp [World.setCell]]
  exact h.past_box hb
/-- The comparators below k that exchange something. -/
def busyK (n : Nat) (xss : List (List Int)) (k : Nat) : List (List Int) := ((List.range k).filter fun t => !(cntX xss t (2 ^ n) == 0)).map fun t => xss.getD t []
theorem busyK_yes {n : Nat} {xss : List (List Int)} {k : Nat} (h : ¬ cntX xss k (2 ^ n) = 0) : busyK n xss (k + 1) = busyK n xss k ++ [xss.getD k []] := by simp [busyK, List.range_succ, List.filter_append, h]
theorem busyK_no {n : Nat} {xss : List (List Int)} {k : Nat} (h : cntX xss k (2 ^ n) = 0) : busyK n xss (k + 1) = busyK n xss k := by simp [busyK, List.range_succ, List.filter_append, h]
theorem busyK_le (n : Nat) (xss : List (List Int)) (k : Nat) : (busyK n xss k).length ≤ k := by
  rw [busyK, List.length_map]
  exact Nat.le_trans (List.length_filter_le _ _) (by simp)
set_option maxHeartbeats 4000000 in
theorem WithoutIdle_y (n : Nat) (lo hi : Nat) (v : Value) (vs : List Value) (xss : List (List Int)) (w : World) (hv : OwnR w lo hi v vs xss) (hhi : hi ≤ w.heap.size) (hok : netOk n xss = true) :
    Calls Try.prog 60 #[.agg #[.int .i64 n, v]] w (NetC w n (busyK n xss xss.length) true) := by
  have HC : Hid (∀ w, OwnR w lo hi v vs xss → hi ≤ w.heap.size → Calls Try.prog 104 #[.agg #[.int .i64 n, v]] w fun e w' => e = .returned (.bool true) ∧ Below w.heap.size w w') := fun w h1 h2 => by
    have := NetworkOk_c n lo hi v vs xss w h1 h2
    rwa [hok] at this
  have CU := Lib.hid (fun (w : World) (h1 : OwnR w lo hi v vs xss) (h2 : hi ≤ w.heap.size) => uses_c n lo hi v vs xss w h1 h2 hok)
  have HP := Lib.hid (netOk_pair hok)
  have hl60 := netOk_len hok
  obtain ⟨ao, g, cap, rfl, hcap, hao, hrow⟩ := hv.rows
  have HRW := Lib.hid hrow
  have HV := Lib.hid hv
  obtain ⟨L, hlen⟩ : ∃ l, l = xss.length := ⟨_, rfl⟩
  have HLEN := Lib.hid hlen
  rw [← hlen] at HV HC CU hl60 hcap hao HRW HP ⊢
  clear hv hlen hok hrow
  go_enter Try.func60, Try.ntmps60
  go_wp2_with fail
  obtain ⟨W1, hW1, c0, c1, hsz, hB1, -, -⟩ := box2 w (.int .i64 n) (.slice ao L cap) 27
  have hb9 := blk_new W1 (.cells #[.int .i64 0, .slice none 0 0] 27)
  obtain ⟨W2, hW2⟩ : ∃ W, W = W1.alloc (.cells #[.int .i64 0, .slice none 0 0] 27) := ⟨_, rfl⟩
  have hBa : Below W1.heap.size W1 W2 := by rw [hW2]; exact (Below.refl _ _).alloc (Nat.le_refl _) _
  have hs2 : W2.heap.size = W1.heap.size + 1 := by rw [hW2]; simp
  rw [← hW2] at hb9
  obtain ⟨c0, c1, hz0⟩ := boxC hBa (by omega) c0 c1
  have hB2 : Below w.heap.size w W2 := hB1.trans (hBa.mono (by omega))
  rw [hsz] at hb9
  try rw [hW1, ← hW2]
  have hw2 : w.heap.size + 1 < W2.heap.size := by omega
  clear hW1 hW2 hBa hs2 hsz hB1
  refine (HC.out W2 (HV.out.below hB2 (by omega)) (by omega)).mono ?_
  rintro e w3 ⟨rfl, b3⟩
  obtain ⟨d0, d1, z3⟩ := boxC b3 hz0 c0 c1
  have HR9 := Lib.hid (blk_below hb9 b3 hw2)
  have HB3 : Hid (Below w.heap.size w w3) := hB2.trans (b3.mono (by omega))
  have hw3 : w.heap.size + 1 < w3.heap.size := by have := b3.size; omega
  have hle3 : hi ≤ w3.heap.size := by omega
  have HV3 := Lib.hid (HV.out.below HB3.out (by omega))
  clear c0 c1 hb9 b3 hB2 HC HV
  go_wp2_with fail
  obtain ⟨W4, hW4⟩ : ∃ W, W = w3.alloc (.cells #[.int .i64 n, .slice none 0 0] 27) := ⟨_, rfl⟩
  have hb4 : Below w3.heap.size w3 W4 := by rw [hW4]; exact (Below.refl _ _).alloc (Nat.le_refl _) _
  have hx4 : W4.heap[w3.heap.size]? = some (.cells #[.int .i64 n, .slice none 0 0] 27 (0, 0)) := by rw [hW4]; exact blk_new _ _
  have hs4 : W4.heap.size = w3.heap.size + 1 := by rw [hW4]; simp
  try rw [← hW4]
  clear hW4
  obtain ⟨d0, d1, z4⟩ := boxC hb4 z3 d0 d1
  have HR4 := Lib.hid (blk_below HR9.out hb4 hw3)
  refine (CU.out W4 (HV3.out.below hb4 hle3) (by omega)).mono ?_
  rintro e w5 ⟨u2, rfl, o2, b2⟩
  have z2 := b2.size
  obtain ⟨d0, d1, z5⟩ := boxC b2 z4 d0 d1
  obtain ⟨ao2, g2, cap2, e2, -, ha2, hc2⟩ := OwnI.view o2
  rw [useL_length, ← HLEN.out] at e2 ha2 hc2
  subst e2
  have HC2 := Lib.hid hc2
  have HA2 := Lib.hid ha2
  have HX5 := Lib.hid ((b2.block w3.heap.size (by omega)).trans hx4)
  have HR5 := Lib.hid (blk_below HR4.out b2 (by omega))
  have HB5 : Hid (Below w.heap.size w w5) := HB3.out.trans ((hb4.mono (by omega)).trans (b2.mono (by omega)))
  have hs45 : w3.heap.size < w5.heap.size := by omega
  have hs46 : w3.heap.size < W4.heap.size := by omega
  have hww3 : w.heap.size + 1 < w3.heap.size := hw3
  clear o2 b2 ha2 hc2 hb4 hx4 HV3 CU hs4
  go_wp2_with fail
  obtain ⟨X, hX⟩ : ∃ X, X = w3.heap.size := ⟨_, rfl⟩
  rw [← hX] at HX5 hs45 hs46 hww3 ⊢
  have hhiX : hi ≤ X := by omega
  have hA2X : 0 < L → ao2 = some ⟨g2, 0, none⟩ ∧ X < g2 ∧ g2 < w5.heap.size := fun h => ⟨(HA2.out h).1, by have := (HA2.out h).2.1; omega, (HA2.out h).2.2⟩
  have HAX := Lib.hid hA2X
  clear hX hA2X HA2
  go_loopw [17] (fun i wr => ∃ k : Nat, k ≤ L ∧ i = .int .i64 k ∧ ∃ v us, wr.heap[X]? = some (.cells #[.int .i64 n, v] 27 (0, 0)) ∧ OwnR wr w5.heap.size wr.heap.size v us (busyK n xss k) ∧ But w5.heap.size X w5 wr) (fun i _ => L - (intOf i).toNat)
  case atStart => exact ⟨0, Nat.zero_le _, rfl, _, [], HX5.out, by simpa [busyK] using OwnR.nil _ _ _, But.refl _ _ _⟩
  case round =>
    obtain ⟨k, hk, rfl, v, us, hbx, hO, hB⟩ := hrel
    have HBX := Lib.hid hbx
    have HO := Lib.hid hO
    have HB := Lib.hid hB
    have hzB := hB.size
    by_cases hlt : k < L
    · have hlt1 : (k : Int) < (L : Int) := by omega
      obtain ⟨e4, hgX, hg5⟩ := HAX.out (by omega)
      subst e4
      have c1 : wr.cell? ⟨g2, k, none⟩ = some (.int .i64 ((useL n xss).getD k 0)) := by
        rw [← (HC2.out k hlt).1]
        unfold World.cell?
        simp only [hB.2 g2 hgX hg5]
      rw [useL_getD n xss k (by have := HLEN.out; omega)] at c1
      obtain ⟨c, hc⟩ : ∃ c, c = cntX xss k (2 ^ n) := ⟨_, rfl⟩
      have HCC := Lib.hid hc
      rw [← hc] at c1
      clear hc
      by_cases h0 : c = 0
      · have HT := Lib.hid (busyK_no (n := n) (xss := xss) (k := k) (by rw [← HCC.out]; exact h0))
        have e0 : ¬ 0 < (c : Int) := by omega
        clear h0 hB hO hbx
        go_wp2
        go_roundw
        case rel => exact ⟨k + 1, by omega, by go_num, v, us, HBX.out, by rw [HT.out]; exact HO.out, HB.out⟩
        case measure => simp [intOf]; omega
      · have HT := Lib.hid (busyK_yes (n := n) (xss := xss) (k := k) (by rw [← HCC.out]; exact h0))
        have e0 : 0 < (c : Int) := by omega
        obtain ⟨i, j, hr, hi1, hj1, hne⟩ := HP.out k hlt
        obtain ⟨rfl, hg1, hg2⟩ := hao (by omega)
        obtain ⟨r0, r1⟩ := HRW.out k hlt
        have hbw : Below w.heap.size w wr := HB5.out.trans (hB.below (by omega))
        have f0 := (hbw.cell (p := ⟨g, k, none⟩) (by show g < _; omega)).trans r0
        have r2 := OwnI.ints (Own.below r1 hbw hhi)
        have p0 : wr.cell? ⟨w.heap.size, 0, none⟩ = some (.int .i64 n) := by rw [← d0]; unfold World.cell?; simp only [hB.1.block w.heap.size (by omega)]
        have p1 : wr.cell? ⟨w.heap.size, 1, none⟩ = some (.slice (some ⟨g, 0, none⟩) L cap) := by rw [← d1]; unfold World.cell?; simp only [hB.1.block w.heap.size (by omega)]
        obtain ⟨s, hs⟩ : ∃ s, s = vs.getD k undef := ⟨_, rfl⟩
        rw [← hs] at f0 r2
        have HR2 := Lib.hid r2
        have hlen2 : (xss.getD k []).length = 2 := by rw [hr]; rfl
        have HLN : Hid ((busyK n xss k).length + ([xss.getD k []] : List (List Int)).length ≤ 1000000) := by show _ ≤ _; have := busyK_le n xss k; simp; omega
        have hle : hi ≤ wr.heap.size := by omega
        obtain ⟨R, hR⟩ : ∃ R, R = xss.getD k [] := ⟨_, rfl⟩
        rw [← hR] at HR2 hlen2 HT HLN
        have e1 := blk_cell hbx 1
        have hXl : X < wr.heap.size := lt_of_block hbx
        have hwl : w.heap.size < wr.heap.size := by omega
        have hgl : g < wr.heap.size := by omega
        have HR3 : Hid (IntsV wr.drew lo hi s R) := HR2.out.below (B := wr.heap.size) ((Below.refl _ _).drew) hle
        have hr1 : 0 < R.length := by omega
        have hr2 : R.length ≤ 100000000 := by omega
        have hZ5 : w5.heap.size ≤ wr.heap.size := by omega
        clear hB hO hbx r0 r1 r2 hr hs hR hbw h0 c1
        go_wp2_with fail
        go_region_law (first | (refine wp_app_rows (.tmp 25) (.tmp 32) rfl (wc.alloc (.cells #[.slice ao4 2 cap4] 31)) w5.heap.size wr.heap.size _ _ us [.slice ao4 2 cap4] (busyK n xss k) [R] ((HO.out.later BC.out).alloc _) (ownR_one (lo := wr.heap.size) OC.out zc) hZ5 (by simp; omega) HLN.out rfl rfl ?_; intro ao5 L5 cap5 w9 us5 hL5 o5 b5 z9; have bx5 := blk_below (blk_old (blk_below HBX.out BC.out hXl) (.cells #[.slice ao4 2 cap4] 31)) b5 (by omega); have g0 := blk_cell bx5 0; have g1 := blk_cell bx5 1; have fr := blk_free bx5 1; have BX5 := Lib.hid bx5; have O5 := Lib.hid o5; have B5 := Lib.hid b5; clear bx5 o5 b5) | (go_simp; go_at_call 153; refine (Clone_c lo hi s R wr.drew HR3.out hle hr1 hr2).mono ?_; rintro e wc ⟨uc, rfl, oc, bc⟩; have bcw : Below wr.heap.size wr wc := undrew bc; have zc := bcw.size; obtain ⟨ao4, g4, cap4, e4, -, -, -⟩ := OwnI.view oc; rw [hlen2] at e4; have OC := Lib.hid oc; subst e4; have BC := Lib.hid bcw; have hXc : X < wc.heap.size := (by omega); have ec := (bcw.cell (p := ⟨X, 1, none⟩) (by show X < _; omega)).trans e1; have fc := (bcw.cell (p := ⟨g, k, none⟩) (by show g < _; omega)).trans f0; have pc := (bcw.cell (p := ⟨w.heap.size, 1, none⟩) (by show w.heap.size < _; omega)).trans p1; clear oc bc bcw) | fail)
        all_goals
          have HB9 : Hid (But w5.heap.size X w5 w9) := HB.out.trans (But.of_below ((BC.out.alloc (by omega) _).mono (by omega) |>.trans (B5.out.mono (Nat.le_refl _))) (by omega) (Nat.le_refl _))
          have hX9 : X < w5.heap.size := hs45
          go_wp2
          go_roundw
          case rel => exact ⟨k + 1, by omega, by go_num, _, us5, box_set1 BX5.out, by rw [HT.out]; exact OwnR.past_box' O5.out BX5.out, HB9.out.trans (But.set _ X 1 _ _)⟩
          case measure => simp [intOf]; omega
    · have hlt1 : ¬ (k : Int) < (L : Int) := by omega
      have HE : Hid (k = L) := by show k = L; omega
      have hb9 := (hB.1.block (w.heap.size + 1) (by omega)).trans HR5.out
      have r0 := blk_cell hb9 0
      have r1 := blk_cell hb9 1
      have y0 := blk_free hb9 0
      have y1 := blk_free hb9 1
      have x0 := blk_cell hbx 0
      have x1 := blk_cell hbx 1
      have HO9 : Hid (OwnR ((wr.setCell ⟨w.heap.size + 1, 0, none⟩ (.int .i64 n)).setCell ⟨w.heap.size + 1, 1, none⟩ v) w.heap.size wr.heap.size v us (busyK n xss L)) := by
        show OwnR _ _ _ _ _ _
        rw [← HE.out]
        refine (hO.kept fun k h1 _ _ => ?_).mono (by omega) (Nat.le_refl _)
        rw [Below.heap_setCell _ _ _ _ (by show k ≠ w.heap.size + 1; omega), Below.heap_setCell _ _ _ _ (by show k ≠ w.heap.size + 1; omega)]
      have HB9 : Hid (Below w.heap.size w ((wr.setCell ⟨w.heap.size + 1, 0, none⟩ (.int .i64 n)).setCell ⟨w.heap.size + 1, 1, none⟩ v)) := ((HB5.out.trans (hB.below (by omega))).setCell (by show w.heap.size ≤ w.heap.size + 1; omega) _).setCell (by show w.heap.size ≤ w.heap.size + 1; omega) _
      obtain ⟨ao9, g9, cap9, ev, -, -, -⟩ := hO.rows
      obtain ⟨M, hM⟩ : ∃ M, M = (busyK n xss k).length := ⟨_, rfl⟩
      rw [← hM] at ev
      subst ev
      have hXw : w.heap.size + 1 ≠ X := by omega
      clear hO hB hb9 hM hbx
      go_wp2
      refine bodyPost_ret (v := .tuple #[.agg #[.int .i64 n, .slice ao9 M cap9], .bool true]) (by simp [results, Try.results60, go_sem, r0, r1]) rfl ?_
      exact ⟨_, us, rfl, HO9.out.mono (Nat.le_refl _) (by simp [World.setCell]), HB9.out⟩
end Go.Proofs.Ytgdkihabphihoaa

namespace Go.Proofs.Ytgdkihabphihoaa
open Go.RowKit
set_option maxRecDepth 100000
set_option linter.unusedVariables false

theorem cntX_zero {xss : List (List Int)} {k M : Nat} (h : cntX xss k M = 0) (m : Nat) (hm : m < M) : bitsP (xss.take (k + 1)) m = bitsP (xss.take k) m := by
  unfold cntX at h
  rw [List.length_eq_zero_iff, List.filter_eq_nil_iff] at h
  have := h m (List.mem_range.2 hm)
  simpa [exch] using this
theorem bitsP_snoc (xss : List (List Int)) (p : List Int) (m : Nat) : bitsP (xss ++ [p]) m = bitsP [p] (bitsP xss m) := bitsP_app _ _ _
theorem busy_same (n : Nat) (xss : List (List Int)) (m : Nat) (hm : m < 2 ^ n) : ∀ k, k ≤ xss.length → bitsP (busyK n xss k) m = bitsP (xss.take k) m
  | 0, _ => by simp [busyK]
  | k + 1, hk => by
    have ih := busy_same n xss m hm k (by omega)
    by_cases h : cntX xss k (2 ^ n) = 0
    · rw [busyK_no h, cntX_zero h m hm, ih]
    · rw [busyK_yes h, bitsP_snoc, ih, take_snoc_getD [] (by omega), bitsP_snoc]
theorem busy_sub (n : Nat) (xss : List (List Int)) (k : Nat) (hk : k ≤ xss.length) (r : List Int) (h : r ∈ busyK n xss k) : r ∈ xss := by
  simp only [busyK, List.mem_map, List.mem_filter, List.mem_range] at h
  obtain ⟨t, ⟨ht, -⟩, rfl⟩ := h
  rw [List.getD_eq_getElem?_getD, List.getElem?_eq_getElem (by omega)]
  exact List.getElem_mem _
theorem busy_idle (n : Nat) (xss : List (List Int)) (k : Nat) : (busyK n xss k).length + (idleK n xss k).length = k := by
  induction k with
  | zero => simp [busyK, idleK]
  | succ k ih =>
    by_cases h : cntX xss k (2 ^ n) = 0
    · rw [busyK_no h, idleK_yes h, List.length_append]; simp; omega
    · rw [busyK_yes h, idleK_no h, List.length_append]; simp; omega
theorem idle_has (n : Nat) (xss : List (List Int)) (L i : Nat) (hi : i < L) : (idleK n xss L).contains (i : Int) = (cntX xss i (2 ^ n) == 0) := by
  rw [Bool.eq_iff_iff, List.contains_iff_mem, idleK, List.mem_map]
  constructor
  · rintro ⟨t, ht, e⟩
    rw [List.mem_filter] at ht
    have : t = i := by omega
    rw [← this]
    exact ht.2
  · intro h
    exact ⟨i, List.mem_filter.2 ⟨List.mem_range.2 hi, h⟩, rfl⟩
theorem pairUp_sub {n : Nat} {up : Bool} {xss yss : List (List Int)} (h : pairUp n up xss) (hs : ∀ r ∈ yss, r ∈ xss) : pairUp n up yss := fun r hr => h r (hs r hr)
theorem netOk_sub {n : Nat} {xss yss : List (List Int)} (h : netOk n xss = true) (hs : ∀ r ∈ yss, r ∈ xss) (hl : yss.length ≤ xss.length) : netOk n yss = true := by
  have h1 := netOk_n h
  have h2 := netOk_len h
  exact netOk_of_pairUp (pairUp_sub (pairUp_of_netOk h) hs) (by omega) (by omega) (by omega)
theorem busy_ok {n : Nat} {xss : List (List Int)} (h : netOk n xss = true) : netOk n (busyK n xss xss.length) = true ∧ sameB n xss (busyK n xss xss.length) = true := by
  refine ⟨netOk_sub h (busy_sub n xss _ (Nat.le_refl _)) (busyK_le _ _ _), ?_⟩
  rw [sameB, allB_iff]
  intro m hm
  rw [busy_same n xss m hm _ (Nat.le_refl _), List.take_length]
  simp
theorem erase_split {xss : List (List Int)} {k : Nat} (hk : k < xss.length) (m : Nat) : bitsP (xss.eraseIdx k) m = bitsP (xss.drop (k + 1)) (bitsP (xss.take k) m) ∧ bitsP xss m = bitsP (xss.drop (k + 1)) (bitsP (xss.take (k + 1)) m) := by
  constructor
  · rw [List.eraseIdx_eq_take_drop_succ, bitsP_app]
  · rw [← bitsP_app, List.take_append_drop]
theorem idle_drop {n : Nat} {xss : List (List Int)} (hs : sortsR n xss = true) {k : Nat} (hk : k < xss.length) (h : cntX xss k (2 ^ n) = 0) : sortsR n (xss.eraseIdx k) = true := by
  have hok := sortsR_ok hs
  have hok2 : netOk n (xss.eraseIdx k) = true := netOk_sub hok (fun r hr => List.mem_of_mem_eraseIdx hr) (List.length_eraseIdx_le _ _)
  rw [sortsR, hok, Bool.true_and, Int.toNat_natCast, allB_iff] at hs
  rw [sortsR, hok2, Bool.true_and, Int.toNat_natCast, allB_iff]
  intro m hm
  have e := erase_split hk m
  have := hs m hm
  rw [sortB, e.2, cntX_zero h m hm] at this
  rw [sortB, e.1]
  exact this
theorem leanX_len (n : Int) : ∀ (xss : List (List Int)) (i : Nat), (leanX n xss i).length ≤ xss.length := by
  intro xss i
  induction xss, i using leanX.induct n with
  | case1 xss => rw [leanX]; exact Nat.le_refl _
  | case2 xss i hc ih => rw [leanX, dif_pos hc]; have := List.length_eraseIdx_le xss i; omega
  | case3 xss i hc ih => rw [leanX, dif_neg hc]; exact ih
theorem leanX_lean (n : Int) : ∀ (xss : List (List Int)) (i : Nat), sortsR n xss = true → (∀ k, i ≤ k → k < xss.length → needL n xss k = true) → leanB n (leanX n xss i) = true := by
  intro xss i
  induction xss, i using leanX.induct n with
  | case1 xss =>
    intro hs h
    rw [leanX, leanB, hs, Bool.true_and, allB_iff]
    exact fun k hk => h k (Nat.zero_le _) hk
  | case2 xss i hc ih =>
    intro hs h
    rw [leanX, dif_pos hc]
    refine ih hc.2 fun k h1 h2 => ?_
    rw [List.length_eraseIdx, if_pos hc.1] at h2
    omega
  | case3 xss i hc ih =>
    intro hs h
    rw [leanX, dif_neg hc]
    refine ih hs fun k h1 h2 => ?_
    rcases (by omega : i = k ∨ i + 1 ≤ k) with h3 | h3
    · subst h3
      unfold needL
      cases hq : sortsR n (xss.eraseIdx i)
      · rfl
      · exact absurd ⟨h2, hq⟩ hc
    · exact h k h3 h2
theorem leanX_all (n : Int) (xss : List (List Int)) : ∀ i, (∀ k, k < i → needL n xss k = true) → leanX n xss i = xss
  | 0, _ => leanX_zero
  | i + 1, h => by rw [leanX_no (h i (by omega))]; exact leanX_all n xss i fun k hk => h k (by omega)
theorem leanX_less (n : Int) (xss : List (List Int)) : ∀ i, i ≤ xss.length → (∃ k, k < i ∧ needL n xss k = false) → (leanX n xss i).length < xss.length
  | 0, _, h => by obtain ⟨k, hk, -⟩ := h; omega
  | i + 1, hi, h => by
    cases hq : needL n xss i
    · rw [leanX_yes (by omega) hq]
      have := leanX_len n (xss.eraseIdx i) (xss.length - 1)
      rw [List.length_eraseIdx, if_pos (by omega)] at this
      omega
    · rw [leanX_no hq]
      obtain ⟨k, hk, hn⟩ := h
      refine leanX_less n xss i (by omega) ⟨k, ?_, hn⟩
      rcases (by omega : k < i ∨ k = i) with h3 | h3
      · exact h3
      · subst h3; rw [hn] at hq; cases hq
/-- What is known of a lean network made of a sorting one. -/
theorem lean_facts {n : Nat} {xss : List (List Int)} (hs : sortsR n xss = true) :
    sortsR n (leanX n xss xss.length) = true ∧ leanB n (leanX n xss xss.length) = true ∧ (leanX n xss xss.length).length ≤ xss.length ∧
      leanB n xss = ((((leanX n xss xss.length).length : Nat) : Int) == ((xss.length : Nat) : Int)) := by
  refine ⟨leanX_ok n xss _ hs, leanX_lean n xss _ hs (fun k h1 h2 => by omega), leanX_len n xss _, ?_⟩
  rw [Bool.eq_iff_iff, beq_iff_eq, leanB, hs, Bool.true_and, allB_iff]
  constructor
  · intro h
    rw [leanX_all (n : Int) xss _ h]
  · intro h k hk
    cases hq : needL n xss k
    · have := leanX_less (n : Int) xss xss.length (Nat.le_refl _) ⟨k, hk, hq⟩
      omega
    · rfl
theorem lean_need {n : Nat} {xss : List (List Int)} (h : leanB n xss = true) {k : Nat} (hk : k < xss.length) : needB n xss k = true := by
  rw [leanB, Bool.and_eq_true, allB_iff] at h
  have := h.2 k hk
  rw [needB, h.1]
  exact this
theorem need_sorts {n : Nat} {xss : List (List Int)} (hs : sortsR n xss = true) (k : Nat) : (sortsR n (xss.eraseIdx k) == needB n xss k) = false := by
  rw [needB, hs]
  cases sortsR n (xss.eraseIdx k) <;> rfl
theorem LeanNetwork_y (n lo hi : Nat) (v : Value) (vs : List Value) (xss : List (List Int)) (w : World) (hv : OwnR w lo hi v vs xss) (hhi : hi ≤ w.heap.size) (hs : sortsR n xss = true) :
    Calls Try.prog 33 #[.agg #[.int .i64 n, v]] w (NetC w n (leanX n xss xss.length) true) := LeanNetwork_i_yes n lo hi v vs xss w hv hhi hs
end Go.Proofs.Ytgdkihabphihoaa

namespace Go.Proofs.Ytgdkihabphihoaa
open Go.RowKit
set_option maxRecDepth 100000
set_option linter.unusedVariables false
set_option linter.unusedSimpArgs false

set_option maxHeartbeats 4000000 in
theorem FnIdle_core (w : World) (N : Nat) (cv : Value) (hv : BytesV w w.heap.size cv N) : Calls Try.prog 11 #[cv] w fun e w' => e = .returned (.bool true) ∧ Below w.heap.size w w' := by
  have HV := Lib.hid hv
  obtain ⟨cao, cb, coff, ccap, ecv, -, -, -⟩ := id hv
  subst ecv
  clear hv
  by_cases hN : N ≤ 1048576
  rotate_left
  · have hN' : (1048576 : Int) < (N : Int) := by omega
    go_enter Try.func11, Try.ntmps11
    go_wp2_with fail
    go_ret
    exact ⟨rfl, Below.refl _ _⟩
  have hN' : ¬ (1048576 : Int) < (N : Int) := by omega
  go_enter Try.func11, Try.ntmps11
  have BA : Hid (Below w.heap.size w w) := Below.refl _ _
  have ZA : w.heap.size ≤ w.heap.size := Nat.le_refl _
  go_wp2_with fail
  refine (MakeSorting_c w.heap.size N 0 5 _ w (HV.out.kept fun k hk => BA.out.block k hk) ZA hN (by omega) (by omega) (by omega)).mono ?_
  rintro e w1 ⟨v, qx, usx, xx, rfl, ⟨v1, v5, hss, hxl, hx4⟩, ox, b_w1⟩
  obtain ⟨aox, gx, capx, ex, -, -, -⟩ := ox.rows
  obtain ⟨Lx, hLx⟩ : ∃ L, L = xx.length := ⟨_, rfl⟩
  rw [← hLx] at ex
  subst ex
  have HNx := Lib.hid hLx
  clear hLx
  have z_w1 := b_w1.size
  replace BA : Hid (Below w.heap.size w w1) := BA.out.trans (b_w1.mono (by omega))
  replace ZA : w.heap.size ≤ w1.heap.size := (by omega)
  clear b_w1
  have Ox := Lib.hid ox
  clear ox
  go_wp2_with fail
  obtain ⟨w2, hWw2, cx0, cx1, hzw2, b_w2, -, -⟩ := box2 w1 (.int .i64 v) (.slice aox Lx capx) 27
  rw [hWw2]
  clear hWw2
  have zz_w2 : w1.heap.size < w2.heap.size := (by omega)
  clear hzw2
  have z_w2 := b_w2.size
  replace Ox := Lib.hid (Ox.out.later b_w2)
  replace BA : Hid (Below w.heap.size w w2) := BA.out.trans (b_w2.mono (by omega))
  replace ZA : w.heap.size ≤ w2.heap.size := (by omega)
  clear b_w2
  have yx : w1.heap.size < w2.heap.size := zz_w2
  have hs := sortS_sorts hss v1 (by omega) (by omega)
  have HS := Lib.hid hs
  have HOK := Lib.hid (sortsR_ok hs)
  have HLF := Lib.hid (lean_facts hs)
  have HBI := Lib.hid (busy_ok (sortsR_ok hs))
  have HBL := Lib.hid (busy_idle v xx xx.length)
  have hLx : Lx ≤ 22 := by rw [HNx.out]; exact hxl
  clear hss hxl hx4 hs
  go_wp2_with fail
  refine (UseOf_y v _ _ _ usx xx w2 Ox.out (by omega) HOK.out).mono ?_
  rintro e w3 ⟨qu, rfl, ou, b_w3⟩
  obtain ⟨xu, hxu⟩ : ∃ X, X = useL v xx := ⟨_, rfl⟩
  rw [← hxu] at ou
  have HXu := Lib.hid hxu
  clear hxu
  obtain ⟨aou, gu, capu, eu, -, -, -⟩ := OwnI.view ou
  obtain ⟨Lu, hLu⟩ : ∃ L, L = xu.length := ⟨_, rfl⟩
  rw [← hLu] at eu
  subst eu
  have HNu := Lib.hid hLu
  clear hLu
  have z_w3 := b_w3.size
  replace Ox := Lib.hid (Ox.out.later b_w3)
  replace cx0 := (b_w3.cell (p := ⟨w1.heap.size, 0, none⟩) (by show w1.heap.size < _; omega)).trans cx0
  replace cx1 := (b_w3.cell (p := ⟨w1.heap.size, 1, none⟩) (by show w1.heap.size < _; omega)).trans cx1
  replace BA : Hid (Below w.heap.size w w3) := BA.out.trans (b_w3.mono (by omega))
  replace ZA : w.heap.size ≤ w3.heap.size := (by omega)
  replace yx : w1.heap.size < w3.heap.size := (by omega)
  clear b_w3
  have Ou := Lib.hid ou
  clear ou
  have HLU : Hid (Lu = Lx) := by show _ = _; rw [HNu.out, HXu.out, useL_length, ← HNx.out]
  go_wp2_with fail
  refine (IdleOf_y v _ _ _ usx xx w3 Ox.out (by omega) HOK.out).mono ?_
  rintro e w4 ⟨qi, rfl, oi, b_w4⟩
  obtain ⟨xi, hxi⟩ : ∃ X, X = idleK v xx xx.length := ⟨_, rfl⟩
  rw [← hxi] at oi
  have HXi := Lib.hid hxi
  clear hxi
  obtain ⟨aoi, gi, capi, ei, -, -, -⟩ := OwnI.view oi
  obtain ⟨Li, hLi⟩ : ∃ L, L = xi.length := ⟨_, rfl⟩
  rw [← hLi] at ei
  subst ei
  have HNi := Lib.hid hLi
  clear hLi
  have z_w4 := b_w4.size
  replace Ox := Lib.hid (Ox.out.later b_w4)
  replace Ou := Lib.hid (Ou.out.later b_w4)
  replace cx0 := (b_w4.cell (p := ⟨w1.heap.size, 0, none⟩) (by show w1.heap.size < _; omega)).trans cx0
  replace cx1 := (b_w4.cell (p := ⟨w1.heap.size, 1, none⟩) (by show w1.heap.size < _; omega)).trans cx1
  replace BA : Hid (Below w.heap.size w w4) := BA.out.trans (b_w4.mono (by omega))
  replace ZA : w.heap.size ≤ w4.heap.size := (by omega)
  replace yx : w1.heap.size < w4.heap.size := (by omega)
  clear b_w4
  have Oi := Lib.hid oi
  clear oi
  go_wp2_with fail
  refine (WithoutIdle_y v _ _ _ usx xx w4 Ox.out (by omega) HOK.out).mono ?_
  rintro e w5 ⟨qy, usy, rfl, oy, b_w5⟩
  obtain ⟨xy, hxy⟩ : ∃ X, X = busyK v xx xx.length := ⟨_, rfl⟩
  rw [← hxy] at oy
  have HXy := Lib.hid hxy
  clear hxy
  obtain ⟨aoy, gy, capy, ey, -, -, -⟩ := oy.rows
  obtain ⟨Ly, hLy⟩ : ∃ L, L = xy.length := ⟨_, rfl⟩
  rw [← hLy] at ey
  subst ey
  have HNy := Lib.hid hLy
  clear hLy
  have z_w5 := b_w5.size
  replace Ox := Lib.hid (Ox.out.later b_w5)
  replace Ou := Lib.hid (Ou.out.later b_w5)
  replace Oi := Lib.hid (Oi.out.later b_w5)
  replace cx0 := (b_w5.cell (p := ⟨w1.heap.size, 0, none⟩) (by show w1.heap.size < _; omega)).trans cx0
  replace cx1 := (b_w5.cell (p := ⟨w1.heap.size, 1, none⟩) (by show w1.heap.size < _; omega)).trans cx1
  replace BA : Hid (Below w.heap.size w w5) := BA.out.trans (b_w5.mono (by omega))
  replace ZA : w.heap.size ≤ w5.heap.size := (by omega)
  replace yx : w1.heap.size < w5.heap.size := (by omega)
  clear b_w5
  have Oy := Lib.hid oy
  clear oy
  go_wp2_with fail
  obtain ⟨w6, hWw6, cy0, cy1, hzw6, b_w6, -, -⟩ := box2 w5 (.int .i64 v) (.slice aoy Ly capy) 27
  rw [hWw6]
  clear hWw6
  have zz_w6 : w5.heap.size < w6.heap.size := (by omega)
  clear hzw6
  have z_w6 := b_w6.size
  replace Ox := Lib.hid (Ox.out.later b_w6)
  replace Ou := Lib.hid (Ou.out.later b_w6)
  replace Oi := Lib.hid (Oi.out.later b_w6)
  replace Oy := Lib.hid (Oy.out.later b_w6)
  replace cx0 := (b_w6.cell (p := ⟨w1.heap.size, 0, none⟩) (by show w1.heap.size < _; omega)).trans cx0
  replace cx1 := (b_w6.cell (p := ⟨w1.heap.size, 1, none⟩) (by show w1.heap.size < _; omega)).trans cx1
  replace BA : Hid (Below w.heap.size w w6) := BA.out.trans (b_w6.mono (by omega))
  replace ZA : w.heap.size ≤ w6.heap.size := (by omega)
  replace yx : w1.heap.size < w6.heap.size := (by omega)
  clear b_w6
  have yy : w5.heap.size < w6.heap.size := zz_w6
  go_wp2_with fail
  refine (LeanNetwork_y v _ _ _ usx xx w6 Ox.out (by omega) HS.out).mono ?_
  rintro e w7 ⟨qz, usz, rfl, oz, b_w7⟩
  obtain ⟨xz, hxz⟩ : ∃ X, X = leanX v xx xx.length := ⟨_, rfl⟩
  rw [← hxz] at oz
  have HXz := Lib.hid hxz
  clear hxz
  obtain ⟨aoz, gz, capz, ez, -, -, -⟩ := oz.rows
  obtain ⟨Lz, hLz⟩ : ∃ L, L = xz.length := ⟨_, rfl⟩
  rw [← hLz] at ez
  subst ez
  have HNz := Lib.hid hLz
  clear hLz
  have z_w7 := b_w7.size
  replace Ox := Lib.hid (Ox.out.later b_w7)
  replace Ou := Lib.hid (Ou.out.later b_w7)
  replace Oi := Lib.hid (Oi.out.later b_w7)
  replace Oy := Lib.hid (Oy.out.later b_w7)
  replace cx0 := (b_w7.cell (p := ⟨w1.heap.size, 0, none⟩) (by show w1.heap.size < _; omega)).trans cx0
  replace cx1 := (b_w7.cell (p := ⟨w1.heap.size, 1, none⟩) (by show w1.heap.size < _; omega)).trans cx1
  replace cy0 := (b_w7.cell (p := ⟨w5.heap.size, 0, none⟩) (by show w5.heap.size < _; omega)).trans cy0
  replace cy1 := (b_w7.cell (p := ⟨w5.heap.size, 1, none⟩) (by show w5.heap.size < _; omega)).trans cy1
  replace BA : Hid (Below w.heap.size w w7) := BA.out.trans (b_w7.mono (by omega))
  replace ZA : w.heap.size ≤ w7.heap.size := (by omega)
  replace yx : w1.heap.size < w7.heap.size := (by omega)
  replace yy : w5.heap.size < w7.heap.size := (by omega)
  clear b_w7
  have Oz := Lib.hid oz
  clear oz
  have hyi : Ly + Li = Lx := by have := HBL.out; rw [HNy.out, HXy.out, HNi.out, HXi.out, HNx.out]; exact this
  have hzx : Lz ≤ Lx := by have := HLF.out.2.2.1; rw [HNz.out, HXz.out, HNx.out]; exact this
  have hux : Lu = Lx := HLU.out
  have t1 : ((Lu : Int) != (Lx : Int)) = false := by rw [hux]; simp
  have t2 : ((Ly : Int) != (Lx : Int) - (Li : Int)) = false := by rw [show (Lx : Int) - (Li : Int) = (Ly : Int) by omega]; simp
  have t3 : ¬ (Lx : Int) < (Lz : Int) := by omega
  clear hux
  go_wp2_with fail
  obtain ⟨w8, hWw8, cz0, cz1, hzw8, b_w8, -, -⟩ := box2 w7 (.int .i64 v) (.slice aoz Lz capz) 27
  rw [hWw8]
  clear hWw8
  have zz_w8 : w7.heap.size < w8.heap.size := (by omega)
  clear hzw8
  have z_w8 := b_w8.size
  replace Ox := Lib.hid (Ox.out.later b_w8)
  replace Ou := Lib.hid (Ou.out.later b_w8)
  replace Oi := Lib.hid (Oi.out.later b_w8)
  replace Oy := Lib.hid (Oy.out.later b_w8)
  replace Oz := Lib.hid (Oz.out.later b_w8)
  replace cx0 := (b_w8.cell (p := ⟨w1.heap.size, 0, none⟩) (by show w1.heap.size < _; omega)).trans cx0
  replace cx1 := (b_w8.cell (p := ⟨w1.heap.size, 1, none⟩) (by show w1.heap.size < _; omega)).trans cx1
  replace cy0 := (b_w8.cell (p := ⟨w5.heap.size, 0, none⟩) (by show w5.heap.size < _; omega)).trans cy0
  replace cy1 := (b_w8.cell (p := ⟨w5.heap.size, 1, none⟩) (by show w5.heap.size < _; omega)).trans cy1
  replace BA : Hid (Below w.heap.size w w8) := BA.out.trans (b_w8.mono (by omega))
  replace ZA : w.heap.size ≤ w8.heap.size := (by omega)
  replace yx : w1.heap.size < w8.heap.size := (by omega)
  replace yy : w5.heap.size < w8.heap.size := (by omega)
  clear b_w8
  have yz : w7.heap.size < w8.heap.size := zz_w8
  refine (DoSame_y v _ _ _ _ _ _ usx usy xx xy w8 Ox.out (by omega) Oy.out (by omega) HOK.out (by rw [HXy.out]; exact HBI.out.1)).mono ?_
  rintro e w9 ⟨rfl, b_w9⟩
  rw [show sameB v xx xy = true from by rw [HXy.out]; exact HBI.out.2]
  have z_w9 := b_w9.size
  replace Ox := Lib.hid (Ox.out.later b_w9)
  replace Ou := Lib.hid (Ou.out.later b_w9)
  replace Oi := Lib.hid (Oi.out.later b_w9)
  replace Oy := Lib.hid (Oy.out.later b_w9)
  replace Oz := Lib.hid (Oz.out.later b_w9)
  replace cx0 := (b_w9.cell (p := ⟨w1.heap.size, 0, none⟩) (by show w1.heap.size < _; omega)).trans cx0
  replace cx1 := (b_w9.cell (p := ⟨w1.heap.size, 1, none⟩) (by show w1.heap.size < _; omega)).trans cx1
  replace cy0 := (b_w9.cell (p := ⟨w5.heap.size, 0, none⟩) (by show w5.heap.size < _; omega)).trans cy0
  replace cy1 := (b_w9.cell (p := ⟨w5.heap.size, 1, none⟩) (by show w5.heap.size < _; omega)).trans cy1
  replace cz0 := (b_w9.cell (p := ⟨w7.heap.size, 0, none⟩) (by show w7.heap.size < _; omega)).trans cz0
  replace cz1 := (b_w9.cell (p := ⟨w7.heap.size, 1, none⟩) (by show w7.heap.size < _; omega)).trans cz1
  replace BA : Hid (Below w.heap.size w w9) := BA.out.trans (b_w9.mono (by omega))
  replace ZA : w.heap.size ≤ w9.heap.size := (by omega)
  replace yx : w1.heap.size < w9.heap.size := (by omega)
  replace yy : w5.heap.size < w9.heap.size := (by omega)
  replace yz : w7.heap.size < w9.heap.size := (by omega)
  clear b_w9
  go_wp2_with fail
  refine (IsLean_i_c v _ _ _ usz xz w9 Oz.out (by omega)).mono ?_
  rintro e w10 ⟨rfl, b_w10⟩
  rw [show leanB (v : Int) xz = true from by rw [HXz.out]; exact HLF.out.2.1]
  have z_w10 := b_w10.size
  replace Ox := Lib.hid (Ox.out.later b_w10)
  replace Ou := Lib.hid (Ou.out.later b_w10)
  replace Oi := Lib.hid (Oi.out.later b_w10)
  replace Oy := Lib.hid (Oy.out.later b_w10)
  replace Oz := Lib.hid (Oz.out.later b_w10)
  replace cx0 := (b_w10.cell (p := ⟨w1.heap.size, 0, none⟩) (by show w1.heap.size < _; omega)).trans cx0
  replace cx1 := (b_w10.cell (p := ⟨w1.heap.size, 1, none⟩) (by show w1.heap.size < _; omega)).trans cx1
  replace cy0 := (b_w10.cell (p := ⟨w5.heap.size, 0, none⟩) (by show w5.heap.size < _; omega)).trans cy0
  replace cy1 := (b_w10.cell (p := ⟨w5.heap.size, 1, none⟩) (by show w5.heap.size < _; omega)).trans cy1
  replace cz0 := (b_w10.cell (p := ⟨w7.heap.size, 0, none⟩) (by show w7.heap.size < _; omega)).trans cz0
  replace cz1 := (b_w10.cell (p := ⟨w7.heap.size, 1, none⟩) (by show w7.heap.size < _; omega)).trans cz1
  replace BA : Hid (Below w.heap.size w w10) := BA.out.trans (b_w10.mono (by omega))
  replace ZA : w.heap.size ≤ w10.heap.size := (by omega)
  replace yx : w1.heap.size < w10.heap.size := (by omega)
  replace yy : w5.heap.size < w10.heap.size := (by omega)
  replace yz : w7.heap.size < w10.heap.size := (by omega)
  clear b_w10
  go_wp2_with fail
  refine (IsSorting_i v _ _ _ usz xz w10 Oz.out (by omega)).mono ?_
  rintro e w11 ⟨rfl, b_w11⟩
  rw [show sortsR (v : Int) xz = true from by rw [HXz.out]; exact HLF.out.1]
  have z_w11 := b_w11.size
  replace Ox := Lib.hid (Ox.out.later b_w11)
  replace Ou := Lib.hid (Ou.out.later b_w11)
  replace Oi := Lib.hid (Oi.out.later b_w11)
  replace Oy := Lib.hid (Oy.out.later b_w11)
  replace Oz := Lib.hid (Oz.out.later b_w11)
  replace cx0 := (b_w11.cell (p := ⟨w1.heap.size, 0, none⟩) (by show w1.heap.size < _; omega)).trans cx0
  replace cx1 := (b_w11.cell (p := ⟨w1.heap.size, 1, none⟩) (by show w1.heap.size < _; omega)).trans cx1
  replace cy0 := (b_w11.cell (p := ⟨w5.heap.size, 0, none⟩) (by show w5.heap.size < _; omega)).trans cy0
  replace cy1 := (b_w11.cell (p := ⟨w5.heap.size, 1, none⟩) (by show w5.heap.size < _; omega)).trans cy1
  replace cz0 := (b_w11.cell (p := ⟨w7.heap.size, 0, none⟩) (by show w7.heap.size < _; omega)).trans cz0
  replace cz1 := (b_w11.cell (p := ⟨w7.heap.size, 1, none⟩) (by show w7.heap.size < _; omega)).trans cz1
  replace BA : Hid (Below w.heap.size w w11) := BA.out.trans (b_w11.mono (by omega))
  replace ZA : w.heap.size ≤ w11.heap.size := (by omega)
  replace yx : w1.heap.size < w11.heap.size := (by omega)
  replace yy : w5.heap.size < w11.heap.size := (by omega)
  replace yz : w7.heap.size < w11.heap.size := (by omega)
  clear b_w11
  go_wp2_with fail
  clear t1 t2 t3
  clear Oy
  rw [show decide (Lx < Lz) = false from by rw [decide_eq_false_iff_not]; omega]
  go_loopw [87] (fun i wr => ∃ j : Nat, j ≤ Lu ∧ i = .int .i64 j ∧ Below w11.heap.size w11 wr) (fun i _ => Lu - (intOf i).toNat)
  case atStart => exact ⟨0, Nat.zero_le _, rfl, Below.refl _ _⟩
  case round =>
    obtain ⟨j, hj, rfl, hb⟩ := hrel
    have R0 : Hid (Below w11.heap.size w11 w11) := Below.refl _ _
    have z_wr := hb.size
    replace Ox := Lib.hid (Ox.out.later hb)
    replace Ou := Lib.hid (Ou.out.later hb)
    replace Oi := Lib.hid (Oi.out.later hb)
    replace Oz := Lib.hid (Oz.out.later hb)
    replace cx0 := (hb.cell (p := ⟨w1.heap.size, 0, none⟩) (by show w1.heap.size < _; omega)).trans cx0
    replace cx1 := (hb.cell (p := ⟨w1.heap.size, 1, none⟩) (by show w1.heap.size < _; omega)).trans cx1
    replace cz0 := (hb.cell (p := ⟨w7.heap.size, 0, none⟩) (by show w7.heap.size < _; omega)).trans cz0
    replace cz1 := (hb.cell (p := ⟨w7.heap.size, 1, none⟩) (by show w7.heap.size < _; omega)).trans cz1
    replace BA : Hid (Below w.heap.size w wr) := BA.out.trans (hb.mono (by omega))
    replace ZA : w.heap.size ≤ wr.heap.size := (by omega)
    replace yx : w1.heap.size < wr.heap.size := (by omega)
    replace yz : w7.heap.size < wr.heap.size := (by omega)
    replace R0 : Hid (Below w11.heap.size w11 wr) := R0.out.trans (hb.mono (by omega))
    clear hb
    by_cases hlt : j < Lu
    · have hlt1 : (j : Int) < (Lu : Int) := by omega
      obtain ⟨ao3, g3, cap3, e3, -, ha3, hc3⟩ := OwnI.view Ou.out
      rw [← HNu.out] at e3 ha3 hc3
      cases e3
      obtain ⟨e4, -, -⟩ := ha3 (by omega)
      subst e4
      have hjx : j < Lx := by have := HLU.out; omega
      have hjx2 : j < xx.length := by rw [← HNx.out]; exact hjx
      have cu := (hc3 j hlt).1
      rw [HXu.out, useL_getD v xx j hjx2] at cu
      obtain ⟨c, hc⟩ : ∃ c, c = cntX xx j (2 ^ v) := ⟨_, rfl⟩
      rw [← hc] at cu
      have hcase : (c = 0 ∧ needB v xx j = false) ∨ (c ≠ 0 ∧ needB v xx j = true) ∨ (c ≠ 0 ∧ needB v xx j = false) := by
        by_cases h0 : c = 0
        · refine Or.inl ⟨h0, ?_⟩
          rw [needB, HS.out, idle_drop HS.out hjx2 (by rw [← hc]; exact h0)]
          rfl
        · cases hq : needB v xx j
          · exact Or.inr (Or.inr ⟨h0, rfl⟩)
          · exact Or.inr (Or.inl ⟨h0, rfl⟩)
      have HAS : Hid (xi.contains (j : Int) = (c == 0)) := by show _ = _; rw [HXi.out, hc]; exact idle_has v xx xx.length j hjx2
      have HDS := Lib.hid (need_sorts HS.out j)
      have HEL : Hid ((xx.eraseIdx j).length + 1 = Lx) := by show _ = _; rw [List.length_eraseIdx, if_pos hjx2, ← HNx.out]; omega
      clear ha3 hc3 hc
      rcases hcase with ⟨h0, hnb⟩ | ⟨h0, hnb⟩ | ⟨h0, hnb⟩
      · have HNB := Lib.hid hnb
        have e0 : ((c : Int) == 0) = true := by rw [h0]; rfl
        have HAS2 : Hid (xi.contains (j : Int) = true) := by show _ = _; rw [HAS.out]; simp [h0]
        have HDS2 : Hid (sortsR v (xx.eraseIdx j) = true) := by show _ = _; have := HDS.out; rw [HNB.out] at this; revert this; cases sortsR v (xx.eraseIdx j) <;> simp
        clear h0 hnb
        go_wp2_with fail
        refine (has_c _ _ _ xi j wr (OwnI.ints Oi.out) (by omega) (by rw [← HNi.out]; omega)).mono ?_
        rintro e w12 ⟨rfl, b_w12⟩
        have z_w12 := b_w12.size
        replace Ox := Lib.hid (Ox.out.later b_w12)
        replace Ou := Lib.hid (Ou.out.later b_w12)
        replace Oi := Lib.hid (Oi.out.later b_w12)
        replace Oz := Lib.hid (Oz.out.later b_w12)
        replace cx0 := (b_w12.cell (p := ⟨w1.heap.size, 0, none⟩) (by show w1.heap.size < _; omega)).trans cx0
        replace cx1 := (b_w12.cell (p := ⟨w1.heap.size, 1, none⟩) (by show w1.heap.size < _; omega)).trans cx1
        replace cz0 := (b_w12.cell (p := ⟨w7.heap.size, 0, none⟩) (by show w7.heap.size < _; omega)).trans cz0
        replace cz1 := (b_w12.cell (p := ⟨w7.heap.size, 1, none⟩) (by show w7.heap.size < _; omega)).trans cz1
        replace BA : Hid (Below w.heap.size w w12) := BA.out.trans (b_w12.mono (by omega))
        replace ZA : w.heap.size ≤ w12.heap.size := (by omega)
        replace yx : w1.heap.size < w12.heap.size := (by omega)
        replace yz : w7.heap.size < w12.heap.size := (by omega)
        replace R0 : Hid (Below w11.heap.size w11 w12) := R0.out.trans (b_w12.mono (by omega))
        clear b_w12
        rw [HAS2.out]
        go_wp2_with fail
        refine (IsNeeded_yes v _ _ _ usx xx w12 Ox.out (by omega) HOK.out j hjx2).mono ?_
        rintro e w13 ⟨rfl, b_w13⟩
        have z_w13 := b_w13.size
        replace Ox := Lib.hid (Ox.out.later b_w13)
        replace Ou := Lib.hid (Ou.out.later b_w13)
        replace Oi := Lib.hid (Oi.out.later b_w13)
        replace Oz := Lib.hid (Oz.out.later b_w13)
        replace cx0 := (b_w13.cell (p := ⟨w1.heap.size, 0, none⟩) (by show w1.heap.size < _; omega)).trans cx0
        replace cx1 := (b_w13.cell (p := ⟨w1.heap.size, 1, none⟩) (by show w1.heap.size < _; omega)).trans cx1
        replace cz0 := (b_w13.cell (p := ⟨w7.heap.size, 0, none⟩) (by show w7.heap.size < _; omega)).trans cz0
        replace cz1 := (b_w13.cell (p := ⟨w7.heap.size, 1, none⟩) (by show w7.heap.size < _; omega)).trans cz1
        replace BA : Hid (Below w.heap.size w w13) := BA.out.trans (b_w13.mono (by omega))
        replace ZA : w.heap.size ≤ w13.heap.size := (by omega)
        replace yx : w1.heap.size < w13.heap.size := (by omega)
        replace yz : w7.heap.size < w13.heap.size := (by omega)
        replace R0 : Hid (Below w11.heap.size w11 w13) := R0.out.trans (b_w13.mono (by omega))
        clear b_w13
        rw [HNB.out]
        go_wp2_with fail
        refine (DropPair_yes v _ _ _ usx xx w13 Ox.out (by omega) HOK.out j hjx2).mono ?_
        rintro e w14 ⟨qd, usd, rfl, od, b_w14⟩
        obtain ⟨xd, hxd⟩ : ∃ X, X = xx.eraseIdx j := ⟨_, rfl⟩
        rw [← hxd] at od
        have HXd := Lib.hid hxd
        clear hxd
        obtain ⟨aod, gd, capd, ed, -, -, -⟩ := od.rows
        obtain ⟨Ld, hLd⟩ : ∃ L, L = xd.length := ⟨_, rfl⟩
        rw [← hLd] at ed
        subst ed
        have HNd := Lib.hid hLd
        clear hLd
        have z_w14 := b_w14.size
        replace Ox := Lib.hid (Ox.out.later b_w14)
        replace Ou := Lib.hid (Ou.out.later b_w14)
        replace Oi := Lib.hid (Oi.out.later b_w14)
        replace Oz := Lib.hid (Oz.out.later b_w14)
        replace cx0 := (b_w14.cell (p := ⟨w1.heap.size, 0, none⟩) (by show w1.heap.size < _; omega)).trans cx0
        replace cx1 := (b_w14.cell (p := ⟨w1.heap.size, 1, none⟩) (by show w1.heap.size < _; omega)).trans cx1
        replace cz0 := (b_w14.cell (p := ⟨w7.heap.size, 0, none⟩) (by show w7.heap.size < _; omega)).trans cz0
        replace cz1 := (b_w14.cell (p := ⟨w7.heap.size, 1, none⟩) (by show w7.heap.size < _; omega)).trans cz1
        replace BA : Hid (Below w.heap.size w w14) := BA.out.trans (b_w14.mono (by omega))
        replace ZA : w.heap.size ≤ w14.heap.size := (by omega)
        replace yx : w1.heap.size < w14.heap.size := (by omega)
        replace yz : w7.heap.size < w14.heap.size := (by omega)
        replace R0 : Hid (Below w11.heap.size w11 w14) := R0.out.trans (b_w14.mono (by omega))
        clear b_w14
        have Od := Lib.hid od
        clear od
        go_wp2_with fail
        obtain ⟨w15, hWw15, cd0, cd1, hzw15, b_w15, -, -⟩ := box2 w14 (.int .i64 v) (.slice aod Ld capd) 27
        rw [hWw15]
        clear hWw15
        have zz_w15 : w14.heap.size < w15.heap.size := (by omega)
        clear hzw15
        have z_w15 := b_w15.size
        replace Ox := Lib.hid (Ox.out.later b_w15)
        replace Ou := Lib.hid (Ou.out.later b_w15)
        replace Oi := Lib.hid (Oi.out.later b_w15)
        replace Oz := Lib.hid (Oz.out.later b_w15)
        replace Od := Lib.hid (Od.out.later b_w15)
        replace cx0 := (b_w15.cell (p := ⟨w1.heap.size, 0, none⟩) (by show w1.heap.size < _; omega)).trans cx0
        replace cx1 := (b_w15.cell (p := ⟨w1.heap.size, 1, none⟩) (by show w1.heap.size < _; omega)).trans cx1
        replace cz0 := (b_w15.cell (p := ⟨w7.heap.size, 0, none⟩) (by show w7.heap.size < _; omega)).trans cz0
        replace cz1 := (b_w15.cell (p := ⟨w7.heap.size, 1, none⟩) (by show w7.heap.size < _; omega)).trans cz1
        replace BA : Hid (Below w.heap.size w w15) := BA.out.trans (b_w15.mono (by omega))
        replace ZA : w.heap.size ≤ w15.heap.size := (by omega)
        replace yx : w1.heap.size < w15.heap.size := (by omega)
        replace yz : w7.heap.size < w15.heap.size := (by omega)
        replace R0 : Hid (Below w11.heap.size w11 w15) := R0.out.trans (b_w15.mono (by omega))
        clear b_w15
        have yd : w14.heap.size < w15.heap.size := zz_w15
        have hLd : Ld + 1 = Lx := by have := HEL.out; rw [HNd.out, HXd.out]; exact this
        have hLd2 : (Lx : Int) - 1 = (Ld : Int) := by omega
        have t4 : IntKind.i64.wrap ((Lx : Int) - 1) = (Lx : Int) - 1 := IntWalk.i64_in _ (by omega)
        have t5 : ((Ld : Int) != (Lx : Int) - 1) = false := by rw [hLd2]; simp
        have CS : Hid (∀ w', Below w15.heap.size w15 w' → Calls Try.prog 39 #[.agg #[.int .i64 v, .slice aod Ld capd]] w' fun e w'' => e = .returned (.bool true) ∧ Below w'.heap.size w' w'') := fun w' h1 => by
          have := IsSorting_i v _ _ _ usd xd w' (Od.out.below h1 (by omega)) (by have := h1.size; omega)
          rwa [show sortsR (v : Int) xd = true from by rw [HXd.out]; exact HDS2.out] at this
        have CN : Hid (∀ w', Below w15.heap.size w15 w' → Calls Try.prog 56 #[.agg #[.int .i64 v, .slice aox Lx capx], .int .i64 j] w' fun e w'' => e = .returned (.bool false) ∧ Below w'.heap.size w' w'') := fun w' h1 => by
          have := IsNeeded_yes v _ _ _ usx xx w' (Ox.out.below h1 (by omega)) (by have := h1.size; omega) HOK.out j hjx2
          rwa [HNB.out] at this
        clear hLd hLd2
        refine wp_region_later w15.heap.size w15 (by kernel_rfl) (by kernel_rfl) (Below.refl _ _) ?_
        have hLW := LW.cells (B := w15.heap.size) (w0 := w15)
        repeat (go_big_quiet_step ((first | (go_at_call 39; refine LW.call (Nat.le_refl _) (CS.out _ (LW.h _))) | (go_at_call 56; refine LW.call (Nat.le_refl _) (CN.out _ (LW.h _))) | fail)))
        refine wpQuiet_nil ?_
        rintro w16 ⟨⟨w2s, b_w16⟩, rfl⟩
        clear hLW
        have z_w16 := b_w16.size
        replace Ox := Lib.hid (Ox.out.later b_w16)
        replace Ou := Lib.hid (Ou.out.later b_w16)
        replace Oi := Lib.hid (Oi.out.later b_w16)
        replace Oz := Lib.hid (Oz.out.later b_w16)
        replace Od := Lib.hid (Od.out.later b_w16)
        replace cx0 := (b_w16.cell (p := ⟨w1.heap.size, 0, none⟩) (by show w1.heap.size < _; omega)).trans cx0
        replace cx1 := (b_w16.cell (p := ⟨w1.heap.size, 1, none⟩) (by show w1.heap.size < _; omega)).trans cx1
        replace cz0 := (b_w16.cell (p := ⟨w7.heap.size, 0, none⟩) (by show w7.heap.size < _; omega)).trans cz0
        replace cz1 := (b_w16.cell (p := ⟨w7.heap.size, 1, none⟩) (by show w7.heap.size < _; omega)).trans cz1
        replace cd0 := (b_w16.cell (p := ⟨w14.heap.size, 0, none⟩) (by show w14.heap.size < _; omega)).trans cd0
        replace cd1 := (b_w16.cell (p := ⟨w14.heap.size, 1, none⟩) (by show w14.heap.size < _; omega)).trans cd1
        replace BA : Hid (Below w.heap.size w w16) := BA.out.trans (b_w16.mono (by omega))
        replace ZA : w.heap.size ≤ w16.heap.size := (by omega)
        replace yx : w1.heap.size < w16.heap.size := (by omega)
        replace yz : w7.heap.size < w16.heap.size := (by omega)
        replace yd : w14.heap.size < w16.heap.size := (by omega)
        replace R0 : Hid (Below w11.heap.size w11 w16) := R0.out.trans (b_w16.mono (by omega))
        clear b_w16
        clear CS CN t4 t5
        go_wp2
        go_roundw
        case rel => first | exact ⟨j + 1, by omega, by go_num, R0.out⟩ | ((repeat apply Exists.intro); refine ⟨?_, rfl⟩; exact ⟨j + 1, by omega, by go_num, R0.out⟩)
        case measure => simp [intOf]; omega
      · have HNB := Lib.hid hnb
        have e0 : ((c : Int) == 0) = false := by rw [beq_eq_false_iff_ne]; omega
        have HAS2 : Hid (xi.contains (j : Int) = false) := by show _ = _; rw [HAS.out]; simp [h0]
        have HDS2 : Hid (sortsR v (xx.eraseIdx j) = false) := by show _ = _; have := HDS.out; rw [HNB.out] at this; revert this; cases sortsR v (xx.eraseIdx j) <;> simp
        clear h0 hnb
        go_wp2_with fail
        refine (has_c _ _ _ xi j wr (OwnI.ints Oi.out) (by omega) (by rw [← HNi.out]; omega)).mono ?_
        rintro e w17 ⟨rfl, b_w17⟩
        have z_w17 := b_w17.size
        replace Ox := Lib.hid (Ox.out.later b_w17)
        replace Ou := Lib.hid (Ou.out.later b_w17)
        replace Oi := Lib.hid (Oi.out.later b_w17)
        replace Oz := Lib.hid (Oz.out.later b_w17)
        replace cx0 := (b_w17.cell (p := ⟨w1.heap.size, 0, none⟩) (by show w1.heap.size < _; omega)).trans cx0
        replace cx1 := (b_w17.cell (p := ⟨w1.heap.size, 1, none⟩) (by show w1.heap.size < _; omega)).trans cx1
        replace cz0 := (b_w17.cell (p := ⟨w7.heap.size, 0, none⟩) (by show w7.heap.size < _; omega)).trans cz0
        replace cz1 := (b_w17.cell (p := ⟨w7.heap.size, 1, none⟩) (by show w7.heap.size < _; omega)).trans cz1
        replace BA : Hid (Below w.heap.size w w17) := BA.out.trans (b_w17.mono (by omega))
        replace ZA : w.heap.size ≤ w17.heap.size := (by omega)
        replace yx : w1.heap.size < w17.heap.size := (by omega)
        replace yz : w7.heap.size < w17.heap.size := (by omega)
        replace R0 : Hid (Below w11.heap.size w11 w17) := R0.out.trans (b_w17.mono (by omega))
        clear b_w17
        rw [HAS2.out]
        go_wp2_with fail
        refine (IsNeeded_yes v _ _ _ usx xx w17 Ox.out (by omega) HOK.out j hjx2).mono ?_
        rintro e w18 ⟨rfl, b_w18⟩
        have z_w18 := b_w18.size
        replace Ox := Lib.hid (Ox.out.later b_w18)
        replace Ou := Lib.hid (Ou.out.later b_w18)
        replace Oi := Lib.hid (Oi.out.later b_w18)
        replace Oz := Lib.hid (Oz.out.later b_w18)
        replace cx0 := (b_w18.cell (p := ⟨w1.heap.size, 0, none⟩) (by show w1.heap.size < _; omega)).trans cx0
        replace cx1 := (b_w18.cell (p := ⟨w1.heap.size, 1, none⟩) (by show w1.heap.size < _; omega)).trans cx1
        replace cz0 := (b_w18.cell (p := ⟨w7.heap.size, 0, none⟩) (by show w7.heap.size < _; omega)).trans cz0
        replace cz1 := (b_w18.cell (p := ⟨w7.heap.size, 1, none⟩) (by show w7.heap.size < _; omega)).trans cz1
        replace BA : Hid (Below w.heap.size w w18) := BA.out.trans (b_w18.mono (by omega))
        replace ZA : w.heap.size ≤ w18.heap.size := (by omega)
        replace yx : w1.heap.size < w18.heap.size := (by omega)
        replace yz : w7.heap.size < w18.heap.size := (by omega)
        replace R0 : Hid (Below w11.heap.size w11 w18) := R0.out.trans (b_w18.mono (by omega))
        clear b_w18
        rw [HNB.out]
        go_wp2_with fail
        refine (DropPair_yes v _ _ _ usx xx w18 Ox.out (by omega) HOK.out j hjx2).mono ?_
        rintro e w19 ⟨qd, usd, rfl, od, b_w19⟩
        obtain ⟨xd, hxd⟩ : ∃ X, X = xx.eraseIdx j := ⟨_, rfl⟩
        rw [← hxd] at od
        have HXd := Lib.hid hxd
        clear hxd
        obtain ⟨aod, gd, capd, ed, -, -, -⟩ := od.rows
        obtain ⟨Ld, hLd⟩ : ∃ L, L = xd.length := ⟨_, rfl⟩
        rw [← hLd] at ed
        subst ed
        have HNd := Lib.hid hLd
        clear hLd
        have z_w19 := b_w19.size
        replace Ox := Lib.hid (Ox.out.later b_w19)
        replace Ou := Lib.hid (Ou.out.later b_w19)
        replace Oi := Lib.hid (Oi.out.later b_w19)
        replace Oz := Lib.hid (Oz.out.later b_w19)
        replace cx0 := (b_w19.cell (p := ⟨w1.heap.size, 0, none⟩) (by show w1.heap.size < _; omega)).trans cx0
        replace cx1 := (b_w19.cell (p := ⟨w1.heap.size, 1, none⟩) (by show w1.heap.size < _; omega)).trans cx1
        replace cz0 := (b_w19.cell (p := ⟨w7.heap.size, 0, none⟩) (by show w7.heap.size < _; omega)).trans cz0
        replace cz1 := (b_w19.cell (p := ⟨w7.heap.size, 1, none⟩) (by show w7.heap.size < _; omega)).trans cz1
        replace BA : Hid (Below w.heap.size w w19) := BA.out.trans (b_w19.mono (by omega))
        replace ZA : w.heap.size ≤ w19.heap.size := (by omega)
        replace yx : w1.heap.size < w19.heap.size := (by omega)
        replace yz : w7.heap.size < w19.heap.size := (by omega)
        replace R0 : Hid (Below w11.heap.size w11 w19) := R0.out.trans (b_w19.mono (by omega))
        clear b_w19
        have Od := Lib.hid od
        clear od
        go_wp2_with fail
        obtain ⟨w20, hWw20, cd0, cd1, hzw20, b_w20, -, -⟩ := box2 w19 (.int .i64 v) (.slice aod Ld capd) 27
        rw [hWw20]
        clear hWw20
        have zz_w20 : w19.heap.size < w20.heap.size := (by omega)
        clear hzw20
        have z_w20 := b_w20.size
        replace Ox := Lib.hid (Ox.out.later b_w20)
        replace Ou := Lib.hid (Ou.out.later b_w20)
        replace Oi := Lib.hid (Oi.out.later b_w20)
        replace Oz := Lib.hid (Oz.out.later b_w20)
        replace Od := Lib.hid (Od.out.later b_w20)
        replace cx0 := (b_w20.cell (p := ⟨w1.heap.size, 0, none⟩) (by show w1.heap.size < _; omega)).trans cx0
        replace cx1 := (b_w20.cell (p := ⟨w1.heap.size, 1, none⟩) (by show w1.heap.size < _; omega)).trans cx1
        replace cz0 := (b_w20.cell (p := ⟨w7.heap.size, 0, none⟩) (by show w7.heap.size < _; omega)).trans cz0
        replace cz1 := (b_w20.cell (p := ⟨w7.heap.size, 1, none⟩) (by show w7.heap.size < _; omega)).trans cz1
        replace BA : Hid (Below w.heap.size w w20) := BA.out.trans (b_w20.mono (by omega))
        replace ZA : w.heap.size ≤ w20.heap.size := (by omega)
        replace yx : w1.heap.size < w20.heap.size := (by omega)
        replace yz : w7.heap.size < w20.heap.size := (by omega)
        replace R0 : Hid (Below w11.heap.size w11 w20) := R0.out.trans (b_w20.mono (by omega))
        clear b_w20
        have yd : w19.heap.size < w20.heap.size := zz_w20
        have hLd : Ld + 1 = Lx := by have := HEL.out; rw [HNd.out, HXd.out]; exact this
        have hLd2 : (Lx : Int) - 1 = (Ld : Int) := by omega
        have t4 : IntKind.i64.wrap ((Lx : Int) - 1) = (Lx : Int) - 1 := IntWalk.i64_in _ (by omega)
        have t5 : ((Ld : Int) != (Lx : Int) - 1) = false := by rw [hLd2]; simp
        have CS : Hid (∀ w', Below w20.heap.size w20 w' → Calls Try.prog 39 #[.agg #[.int .i64 v, .slice aod Ld capd]] w' fun e w'' => e = .returned (.bool false) ∧ Below w'.heap.size w' w'') := fun w' h1 => by
          have := IsSorting_i v _ _ _ usd xd w' (Od.out.below h1 (by omega)) (by have := h1.size; omega)
          rwa [show sortsR (v : Int) xd = false from by rw [HXd.out]; exact HDS2.out] at this
        have CN : Hid (∀ w', Below w20.heap.size w20 w' → Calls Try.prog 56 #[.agg #[.int .i64 v, .slice aox Lx capx], .int .i64 j] w' fun e w'' => e = .returned (.bool true) ∧ Below w'.heap.size w' w'') := fun w' h1 => by
          have := IsNeeded_yes v _ _ _ usx xx w' (Ox.out.below h1 (by omega)) (by have := h1.size; omega) HOK.out j hjx2
          rwa [HNB.out] at this
        clear hLd hLd2
        refine wp_region_later w20.heap.size w20 (by kernel_rfl) (by kernel_rfl) (Below.refl _ _) ?_
        have hLW := LW.cells (B := w20.heap.size) (w0 := w20)
        repeat (go_big_quiet_step ((first | (go_at_call 39; refine LW.call (Nat.le_refl _) (CS.out _ (LW.h _))) | (go_at_call 56; refine LW.call (Nat.le_refl _) (CN.out _ (LW.h _))) | fail)))
        refine wpQuiet_nil ?_
        rintro w21 ⟨⟨w2s, b_w21⟩, rfl⟩
        clear hLW
        have z_w21 := b_w21.size
        replace Ox := Lib.hid (Ox.out.later b_w21)
        replace Ou := Lib.hid (Ou.out.later b_w21)
        replace Oi := Lib.hid (Oi.out.later b_w21)
        replace Oz := Lib.hid (Oz.out.later b_w21)
        replace Od := Lib.hid (Od.out.later b_w21)
        replace cx0 := (b_w21.cell (p := ⟨w1.heap.size, 0, none⟩) (by show w1.heap.size < _; omega)).trans cx0
        replace cx1 := (b_w21.cell (p := ⟨w1.heap.size, 1, none⟩) (by show w1.heap.size < _; omega)).trans cx1
        replace cz0 := (b_w21.cell (p := ⟨w7.heap.size, 0, none⟩) (by show w7.heap.size < _; omega)).trans cz0
        replace cz1 := (b_w21.cell (p := ⟨w7.heap.size, 1, none⟩) (by show w7.heap.size < _; omega)).trans cz1
        replace cd0 := (b_w21.cell (p := ⟨w19.heap.size, 0, none⟩) (by show w19.heap.size < _; omega)).trans cd0
        replace cd1 := (b_w21.cell (p := ⟨w19.heap.size, 1, none⟩) (by show w19.heap.size < _; omega)).trans cd1
        replace BA : Hid (Below w.heap.size w w21) := BA.out.trans (b_w21.mono (by omega))
        replace ZA : w.heap.size ≤ w21.heap.size := (by omega)
        replace yx : w1.heap.size < w21.heap.size := (by omega)
        replace yz : w7.heap.size < w21.heap.size := (by omega)
        replace yd : w19.heap.size < w21.heap.size := (by omega)
        replace R0 : Hid (Below w11.heap.size w11 w21) := R0.out.trans (b_w21.mono (by omega))
        clear b_w21
        clear CS CN t4 t5
        go_wp2
        go_roundw
        case rel => first | exact ⟨j + 1, by omega, by go_num, R0.out⟩ | ((repeat apply Exists.intro); refine ⟨?_, rfl⟩; exact ⟨j + 1, by omega, by go_num, R0.out⟩)
        case measure => simp [intOf]; omega
      · have HNB := Lib.hid hnb
        have e0 : ((c : Int) == 0) = false := by rw [beq_eq_false_iff_ne]; omega
        have HAS2 : Hid (xi.contains (j : Int) = false) := by show _ = _; rw [HAS.out]; simp [h0]
        have HDS2 : Hid (sortsR v (xx.eraseIdx j) = true) := by show _ = _; have := HDS.out; rw [HNB.out] at this; revert this; cases sortsR v (xx.eraseIdx j) <;> simp
        clear h0 hnb
        go_wp2_with fail
        refine (has_c _ _ _ xi j wr (OwnI.ints Oi.out) (by omega) (by rw [← HNi.out]; omega)).mono ?_
        rintro e w22 ⟨rfl, b_w22⟩
        have z_w22 := b_w22.size
        replace Ox := Lib.hid (Ox.out.later b_w22)
        replace Ou := Lib.hid (Ou.out.later b_w22)
        replace Oi := Lib.hid (Oi.out.later b_w22)
        replace Oz := Lib.hid (Oz.out.later b_w22)
        replace cx0 := (b_w22.cell (p := ⟨w1.heap.size, 0, none⟩) (by show w1.heap.size < _; omega)).trans cx0
        replace cx1 := (b_w22.cell (p := ⟨w1.heap.size, 1, none⟩) (by show w1.heap.size < _; omega)).trans cx1
        replace cz0 := (b_w22.cell (p := ⟨w7.heap.size, 0, none⟩) (by show w7.heap.size < _; omega)).trans cz0
        replace cz1 := (b_w22.cell (p := ⟨w7.heap.size, 1, none⟩) (by show w7.heap.size < _; omega)).trans cz1
        replace BA : Hid (Below w.heap.size w w22) := BA.out.trans (b_w22.mono (by omega))
        replace ZA : w.heap.size ≤ w22.heap.size := (by omega)
        replace yx : w1.heap.size < w22.heap.size := (by omega)
        replace yz : w7.heap.size < w22.heap.size := (by omega)
        replace R0 : Hid (Below w11.heap.size w11 w22) := R0.out.trans (b_w22.mono (by omega))
        clear b_w22
        rw [HAS2.out]
        go_wp2_with fail
        refine (IsNeeded_yes v _ _ _ usx xx w22 Ox.out (by omega) HOK.out j hjx2).mono ?_
        rintro e w23 ⟨rfl, b_w23⟩
        have z_w23 := b_w23.size
        replace Ox := Lib.hid (Ox.out.later b_w23)
        replace Ou := Lib.hid (Ou.out.later b_w23)
        replace Oi := Lib.hid (Oi.out.later b_w23)
        replace Oz := Lib.hid (Oz.out.later b_w23)
        replace cx0 := (b_w23.cell (p := ⟨w1.heap.size, 0, none⟩) (by show w1.heap.size < _; omega)).trans cx0
        replace cx1 := (b_w23.cell (p := ⟨w1.heap.size, 1, none⟩) (by show w1.heap.size < _; omega)).trans cx1
        replace cz0 := (b_w23.cell (p := ⟨w7.heap.size, 0, none⟩) (by show w7.heap.size < _; omega)).trans cz0
        replace cz1 := (b_w23.cell (p := ⟨w7.heap.size, 1, none⟩) (by show w7.heap.size < _; omega)).trans cz1
        replace BA : Hid (Below w.heap.size w w23) := BA.out.trans (b_w23.mono (by omega))
        replace ZA : w.heap.size ≤ w23.heap.size := (by omega)
        replace yx : w1.heap.size < w23.heap.size := (by omega)
        replace yz : w7.heap.size < w23.heap.size := (by omega)
        replace R0 : Hid (Below w11.heap.size w11 w23) := R0.out.trans (b_w23.mono (by omega))
        clear b_w23
        rw [HNB.out]
        go_wp2_with fail
        refine (DropPair_yes v _ _ _ usx xx w23 Ox.out (by omega) HOK.out j hjx2).mono ?_
        rintro e w24 ⟨qd, usd, rfl, od, b_w24⟩
        obtain ⟨xd, hxd⟩ : ∃ X, X = xx.eraseIdx j := ⟨_, rfl⟩
        rw [← hxd] at od
        have HXd := Lib.hid hxd
        clear hxd
        obtain ⟨aod, gd, capd, ed, -, -, -⟩ := od.rows
        obtain ⟨Ld, hLd⟩ : ∃ L, L = xd.length := ⟨_, rfl⟩
        rw [← hLd] at ed
        subst ed
        have HNd := Lib.hid hLd
        clear hLd
        have z_w24 := b_w24.size
        replace Ox := Lib.hid (Ox.out.later b_w24)
        replace Ou := Lib.hid (Ou.out.later b_w24)
        replace Oi := Lib.hid (Oi.out.later b_w24)
        replace Oz := Lib.hid (Oz.out.later b_w24)
        replace cx0 := (b_w24.cell (p := ⟨w1.heap.size, 0, none⟩) (by show w1.heap.size < _; omega)).trans cx0
        replace cx1 := (b_w24.cell (p := ⟨w1.heap.size, 1, none⟩) (by show w1.heap.size < _; omega)).trans cx1
        replace cz0 := (b_w24.cell (p := ⟨w7.heap.size, 0, none⟩) (by show w7.heap.size < _; omega)).trans cz0
        replace cz1 := (b_w24.cell (p := ⟨w7.heap.size, 1, none⟩) (by show w7.heap.size < _; omega)).trans cz1
        replace BA : Hid (Below w.heap.size w w24) := BA.out.trans (b_w24.mono (by omega))
        replace ZA : w.heap.size ≤ w24.heap.size := (by omega)
        replace yx : w1.heap.size < w24.heap.size := (by omega)
        replace yz : w7.heap.size < w24.heap.size := (by omega)
        replace R0 : Hid (Below w11.heap.size w11 w24) := R0.out.trans (b_w24.mono (by omega))
        clear b_w24
        have Od := Lib.hid od
        clear od
        go_wp2_with fail
        obtain ⟨w25, hWw25, cd0, cd1, hzw25, b_w25, -, -⟩ := box2 w24 (.int .i64 v) (.slice aod Ld capd) 27
        rw [hWw25]
        clear hWw25
        have zz_w25 : w24.heap.size < w25.heap.size := (by omega)
        clear hzw25
        have z_w25 := b_w25.size
        replace Ox := Lib.hid (Ox.out.later b_w25)
        replace Ou := Lib.hid (Ou.out.later b_w25)
        replace Oi := Lib.hid (Oi.out.later b_w25)
        replace Oz := Lib.hid (Oz.out.later b_w25)
        replace Od := Lib.hid (Od.out.later b_w25)
        replace cx0 := (b_w25.cell (p := ⟨w1.heap.size, 0, none⟩) (by show w1.heap.size < _; omega)).trans cx0
        replace cx1 := (b_w25.cell (p := ⟨w1.heap.size, 1, none⟩) (by show w1.heap.size < _; omega)).trans cx1
        replace cz0 := (b_w25.cell (p := ⟨w7.heap.size, 0, none⟩) (by show w7.heap.size < _; omega)).trans cz0
        replace cz1 := (b_w25.cell (p := ⟨w7.heap.size, 1, none⟩) (by show w7.heap.size < _; omega)).trans cz1
        replace BA : Hid (Below w.heap.size w w25) := BA.out.trans (b_w25.mono (by omega))
        replace ZA : w.heap.size ≤ w25.heap.size := (by omega)
        replace yx : w1.heap.size < w25.heap.size := (by omega)
        replace yz : w7.heap.size < w25.heap.size := (by omega)
        replace R0 : Hid (Below w11.heap.size w11 w25) := R0.out.trans (b_w25.mono (by omega))
        clear b_w25
        have yd : w24.heap.size < w25.heap.size := zz_w25
        have hLd : Ld + 1 = Lx := by have := HEL.out; rw [HNd.out, HXd.out]; exact this
        have hLd2 : (Lx : Int) - 1 = (Ld : Int) := by omega
        have t4 : IntKind.i64.wrap ((Lx : Int) - 1) = (Lx : Int) - 1 := IntWalk.i64_in _ (by omega)
        have t5 : ((Ld : Int) != (Lx : Int) - 1) = false := by rw [hLd2]; simp
        have CS : Hid (∀ w', Below w25.heap.size w25 w' → Calls Try.prog 39 #[.agg #[.int .i64 v, .slice aod Ld capd]] w' fun e w'' => e = .returned (.bool true) ∧ Below w'.heap.size w' w'') := fun w' h1 => by
          have := IsSorting_i v _ _ _ usd xd w' (Od.out.below h1 (by omega)) (by have := h1.size; omega)
          rwa [show sortsR (v : Int) xd = true from by rw [HXd.out]; exact HDS2.out] at this
        have CN : Hid (∀ w', Below w25.heap.size w25 w' → Calls Try.prog 56 #[.agg #[.int .i64 v, .slice aox Lx capx], .int .i64 j] w' fun e w'' => e = .returned (.bool false) ∧ Below w'.heap.size w' w'') := fun w' h1 => by
          have := IsNeeded_yes v _ _ _ usx xx w' (Ox.out.below h1 (by omega)) (by have := h1.size; omega) HOK.out j hjx2
          rwa [HNB.out] at this
        clear hLd hLd2
        refine wp_region_later w25.heap.size w25 (by kernel_rfl) (by kernel_rfl) (Below.refl _ _) ?_
        have hLW := LW.cells (B := w25.heap.size) (w0 := w25)
        repeat (go_big_quiet_step ((first | (go_at_call 39; refine LW.call (Nat.le_refl _) (CS.out _ (LW.h _))) | (go_at_call 56; refine LW.call (Nat.le_refl _) (CN.out _ (LW.h _))) | fail)))
        refine wpQuiet_nil ?_
        rintro w26 ⟨⟨w2s, b_w26⟩, rfl⟩
        clear hLW
        have z_w26 := b_w26.size
        replace Ox := Lib.hid (Ox.out.later b_w26)
        replace Ou := Lib.hid (Ou.out.later b_w26)
        replace Oi := Lib.hid (Oi.out.later b_w26)
        replace Oz := Lib.hid (Oz.out.later b_w26)
        replace Od := Lib.hid (Od.out.later b_w26)
        replace cx0 := (b_w26.cell (p := ⟨w1.heap.size, 0, none⟩) (by show w1.heap.size < _; omega)).trans cx0
        replace cx1 := (b_w26.cell (p := ⟨w1.heap.size, 1, none⟩) (by show w1.heap.size < _; omega)).trans cx1
        replace cz0 := (b_w26.cell (p := ⟨w7.heap.size, 0, none⟩) (by show w7.heap.size < _; omega)).trans cz0
        replace cz1 := (b_w26.cell (p := ⟨w7.heap.size, 1, none⟩) (by show w7.heap.size < _; omega)).trans cz1
        replace cd0 := (b_w26.cell (p := ⟨w24.heap.size, 0, none⟩) (by show w24.heap.size < _; omega)).trans cd0
        replace cd1 := (b_w26.cell (p := ⟨w24.heap.size, 1, none⟩) (by show w24.heap.size < _; omega)).trans cd1
        replace BA : Hid (Below w.heap.size w w26) := BA.out.trans (b_w26.mono (by omega))
        replace ZA : w.heap.size ≤ w26.heap.size := (by omega)
        replace yx : w1.heap.size < w26.heap.size := (by omega)
        replace yz : w7.heap.size < w26.heap.size := (by omega)
        replace yd : w24.heap.size < w26.heap.size := (by omega)
        replace R0 : Hid (Below w11.heap.size w11 w26) := R0.out.trans (b_w26.mono (by omega))
        clear b_w26
        clear CS CN t4 t5
        go_wp2
        go_roundw
        case rel => first | exact ⟨j + 1, by omega, by go_num, R0.out⟩ | ((repeat apply Exists.intro); refine ⟨?_, rfl⟩; exact ⟨j + 1, by omega, by go_num, R0.out⟩)
        case measure => simp [intOf]; omega
    · have hlt1 : ¬ (j : Int) < (Lu : Int) := by omega
      clear hlt hj
      clear R0
      obtain ⟨wq, rfl⟩ : ∃ W : World, W = wr := ⟨_, rfl⟩
      go_wp2_with fail
      go_loopw [137] (fun i wr => ∃ j : Nat, j ≤ Lz ∧ i = .int .i64 j ∧ Below wq.heap.size wq wr) (fun i _ => Lz - (intOf i).toNat)
      case atStart => exact ⟨0, Nat.zero_le _, rfl, Below.refl _ _⟩
      case round =>
        obtain ⟨k, hk, rfl, hb⟩ := hrel
        have R0 : Hid (Below wq.heap.size wq wq) := Below.refl _ _
        have z_wr := hb.size
        replace Ox := Lib.hid (Ox.out.later hb)
        replace Ou := Lib.hid (Ou.out.later hb)
        replace Oi := Lib.hid (Oi.out.later hb)
        replace Oz := Lib.hid (Oz.out.later hb)
        replace cx0 := (hb.cell (p := ⟨w1.heap.size, 0, none⟩) (by show w1.heap.size < _; omega)).trans cx0
        replace cx1 := (hb.cell (p := ⟨w1.heap.size, 1, none⟩) (by show w1.heap.size < _; omega)).trans cx1
        replace cz0 := (hb.cell (p := ⟨w7.heap.size, 0, none⟩) (by show w7.heap.size < _; omega)).trans cz0
        replace cz1 := (hb.cell (p := ⟨w7.heap.size, 1, none⟩) (by show w7.heap.size < _; omega)).trans cz1
        replace BA : Hid (Below w.heap.size w wr) := BA.out.trans (hb.mono (by omega))
        replace ZA : w.heap.size ≤ wr.heap.size := (by omega)
        replace yx : w1.heap.size < wr.heap.size := (by omega)
        replace yz : w7.heap.size < wr.heap.size := (by omega)
        replace R0 : Hid (Below wq.heap.size wq wr) := R0.out.trans (hb.mono (by omega))
        clear hb
        by_cases hlt : k < Lz
        · have hlt2 : (k : Int) < (Lz : Int) := by omega
          have hkz : k < xz.length := by rw [← HNz.out]; exact hlt
          go_wp2_with fail
          refine (IsNeeded_yes v _ _ _ usz xz wr Oz.out (by omega) (by rw [HXz.out]; exact sortsR_ok HLF.out.1) k hkz).mono ?_
          rintro e w27 ⟨rfl, b_w27⟩
          rw [show needB (v : Int) xz k = true from lean_need (by rw [HXz.out]; exact HLF.out.2.1) hkz]
          have z_w27 := b_w27.size
          replace Ox := Lib.hid (Ox.out.later b_w27)
          replace Ou := Lib.hid (Ou.out.later b_w27)
          replace Oi := Lib.hid (Oi.out.later b_w27)
          replace Oz := Lib.hid (Oz.out.later b_w27)
          replace cx0 := (b_w27.cell (p := ⟨w1.heap.size, 0, none⟩) (by show w1.heap.size < _; omega)).trans cx0
          replace cx1 := (b_w27.cell (p := ⟨w1.heap.size, 1, none⟩) (by show w1.heap.size < _; omega)).trans cx1
          replace cz0 := (b_w27.cell (p := ⟨w7.heap.size, 0, none⟩) (by show w7.heap.size < _; omega)).trans cz0
          replace cz1 := (b_w27.cell (p := ⟨w7.heap.size, 1, none⟩) (by show w7.heap.size < _; omega)).trans cz1
          replace BA : Hid (Below w.heap.size w w27) := BA.out.trans (b_w27.mono (by omega))
          replace ZA : w.heap.size ≤ w27.heap.size := (by omega)
          replace yx : w1.heap.size < w27.heap.size := (by omega)
          replace yz : w7.heap.size < w27.heap.size := (by omega)
          replace R0 : Hid (Below wq.heap.size wq w27) := R0.out.trans (b_w27.mono (by omega))
          clear b_w27
          go_wp2
          go_roundw
          case rel => first | exact ⟨k + 1, by omega, by go_num, R0.out⟩ | ((repeat apply Exists.intro); refine ⟨?_, rfl⟩; exact ⟨k + 1, by omega, by go_num, R0.out⟩)
          case measure => simp [intOf]; omega
        · have hlt2 : ¬ (k : Int) < (Lz : Int) := by omega
          clear hlt hk
          clear R0
          go_wp2_with fail
          have HLB : Hid (leanB v xx = ((Lz : Int) == (Lx : Int))) := by show _ = _; have := HLF.out.2.2.2; rw [HNz.out, HXz.out, HNx.out]; exact this
          cases hE : ((Lz : Int) == (Lx : Int))
          all_goals
            have CL : Hid (∀ w', Below wr.heap.size wr w' → Calls Try.prog 18 #[.agg #[.int .i64 v, .slice aox Lx capx]] w' fun e w'' => e = .returned (.bool ((Lz : Int) == (Lx : Int))) ∧ Below w'.heap.size w' w'') := fun w' h1 => by
              have := IsLean_i_c v _ _ _ usx xx w' (Ox.out.below h1 (by omega)) (by have := h1.size; omega)
              rwa [HLB.out] at this
            rw [hE] at CL
            refine wp_region_later wr.heap.size wr (by kernel_rfl) (by kernel_rfl) (Below.refl _ _) ?_
            have hLW := LW.cells (B := wr.heap.size) (w0 := wr)
            repeat (go_big_quiet_step (((go_at_call 18; refine LW.call (Nat.le_refl _) (CL.out _ (LW.h _))))))
            refine wpQuiet_nil ?_
            rintro w28 ⟨⟨w2s, b_w28⟩, rfl⟩
            clear hLW
            have z_w28 := b_w28.size
            replace Ox := Lib.hid (Ox.out.later b_w28)
            replace Ou := Lib.hid (Ou.out.later b_w28)
            replace Oi := Lib.hid (Oi.out.later b_w28)
            replace Oz := Lib.hid (Oz.out.later b_w28)
            replace cx0 := (b_w28.cell (p := ⟨w1.heap.size, 0, none⟩) (by show w1.heap.size < _; omega)).trans cx0
            replace cx1 := (b_w28.cell (p := ⟨w1.heap.size, 1, none⟩) (by show w1.heap.size < _; omega)).trans cx1
            replace cz0 := (b_w28.cell (p := ⟨w7.heap.size, 0, none⟩) (by show w7.heap.size < _; omega)).trans cz0
            replace cz1 := (b_w28.cell (p := ⟨w7.heap.size, 1, none⟩) (by show w7.heap.size < _; omega)).trans cz1
            replace BA : Hid (Below w.heap.size w w28) := BA.out.trans (b_w28.mono (by omega))
            replace ZA : w.heap.size ≤ w28.heap.size := (by omega)
            replace yx : w1.heap.size < w28.heap.size := (by omega)
            replace yz : w7.heap.size < w28.heap.size := (by omega)
            clear b_w28
            go_wp2
            go_ret
            exact ⟨rfl, BA.out⟩
end Go.Proofs.Ytgdkihabphihoaa
