/- The faults that some tests find: both functions on all arguments, and the law. Conditions: none. -/
import Derived.Test.YtiodolbgapjmkaaFaults
import Derived.Test.YtiodolbgapjmkaaWFaultyC
import Derived.Test.YtiodolbgapjmkaaInts
import Derived.Test.YtiodolbgapjmkaaNetC
namespace Go.Proofs.Ytiodolbgapjmkaa
open Go.RowKit
set_option maxRecDepth 100000
set_option linter.unusedVariables false

theorem fltB_mk2 {n : Nat} {xss : List (List Int)} (h : netOk n xss = true) {i k : Nat} (hi : i < xss.length) (hk : k ≤ 2) : fltB n xss i k = true := by
  simp only [fltB, h, Bool.true_and, Bool.and_eq_true]
  exact ⟨inB_mk (by omega), inB_mk (by omega)⟩
/-- All tests are masks. -/
def okT (n : Nat) (ts : List Int) : Bool := ts.all fun m => inB m 0 ((2 ^ n : Nat) - 1)
theorem okT_get {n : Nat} {ts : List Int} (h : okT n ts = true) {j : Nat} (hj : j < ts.length) : ∃ m : Nat, ts.getD j 0 = m ∧ m < 2 ^ n := by
  rw [okT, List.all_eq_true] at h
  have h2 := inB_of (h (ts.getD j 0) (by simp [List.getD, List.getElem?_eq_getElem hj]))
  have h3 : 0 < 2 ^ n := Nat.pow_pos (by omega)
  exact ⟨(ts.getD j 0).toNat, by omega, by omega⟩
theorem okT_snoc {n : Nat} {ts : List Int} {j : Nat} (hj : j < ts.length) (h : okT n (ts.take j) = true) (h2 : inB (ts.getD j 0) 0 ((2 ^ n : Nat) - 1) = true) : okT n (ts.take (j + 1)) = true := by
  rw [okT, take_snoc_getD 0 hj, List.all_append, Bool.and_eq_true]
  exact ⟨h, by simpa only [List.all_cons, List.all_nil, Bool.and_true] using h2⟩
theorem okT_no {n : Nat} {ts : List Int} {j : Nat} (hj : j < ts.length) (h2 : inB (ts.getD j 0) 0 ((2 ^ n : Nat) - 1) = false) : okT n ts = false := by
  rw [okT, List.all_eq_false]
  exact ⟨ts.getD j 0, by simp [List.getD, List.getElem?_eq_getElem hj], fun h => by rw [h2] at h; cases h⟩
/-- Some test finds the fault. -/
def anyT (xss : List (List Int)) (ts : List Int) (i k : Nat) : Bool := ts.any fun m => findB xss i k m.toNat
theorem anyT_snoc {xss : List (List Int)} {ts : List Int} {i k j : Nat} (hj : j < ts.length) : anyT xss (ts.take (j + 1)) i k = (anyT xss (ts.take j) i k || findB xss i k (ts.getD j 0).toNat) := by
  rw [anyT, take_snoc_getD 0 hj, List.any_append]
  simp [anyT]
theorem anyT_yes {xss : List (List Int)} {ts : List Int} {i k j : Nat} (hj : j < ts.length) (h : findB xss i k (ts.getD j 0).toNat = true) : anyT xss ts i k = true := by
  rw [anyT, List.any_eq_true]
  exact ⟨ts.getD j 0, by simp [List.getD, List.getElem?_eq_getElem hj], h⟩
set_option maxHeartbeats 1000000 in
theorem found1_c (n : Nat) (lo hi : Nat) (ao : Option Addr) (L cap : Nat) (vs : List Value) (xss : List (List Int)) (lo2 hi2 : Nat) (ao2 : Option Addr) (cap2 : Nat) (ts : List Int) (i k b b2 : Nat) (w : World) (hv : OwnR w lo hi (.slice ao L cap) vs xss) (hhi : hi ≤ w.heap.size) (hok : netOk n xss = true) (hi3 : i < xss.length) (hk : k ≤ 2)
    (ht : OwnI w lo2 hi2 (.slice ao2 ts.length cap2) ts) (hh2 : hi2 ≤ w.heap.size) (hts : okT n ts = true) (hlt : ts.length ≤ 1048576)
    (c0 : w.cell? ⟨b, 0, none⟩ = some (.int .i64 n)) (c1 : w.cell? ⟨b, 1, none⟩ = some (.slice ao L cap)) (hbw : b < w.heap.size) (c2 : w.cell? ⟨b2, 0, none⟩ = some (.slice ao2 ts.length cap2)) (hbw2 : b2 < w.heap.size) :
    Calls Try.prog 101 #[.int .i64 i, .int .i64 k, .pointer (some ⟨b2, 0, none⟩), .pointer (some ⟨b, 0, none⟩)] w fun e w' => e = .returned (.bool (anyT xss ts i k)) ∧ Below w.heap.size w w' := by
  have hkd : (k : Int) = 0 ∨ (k : Int) = 1 ∨ (k : Int) = 2 := by omega
  have CE0 : Hid (∀ (w : World) (m : Nat), OwnR w lo hi (.slice ao L cap) vs xss → hi ≤ w.heap.size → m < 2 ^ n → Calls Try.prog 99 #[.agg #[.int .i64 n, .slice ao L cap], .int .i64 i, .int .i64 k, .int .i64 m] w fun e w' => e = .returned (.bool (findB xss i k m)) ∧ Below w.heap.size w w') := fun w m h1 h2 h3 => finds_c n lo hi _ vs xss i k m w h1 h2 hok h3 hkd
  have HT := Lib.hid ht
  have HV := Lib.hid hv
  have HG := Lib.hid (fun (j : Nat) (h : j < ts.length) => okT_get hts h)
  obtain ⟨ao3, g, cap3, e, hcap, hao, hc⟩ := ht.view
  cases e
  have HC := Lib.hid hc
  obtain ⟨RES, hRES⟩ : ∃ r, r = anyT xss ts i k := ⟨_, rfl⟩
  have HRES := Lib.hid hRES
  rw [← hRES]
  obtain ⟨T, hT⟩ : ∃ T, T = ts.length := ⟨_, rfl⟩
  have HTL := Lib.hid hT
  rw [← hT] at hcap hao c2 HG HC hlt
  clear hRES hT hv ht hc hts hok hkd
  go_enter Try.func101, Try.ntmps101
  go_wp2_with fail
  go_loopw [11] (fun t wr => ∃ j : Nat, j ≤ T ∧ t = .int .i64 j ∧ Hid (anyT xss (ts.take j) i k = false) ∧ Below w.heap.size w wr) (fun t _ => T - (intOf t).toNat)
  case atStart => exact ⟨0, Nat.zero_le _, rfl, rfl, Below.refl _ _⟩
  case round =>
    obtain ⟨j, hj, rfl, HA, hb⟩ := hrel
    have HB := Lib.hid hb
    by_cases hj3 : j < T
    · obtain ⟨m, hm1, hm2⟩ := HG.out j hj3
      obtain ⟨rfl, q1, q2⟩ := hao (by omega)
      have r1 := (HC.out j (by have := HTL.out; omega)).1
      rw [hm1] at r1
      have f1 : wr.cell? ⟨g, j, none⟩ = some (.int .i64 m) := (hb.cell (p := ⟨g, j, none⟩) (by show g < _; omega)).trans r1
      obtain ⟨e0, e1, hz⟩ := boxC hb hbw c0 c1
      have e2 := (hb.cell (p := ⟨b2, 0, none⟩) (by show b2 < _; omega)).trans c2
      have HS := Lib.hid (anyT_snoc (xss := xss) (ts := ts) (i := i) (k := k) (j := j) (by have := HTL.out; omega))
      have HVr := Lib.hid (HV.out.below hb hhi)
      have hle : hi ≤ wr.heap.size := by have := hb.size; omega
      have CE := Lib.hid (fun w h1 h2 => CE0.out w m h1 h2 hm2)
      have hmN : (m : Int).toNat = m := Int.toNat_natCast m
      have HM := Lib.hid hm1
      clear r1 hb hm1 hm2
      cases hq : findB xss i k m
      · have HF : Hid (anyT xss (ts.take (j + 1)) i k = false) := by show _ = _; rw [HS.out, HA.out, HM.out, hmN, hq]; rfl
        rw [hq] at CE
        clear hq hmN c0 c1 c2
        go_wp2_with fail
        refine (CE.out wr HVr.out hle).mono ?_
        rintro e w2 ⟨rfl, b2⟩
        go_wp2
        go_roundw
        case rel => exact ⟨j + 1, by omega, by go_num, HF, HB.out.trans (b2.mono (by have := HB.out.size; omega))⟩
        case measure => simp [intOf]; omega
      · have HY : Hid (RES = true) := by show _ = _; rw [HRES.out]; exact anyT_yes (j := j) (by have := HTL.out; omega) (by rw [HM.out, hmN]; exact hq)
        rw [hq] at CE
        clear hq hmN c0 c1 c2
        go_wp2_with fail
        refine (CE.out wr HVr.out hle).mono ?_
        rintro e w2 ⟨rfl, b2⟩
        go_wp2
        go_ret
        exact ⟨by rw [HY.out]; rfl, HB.out.trans (b2.mono (by have := HB.out.size; omega))⟩
    · have HNO : Hid (RES = false) := by
        have h := HA.out
        rw [List.take_of_length_le (by have := HTL.out; omega)] at h
        show RES = false
        rw [HRES.out]
        exact h
      clear hb
      go_wp2
      go_ret
      exact ⟨by rw [HNO.out]; rfl, HB.out⟩
set_option maxHeartbeats 4000000 in
theorem FoundBy_i_yes (n : Nat) (lo hi : Nat) (v : Value) (vs : List Value) (xss : List (List Int)) (lo2 hi2 : Nat) (v2 : Value) (ts : List Int) (w : World) (hv : OwnR w lo hi v vs xss) (hhi : hi ≤ w.heap.size) (ht : OwnI w lo2 hi2 v2 ts) (hh2 : hi2 ≤ w.heap.size) (hlt9 : ts.length ≤ 1048576) (hok : netOk n xss = true) :
    Calls Try.prog 21 #[.agg #[.int .i64 n, v], v2] w (RowC w (if okT n ts = true then faultsL (anyT xss ts) xss.length else [])) := by
  have HC : Hid (∀ w, OwnR w lo hi v vs xss → hi ≤ w.heap.size → Calls Try.prog 94 #[.agg #[.int .i64 n, v]] w fun e w' => e = .returned (.bool true) ∧ Below w.heap.size w w') := fun w h1 h2 => by
    have := NetworkOk_c n lo hi v vs xss w h1 h2
    rwa [hok] at this
  have hl60 := netOk_len hok
  have hn8 : n ≤ 8 := by have := netOk_n hok; omega
  obtain ⟨R, hR⟩ : ∃ R, R = if okT n ts = true then faultsL (anyT xss ts) xss.length else [] := ⟨_, rfl⟩
  have HRR := Lib.hid hR
  rw [← hR]
  have HT := Lib.hid ht
  obtain ⟨ao2, g2, cap2, e, hcap, hao, hc⟩ := ht.view
  subst e
  have HCT := Lib.hid hc
  obtain ⟨T, hT⟩ : ∃ T, T = ts.length := ⟨_, rfl⟩
  have HTL := Lib.hid hT
  rw [← hT] at hcap hao hlt9 HT ⊢
  obtain ⟨ao, g, cap, rfl, -, -, -⟩ := hv.rows
  have HV := Lib.hid hv
  obtain ⟨L, hlen⟩ : ∃ l, l = xss.length := ⟨_, rfl⟩
  have HLEN := Lib.hid hlen
  rw [← hlen] at HV HC hl60 HRR ⊢
  have HOK := Lib.hid hok
  clear hv hlen hok hR hT hc ht
  go_enter Try.func21, Try.ntmps21
  go_wp2_with fail
  obtain ⟨W0, hW0, c0, c1, hsz0, hB0, -, -⟩ := box2 w (.int .i64 n) (.slice ao L cap) 30
  have hb9 := blk_new W0 (.cells #[.slice ao2 T cap2] 22)
  obtain ⟨W1, hW1⟩ : ∃ W, W = W0.alloc (.cells #[.slice ao2 T cap2] 22) := ⟨_, rfl⟩
  have hBa : Below W0.heap.size W0 W1 := by rw [hW1]; exact (Below.refl _ _).alloc (Nat.le_refl _) _
  have hs1 : W1.heap.size = W0.heap.size + 1 := by rw [hW1]; simp
  rw [← hW1] at hb9
  have c2 : W1.cell? ⟨W0.heap.size, 0, none⟩ = some (.slice ao2 T cap2) := blk_cell hb9 0
  obtain ⟨c0, c1, hz0⟩ := boxC hBa (by omega) c0 c1
  have hB1 : Below w.heap.size w W1 := hB0.trans (hBa.mono (by omega))
  have hsz : W1.heap.size = w.heap.size + 2 := by omega
  rw [hsz0] at c2
  try rw [hW0, ← hW1]
  clear hW0 hW1 hb9 hBa hs1 hsz0 hB0 hz0
  refine (HC.out W1 (HV.out.below hB1 (by omega)) (by omega)).mono ?_
  rintro e w1 ⟨rfl, b1⟩
  have zz := b1.size
  obtain ⟨d0, d1, z1⟩ := boxC b1 (by omega) c0 c1
  have d2 := (b1.cell (p := ⟨w.heap.size + 1, 0, none⟩) (by show w.heap.size + 1 < _; omega)).trans c2
  have HVb := Lib.hid ((HV.out.below hB1 (by omega)).below b1 (by omega))
  have HTb := Lib.hid (Own.below (Own.below HT.out hB1 hh2) b1 (by omega))
  have HB1 : Hid (Below w.heap.size w w1) := hB1.trans (b1.mono (by omega))
  have hle1 : hi ≤ w1.heap.size := by omega
  have hle2 : hi2 ≤ w1.heap.size := by omega
  have z2 : w.heap.size + 1 < w1.heap.size := by omega
  replace HCT : Hid (∀ i, i < ts.length → w1.cell? ⟨g2, i, none⟩ = some (.int .i64 (ts.getD i 0)) ∧ w1.frozen? ⟨g2, i, none⟩ = false) := fun i hi9 => by
    obtain ⟨ao5, g5, cap5, e5, h5, h6, h7⟩ := (OwnI.view HTb.out)
    cases e5
    have h8 := h6 (by omega)
    obtain ⟨rfl, -, -⟩ := hao (by have := HTL.out; omega)
    have h9 := h8.1
    cases h9
    exact h7 i hi9
  clear c0 c1 c2 HV HC hB1 b1 hsz zz HT
  go_wp2_with fail
  go_loopw [12] (fun t wr => ∃ j : Nat, j ≤ T ∧ t = .int .i64 j ∧ Hid (okT n (ts.take j) = true) ∧ Below w1.heap.size w1 wr) (fun t _ => T - (intOf t).toNat)
  case atStart => exact ⟨0, Nat.zero_le _, rfl, rfl, Below.refl _ _⟩
  obtain ⟨j, hj, rfl, HA, hb⟩ := hrel
  have HB0 := Lib.hid hb
  by_cases hj3 : j < T
  · obtain ⟨m, hm⟩ : ∃ m, m = ts.getD j 0 := ⟨_, rfl⟩
    obtain ⟨rfl, q1, q2⟩ := hao (by omega)
    have r1 := (HCT.out j (by have := HTL.out; omega)).1
    rw [← hm] at r1
    have f1 : wr.cell? ⟨g2, j, none⟩ = some (.int .i64 m) := (hb.cell (p := ⟨g2, j, none⟩) (by show g2 < _; omega)).trans r1
    obtain ⟨e0, e1, hz⟩ := boxC hb z1 d0 d1
    have HM := Lib.hid hm
    clear r1 hb hm
    by_cases hq : inB m 0 ((2 ^ n : Nat) - 1) = true
    · have HF : Hid (okT n (ts.take (j + 1)) = true) := okT_snoc (by have := HTL.out; omega) HA.out (by rw [← HM.out]; exact hq)
      have t1 : inB m 0 ((2 : Int) ^ n - 1) = true := by rw [(mask_tests n hn8).1]; exact hq
      have t2 : inB m 0 (wrap64 (wrap64 (2 ^ n) - 1)) = true := by rw [(mask_tests n hn8).2]; exact hq
      clear hq
      go_wp2_with (go_at_call 100; refine (isMask_c _ _ _ (by omega)).mono ?_; rintro e w' ⟨rfl, rfl⟩)
      go_roundw
      case rel => exact ⟨j + 1, by omega, by go_num, HF, HB0.out⟩
      case measure => simp [intOf]; omega
    · have HNO : Hid (okT n ts = false) := okT_no (j := j) (by have := HTL.out; omega) (by rw [← HM.out]; exact Bool.eq_false_iff.2 hq)
      have t1 : inB m 0 ((2 : Int) ^ n - 1) = false := by rw [(mask_tests n hn8).1]; exact Bool.eq_false_iff.2 hq
      have t2 : inB m 0 (wrap64 (wrap64 (2 ^ n) - 1)) = false := by rw [(mask_tests n hn8).2]; exact Bool.eq_false_iff.2 hq
      clear hq
      go_wp2_with (go_at_call 100; refine (isMask_c _ _ _ (by omega)).mono ?_; rintro e w' ⟨rfl, rfl⟩)
      go_ret
      exact ⟨_, [], rfl, by rw [HRR.out, if_neg (by rw [HNO.out]; simp)]; exact OwnR.nil _ _ _, HB1.out.trans (HB0.out.mono (by have := HB1.out.size; omega))⟩
  have HOKT : Hid (okT n ts = true) := by
    have h := HA.out
    rw [List.take_of_length_le (by have := HTL.out; omega)] at h
    exact h
  have hb := HB0.out
  obtain ⟨e0, e1, hz⟩ := boxC hb z1 d0 d1
  have e2 := (hb.cell (p := ⟨w.heap.size + 1, 0, none⟩) (by show w.heap.size + 1 < _; omega)).trans d2
  have HVc := Lib.hid (HVb.out.below hb hle1)
  have HTc := Lib.hid (Own.below HTb.out hb hle2)
  have hz9 := hb.size
  clear hb d0 d1 d2 hj HA
  go_wp2_with fail
  refine (faults_found_c (anyT xss ts) n lo hi _ vs xss (w.heap.size + 1) w.heap.size wr HVc.out (by omega) (by rw [← HLEN.out]; omega) (fun w' hb i k hi3 hk => ?_)).mono ?_
  · obtain ⟨f0, f1, hz8⟩ := boxC hb hz e0 e1
    have f2 := (hb.cell (p := ⟨w.heap.size + 1, 0, none⟩) (by show w.heap.size + 1 < _; omega)).trans e2
    exact found1_c n lo hi ao L cap vs xss lo2 hi2 ao2 cap2 ts i k w.heap.size (w.heap.size + 1) w' (HVc.out.below hb (by omega)) (by have := hb.size; omega) HOK.out hi3 hk (by have h := Own.below HTc.out hb (by omega : hi2 ≤ wr.heap.size); rwa [HTL.out] at h) (by have := hb.size; omega) HOKT.out (by rw [← HTL.out]; exact hlt9) f0 f1 hz8 (by rw [← HTL.out]; exact f2) (by have := hb.size; omega)
  rintro e w2 ⟨u, us, rfl, o2, b2⟩
  have O2 := Lib.hid o2
  have zw2 := b2.size
  obtain ⟨ao5, g5, cap5, e5, -, -, -⟩ := o2.rows
  obtain ⟨rl, hrl⟩ : ∃ r, r = (faultsL (anyT xss ts) xss.length).length := ⟨_, rfl⟩
  rw [← hrl] at e5
  subst e5
  clear o2 hrl
  go_wp2
  go_ret
  exact ⟨_, us, rfl, by rw [HRR.out, if_pos HOKT.out, HLEN.out]; exact O2.out.mono (by omega) (Nat.le_refl _), HB1.out.trans ((HB0.out.trans (b2.mono (by omega))).mono (by have := HB1.out.size; omega))⟩
/-- The faults that some tests find. -/
def foundR (n : Int) (xss : List (List Int)) (ts : List Int) : List (List Int) := if netOk n xss = true then (if okT n.toNat ts = true then faultsL (anyT xss ts) xss.length else []) else []
theorem foundR_small (n : Int) (xss : List (List Int)) (ts : List Int) : smallR (foundR n xss ts) := by
  unfold foundR
  split
  · rename_i h
    have := netOk_len h
    split
    · exact smallR_pairs (by have := faultsL_le (anyT xss ts) xss.length; omega) (fun xs hx => by have := faultsL_two _ _ xs hx; omega)
    · exact smallR_pairs (by simp) (by simp)
  · exact smallR_pairs (by simp) (by simp)
theorem FoundBy_i_no (n : Int) (lo hi : Nat) (v : Value) (vs : List Value) (xss : List (List Int)) (lo2 hi2 : Nat) (v2 : Value) (ts : List Int) (w : World) (ht : OwnI w lo2 hi2 v2 ts) (hv : OwnR w lo hi v vs xss) (hhi : hi ≤ w.heap.size) (hno : netOk n xss = false) :
    Calls Try.prog 21 #[.agg #[.int .i64 n, v], v2] w (RowC w []) := by
  have HC := Lib.hid (NetworkOk_c n lo hi v vs xss)
  obtain ⟨ao, g, cap, rfl, -, -, -⟩ := hv.rows
  have HV := Lib.hid hv
  obtain ⟨ao2, g2, cap2, e2, -, -, -⟩ := ht.view
  subst e2
  obtain ⟨T, hT⟩ : ∃ T, T = ts.length := ⟨_, rfl⟩
  rw [← hT]
  clear hT ht
  obtain ⟨L, hlen⟩ : ∃ l, l = xss.length := ⟨_, rfl⟩
  rw [← hlen] at HV HC ⊢
  rw [hno] at HC
  clear hv hlen hno
  go_enter Try.func21, Try.ntmps21
  go_wp2_with fail
  obtain ⟨W0, hW0, c0, c1, hsz0, hB0, -, -⟩ := box2 w (.int .i64 n) (.slice ao L cap) 30
  have hb9 := blk_new W0 (.cells #[.slice ao2 T cap2] 22)
  obtain ⟨W1, hW1⟩ : ∃ W, W = W0.alloc (.cells #[.slice ao2 T cap2] 22) := ⟨_, rfl⟩
  have hBa : Below W0.heap.size W0 W1 := by rw [hW1]; exact (Below.refl _ _).alloc (Nat.le_refl _) _
  have hs1 : W1.heap.size = W0.heap.size + 1 := by rw [hW1]; simp
  rw [← hW1] at hb9
  have c2 : W1.cell? ⟨W0.heap.size, 0, none⟩ = some (.slice ao2 T cap2) := blk_cell hb9 0
  obtain ⟨c0, c1, hz0⟩ := boxC hBa (by omega) c0 c1
  have hB1 : Below w.heap.size w W1 := hB0.trans (hBa.mono (by omega))
  have hsz : W1.heap.size = w.heap.size + 2 := by omega
  rw [hsz0] at c2
  try rw [hW0, ← hW1]
  clear hW0 hW1 hb9 hBa hs1 hsz0 hB0 hz0
  refine (HC.out W1 (HV.out.below hB1 (by omega)) (by omega)).mono ?_
  rintro e w1 ⟨rfl, b1⟩
  go_wp2
  go_ret
  exact ⟨_, [], rfl, OwnR.nil _ _ _, hB1.trans (b1.mono (by omega))⟩
theorem FoundBy_i_c (n : Int) (lo hi : Nat) (v : Value) (vs : List Value) (xss : List (List Int)) (lo2 hi2 : Nat) (v2 : Value) (ts : List Int) (w : World) (hv : OwnR w lo hi v vs xss) (hhi : hi ≤ w.heap.size) (ht : OwnI w lo2 hi2 v2 ts) (hh2 : hi2 ≤ w.heap.size) (hl : ts.length ≤ 1048576) :
    Calls Try.prog 21 #[.agg #[.int .i64 n, v], v2] w (RowC w (foundR n xss ts)) := by
  cases hok : netOk n xss
  · rw [show foundR n xss ts = [] by simp [foundR, hok]]
    exact FoundBy_i_no n lo hi v vs xss lo2 hi2 v2 ts w ht hv hhi hok
  · have h1 := netOk_n hok
    obtain ⟨a, rfl⟩ : ∃ a : Nat, n = a := ⟨n.toNat, by omega⟩
    rw [show foundR a xss ts = if okT a ts = true then faultsL (anyT xss ts) xss.length else [] by simp [foundR, hok]]
    exact FoundBy_i_yes a lo hi v vs xss lo2 hi2 v2 ts w hv hhi ht hh2 hl hok
end Go.Proofs.Ytiodolbgapjmkaa
