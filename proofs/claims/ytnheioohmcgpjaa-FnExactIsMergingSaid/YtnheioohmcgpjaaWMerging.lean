/- Whether a network merges: both functions on all arguments, and the law. Conditions: none. -/
import Derived.Test.YtnheioohmcgpjaaParts
import Derived.Test.YtnheioohmcgpjaaMIsMerging
namespace Go.Proofs.Ytnheioohmcgpjaa
open Go.RowKit
set_option maxRecDepth 100000
set_option linter.unusedVariables false

theorem isPart_c (n : Int) (lo hi : Nat) (v : Value) (vs : List Value) (xss : List (List Int)) (m : Int) (w : World) (hv : OwnR w lo hi v vs xss) (hhi : hi ≤ w.heap.size) :
    Calls Try.prog 90 #[.agg #[.int .i64 n, v], .int .i64 m] w fun e w' => e = .returned (.bool (netOk n xss && inB m 0 n)) ∧ Below w.heap.size w w' := by
  have HC := Lib.hid (NetworkOk_c n lo hi v vs xss)
  obtain ⟨RES, hRES⟩ : ∃ r, r = (netOk n xss && inB m 0 n) := ⟨_, rfl⟩
  rw [← hRES]
  obtain ⟨ao, g, cap, rfl, -, -, -⟩ := hv.rows
  have HV := Lib.hid hv
  obtain ⟨L, hlen⟩ : ∃ l, l = xss.length := ⟨_, rfl⟩
  rw [← hlen] at HV HC ⊢
  clear hv hlen
  have cs : (netOk n xss = false ∧ RES = false) ∨ (netOk n xss = true ∧ ((RES = false ∧ m < 0) ∨ (RES = false ∧ 0 ≤ m ∧ n < m) ∨ (RES = true ∧ 0 ≤ m ∧ m ≤ n))) := by
    rw [hRES]
    cases netOk n xss
    · exact .inl ⟨rfl, rfl⟩
    · refine .inr ⟨rfl, ?_⟩
      by_cases h1 : m < 0
      · exact .inl ⟨by rw [inB_no (Or.inl h1)]; rfl, h1⟩
      · by_cases h2 : n < m
        · exact .inr (.inl ⟨by rw [inB_no (Or.inr h2)]; rfl, by omega, h2⟩)
        · exact .inr (.inr ⟨by rw [inB_mk ⟨by omega, by omega⟩]; rfl, by omega, by omega⟩)
  clear hRES
  rcases cs with ⟨hok, rfl⟩ | ⟨hok, ⟨rfl, h1⟩ | ⟨rfl, h1, h2⟩ | ⟨rfl, h1, h2⟩⟩
  all_goals
    rw [hok] at HC
    clear hok
  · go_enter Try.func90, Try.ntmps90
    go_wp2_with fail
    obtain ⟨W1, hW1, c0, c1, hsz, hB1, -, -⟩ := box2 w (.int .i64 n) (.slice ao L cap) 32
    try rw [hW1]
    clear hW1
    refine (HC.out W1 (HV.out.below hB1 (by omega)) (by omega)).mono ?_
    rintro e w1 ⟨rfl, b1⟩
    go_wp2
    go_ret
    exact ⟨rfl, hB1.trans (b1.mono (by omega))⟩
  all_goals
    have h3 : decide (m ≤ n) = decide (m ≤ n) := rfl
    clear h3
    go_enter Try.func90, Try.ntmps90
    go_wp2_with fail
    obtain ⟨W1, hW1, c0, c1, hsz, hB1, -, -⟩ := box2 w (.int .i64 n) (.slice ao L cap) 32
    try rw [hW1]
    clear hW1
    refine (HC.out W1 (HV.out.below hB1 (by omega)) (by omega)).mono ?_
    rintro e w1 ⟨rfl, b1⟩
    obtain ⟨d0, d1, -⟩ := boxC b1 (by omega) c0 c1
    clear c0 c1
    go_wp2
    go_ret
    exact ⟨by first | rfl | (show Ending.returned (.bool (decide (m ≤ n))) = _; first | rw [decide_eq_false (by omega)] | rw [decide_eq_true (by omega)]), hB1.trans (b1.mono (by omega))⟩
/-- A mask is sorted by the network. -/
def srtB (n : Nat) (xss : List (List Int)) (m : Nat) : Bool := bitsP xss m == srt n m
set_option maxHeartbeats 1000000 in
theorem merging1_c (n : Nat) (lo hi : Nat) (ao : Option Addr) (L cap : Nat) (vs : List Value) (xss : List (List Int)) (k b : Nat) (w : World) (hv : OwnR w lo hi (.slice ao L cap) vs xss) (hhi : hi ≤ w.heap.size) (hok : netOk n xss = true) (hk : k < 2 ^ n)
    (c0 : w.cell? ⟨b, 0, none⟩ = some (.int .i64 n)) (c1 : w.cell? ⟨b, 1, none⟩ = some (.slice ao L cap)) (hbw : b < w.heap.size) :
    Calls Try.prog 92 #[.int .i64 k, .pointer (some ⟨b, 0, none⟩)] w fun e w' => e = .returned (.bool (srtB n xss k)) ∧ Below w.heap.size w w' := by
  have CE : Hid (∀ w, OwnR w lo hi (.slice ao L cap) vs xss → hi ≤ w.heap.size → Calls Try.prog 80 #[.agg #[.int .i64 n, .slice ao L cap], .int .i64 k] w fun e w' => e = .returned (.int .i64 (bitsP xss k : Nat)) ∧ Below w.heap.size w w') := fun w h1 h2 => bits_c n lo hi _ vs xss k w h1 h2 hok hk
  have hn8 : n ≤ 8 := by have := netOk_n hok; omega
  have h256 := pow_le_256 n hn8
  have CS : Hid (∀ w, Calls Try.prog 87 #[.int .i64 n, .int .i64 k] w fun e w' => e = .returned (.int .i64 (srt n k : Nat)) ∧ w = w') := fun w => sorted_c n k w hn8 (by omega) (popc_lt n k hn8 hk)
  obtain ⟨E, hE⟩ : ∃ E, E = bitsP xss k := ⟨_, rfl⟩
  obtain ⟨S, hS⟩ : ∃ S, S = srt n k := ⟨_, rfl⟩
  have hx : ((E : Int) == (S : Int)) = srtB n xss k := by
    rw [srtB, ← hE, ← hS, Bool.eq_iff_iff, beq_iff_eq, beq_iff_eq]
    omega
  obtain ⟨q, hq⟩ : ∃ q, q = srtB n xss k := ⟨_, rfl⟩
  rw [← hq] at hx ⊢
  rw [← hE] at CE
  rw [← hS] at CS
  have HVr := Lib.hid hv
  have hle := hhi
  clear hE hS hq hv hok hk
  go_enter Try.func92, Try.ntmps92
  go_wp2_with fail
  refine wp_region_later w.heap.size w (by kernel_rfl) (by kernel_rfl) (Below.refl _ _) ?_
  have hLW := LW.cells (B := w.heap.size) (w0 := w)
  repeat (go_big_quiet_step ((first | (go_at_call 80; refine LW.call (Nat.le_refl _) (CE.out _ (HVr.out.below (LW.h _) hle) (Nat.le_trans hle (LW.h _).size))) | (go_at_call 87; refine LW.call_same (CS.out _)) | fail)))
  refine wpQuiet_nil ?_
  rintro w2 ⟨⟨w2s, hb2⟩, rfl⟩
  clear hLW
  go_wp2
  go_ret
  exact ⟨rfl, hb2⟩
set_option maxHeartbeats 1000000 in
theorem IsMerging_i_yes (n m : Nat) (lo hi : Nat) (v : Value) (vs : List Value) (xss : List (List Int)) (w : World) (hv : OwnR w lo hi v vs xss) (hhi : hi ≤ w.heap.size) (hok : netOk n xss = true) (hm : m ≤ n) :
    Calls Try.prog 47 #[.agg #[.int .i64 n, v], .int .i64 m] w fun e w' => e = .returned (.bool (mwB n m (srtB n xss))) ∧ Below w.heap.size w w' := by
  have HC : Hid (∀ w, OwnR w lo hi v vs xss → hi ≤ w.heap.size → Calls Try.prog 90 #[.agg #[.int .i64 n, v], .int .i64 m] w fun e w' => e = .returned (.bool true) ∧ Below w.heap.size w w') := fun w h1 h2 => by
    have := isPart_c n lo hi v vs xss m w h1 h2
    rwa [hok, inB_mk (by omega)] at this
  have hn8 : n ≤ 8 := by have := netOk_n hok; omega
  obtain ⟨R, hR⟩ : ∃ R, R = mwB n m (srtB n xss) := ⟨_, rfl⟩
  have HRR := Lib.hid hR
  rw [← hR]
  obtain ⟨ao, g, cap, rfl, -, -, -⟩ := hv.rows
  have HV := Lib.hid hv
  obtain ⟨L, hlen⟩ : ∃ l, l = xss.length := ⟨_, rfl⟩
  rw [← hlen] at HV HC ⊢
  have HOK := Lib.hid hok
  clear hv hlen hok hR
  go_enter Try.func47, Try.ntmps47
  go_wp2_with fail
  obtain ⟨W1, hW1, c0, c1, hsz, hB1, -, -⟩ := box2 w (.int .i64 n) (.slice ao L cap) 32
  try rw [hW1]
  clear hW1
  refine (HC.out W1 (HV.out.below hB1 (by omega)) (by omega)).mono ?_
  rintro e w1 ⟨rfl, b1⟩
  obtain ⟨d0, d1, z1⟩ := boxC b1 (by omega) c0 c1
  have zz := b1.size
  have HVb := Lib.hid ((HV.out.below hB1 (by omega)).below b1 (by omega))
  have HB1 : Hid (Below w.heap.size w w1) := hB1.trans (b1.mono (by omega))
  have hle1 : hi ≤ w1.heap.size := by omega
  clear c0 c1 HV HC hB1 b1 hsz zz
  go_wp2_with fail
  refine (merges_sort_c (srtB n xss) n m lo hi _ vs xss w.heap.size w1 HVb.out hle1 hn8 hm (fun w' hb mask hk => ?_)).mono ?_
  · obtain ⟨e0, e1, hz⟩ := boxC hb z1 d0 d1
    exact merging1_c n lo hi ao L cap vs xss mask w.heap.size w' (HVb.out.below hb hle1) (by have := hb.size; omega) HOK.out hk e0 e1 hz
  rintro e w2 ⟨rfl, b2⟩
  rw [← HRR.out]
  go_wp2
  go_ret
  exact ⟨rfl, HB1.out.trans (b2.mono (by have := HB1.out.size; omega))⟩
theorem IsMerging_i_no (n : Int) (lo hi : Nat) (v : Value) (vs : List Value) (xss : List (List Int)) (m : Int) (w : World) (hv : OwnR w lo hi v vs xss) (hhi : hi ≤ w.heap.size) (hno : (netOk n xss && inB m 0 n) = false) :
    Calls Try.prog 47 #[.agg #[.int .i64 n, v], .int .i64 m] w fun e w' => e = .returned (.bool false) ∧ Below w.heap.size w w' := by
  have HC := Lib.hid (isPart_c n lo hi v vs xss m)
  obtain ⟨ao, g, cap, rfl, -, -, -⟩ := hv.rows
  have HV := Lib.hid hv
  obtain ⟨L, hlen⟩ : ∃ l, l = xss.length := ⟨_, rfl⟩
  rw [← hlen] at HV HC ⊢
  rw [hno] at HC
  clear hv hlen hno
  go_enter Try.func47, Try.ntmps47
  go_wp2_with fail
  obtain ⟨W1, hW1, c0, c1, hsz, hB1, -, -⟩ := box2 w (.int .i64 n) (.slice ao L cap) 32
  try rw [hW1]
  clear hW1
  refine (HC.out W1 (HV.out.below hB1 (by omega)) (by omega)).mono ?_
  rintro e w1 ⟨rfl, b1⟩
  go_wp2
  go_ret
  exact ⟨rfl, hB1.trans (b1.mono (by omega))⟩
set_option maxHeartbeats 2000000 in
theorem IsMerging_s_yes (n : Nat) (lo hi : Nat) (v : Value) (vs : List Value) (xss : List (List Int)) (m : Nat) (w : World) (hv : OwnR w lo hi v vs xss) (hhi : hi ≤ w.heap.size) (hok : netOk n xss = true) (hm : m ≤ n) (f9 : Nat → Bool) (hf9 : f9 = fun k => !partsB n m k || srtB n xss k) :
    Calls Try.prog 46 #[.agg #[.int .i64 n, v], .int .i64 m] w fun e w' => e = .returned (.bool (allB f9 (2 ^ n))) ∧ Below w.heap.size w w' := by
  have HC : Hid (∀ w, OwnR w lo hi v vs xss → hi ≤ w.heap.size → Calls Try.prog 57 #[.agg #[.int .i64 n, v]] w fun e w' => e = .returned (.bool true) ∧ Below w.heap.size w w') := fun w h1 h2 => by
    have := SNetworkOk_c n lo hi v vs xss w h1 h2
    rwa [hok] at this
  have CE0 : Hid (∀ (w : World) (m : Nat), OwnR w lo hi v vs xss → hi ≤ w.heap.size → m < 2 ^ n → Calls Try.prog 67 #[v, .int .i64 m] w fun e w' => e = .returned (.int .i64 (bitsP xss m : Nat)) ∧ Below w.heap.size w w') := fun w m h1 h2 h3 => l03Apply_c n lo hi v vs xss m w h1 h2 hok h3
  have hwire : inB (m : Int) 0 (n : Int) = true := inB_mk (by omega)
  have HP := Lib.hid (fun (m : Nat) (h : m < 2 ^ n) => bitsP_lt' hok h)
  have hn8 : n ≤ 8 := by have := netOk_n hok; omega
  have h256 := pow_le_256 n hn8
  obtain ⟨RES, hRES⟩ : ∃ r, r = allB f9 (2 ^ n) := ⟨_, rfl⟩
  have HRES := Lib.hid hRES
  rw [← hRES]
  clear hRES
  have hlen60 := netOk_len hok
  obtain ⟨ao, g, cap, rfl, -, -, -⟩ := hv.rows
  have HV := Lib.hid hv
  obtain ⟨L, hlen⟩ : ∃ l, l = xss.length := ⟨_, rfl⟩
  rw [← hlen] at HV HC CE0 hlen60 ⊢
  have HLEN := Lib.hid hlen
  obtain ⟨N, hN⟩ : ∃ N, N = 2 ^ n := ⟨_, rfl⟩
  have hwp := wrap_pow n hn8
  rw [← hN] at hwp HP CE0 h256 HRES
  have HN := Lib.hid hN
  clear hv hlen hok hN
  go_enter Try.func46, Try.ntmps46
  go_wp2_with fail
  obtain ⟨W1, hW1, c0, c1, hsz, hB1, -, -⟩ := box2 w (.int .i64 n) (.slice ao L cap) 32
  try rw [hW1]
  clear hW1
  refine (HC.out W1 (HV.out.below hB1 (by omega)) (by omega)).mono ?_
  rintro e w1 ⟨rfl, b1⟩
  obtain ⟨d0, d1, z1⟩ := boxC b1 (by omega) c0 c1
  have zz := b1.size
  have HVb := Lib.hid ((HV.out.below hB1 (by omega)).below b1 (by omega))
  have HB1 : Hid (Below w.heap.size w w1) := hB1.trans (b1.mono (by omega))
  have hle1 : hi ≤ w1.heap.size := by omega
  clear c0 c1 HV HC hB1 b1 hsz zz
  go_wp2_with (go_at_call 62; refine (l01In_c _ _ _ _).mono ?_; rintro e w' ⟨rfl, rfl⟩)
  go_loopw [5] (fun i wr => ∃ k : Nat, k ≤ N ∧ i = .int .i64 k ∧ Hid (allB f9 k = true) ∧ Below w1.heap.size w1 wr) (fun i _ => N - (intOf i).toNat)
  case atStart => exact ⟨0, Nat.zero_le _, rfl, allB_zero _, Below.refl _ _⟩
  case round =>
    obtain ⟨k, hk, rfl, HA, hb⟩ := hrel
    obtain ⟨c0, c1, hzr⟩ := boxC hb z1 d0 d1
    have hzz := hb.size
    have hle : hi ≤ wr.heap.size := by omega
    have HVr := Lib.hid (HVb.out.below hb (by omega))
    have HB := Lib.hid (HB1.out.trans (hb.mono (by omega)))
    have HB2 := Lib.hid hb
    clear d0 d1 hb
    by_cases hlt : k < N
    · obtain ⟨hE1, hE2⟩ := HP.out k hlt
      have CE := Lib.hid (fun w h1 h2 => CE0.out w k h1 h2 hlt)
      obtain ⟨E, hE⟩ : ∃ E, E = bitsP xss k := ⟨_, rfl⟩
      rw [← hE] at CE hE1 hE2
      have HE := Lib.hid hE
      have hp : popc k ≤ n := popc_lt n k hn8 (by rw [← HN.out]; exact hlt)
      have hE256 : E < 256 := by omega
      have hk256 : k < 256 := by omega
      clear hE
      have HSE : Hid (srt n E = srt n k) := by show _ = _; simp only [srt, hE2]
      have CS0 : Hid (∀ w, Calls Try.prog 89 #[.int .i64 n, .int .i64 E] w fun e w' => e = .returned (.bool (decide (E = srt n k))) ∧ w = w') := fun w => by
        rw [← HSE.out]
        exact l03Sorted_c n E w hn8 hE256 (by rw [hE2]; exact hp)
      clear hp
      have HMB : Hid (f9 k = (!partsB n m k || E == srt n k)) := by show _ = _; rw [hf9]; show (!partsB n m k || srtB n xss k) = _; rw [srtB, ← HE.out]
      have CP := Lib.hid (fun w => l08Parts_c n m k w hn8 hm (by rw [← HN.out]; exact hlt))
      cases hc : partsB n m k
      · have HF : Hid (f9 k = true) := by show _ = _; rw [HMB.out, hc]; rfl
        rw [hc] at CP
        have CS : Hid True := trivial
        clear hc
        go_wp2_with fail
        refine wp_region_later wr.heap.size wr (by kernel_rfl) (by kernel_rfl) (Below.refl _ _) ?_
        have hLW := LW.cells (B := wr.heap.size) (w0 := wr)
        repeat (go_big_quiet_step ((first | (go_at_call 88; refine LW.call_same (CP.out _)) | (go_at_call 67; refine LW.call (Nat.le_refl _) (CE.out _ (HVr.out.below (LW.h _) hle) (Nat.le_trans hle (LW.h _).size))) | (go_at_call 89; refine LW.call_same (CS.out _)) | fail)))
        refine wpQuiet_nil ?_
        rintro w2 ⟨⟨w2s, hb2⟩, rfl⟩
        clear hLW
        go_wp2
        go_roundw
        case rel => exact ⟨k + 1, by omega, by go_num, allB_snoc HA.out HF.out, HB2.out.trans (hb2.mono (by omega))⟩
        case measure => simp [intOf]; omega
      · rw [hc] at CP
        by_cases hq : E = srt n k
        · have CS : Hid (∀ w, Calls Try.prog 89 #[.int .i64 n, .int .i64 E] w fun e w' => e = .returned (.bool true) ∧ w = w') := fun w => by have := CS0.out w; rwa [decide_eq_true hq] at this
          have HF : Hid (f9 k = true) := by show _ = _; rw [HMB.out, hq]; simp
          clear hq hc
          go_wp2_with fail
          refine wp_region_later wr.heap.size wr (by kernel_rfl) (by kernel_rfl) (Below.refl _ _) ?_
          have hLW := LW.cells (B := wr.heap.size) (w0 := wr)
          repeat (go_big_quiet_step ((first | (go_at_call 88; refine LW.call_same (CP.out _)) | (go_at_call 67; refine LW.call (Nat.le_refl _) (CE.out _ (HVr.out.below (LW.h _) hle) (Nat.le_trans hle (LW.h _).size))) | (go_at_call 89; refine LW.call_same (CS.out _)) | fail)))
          refine wpQuiet_nil ?_
          rintro w2 ⟨⟨w2s, hb2⟩, rfl⟩
          clear hLW
          go_wp2
          go_roundw
          case rel => exact ⟨k + 1, by omega, by go_num, allB_snoc HA.out HF.out, HB2.out.trans (hb2.mono (by omega))⟩
          case measure => simp [intOf]; omega
        · have CS : Hid (∀ w, Calls Try.prog 89 #[.int .i64 n, .int .i64 E] w fun e w' => e = .returned (.bool false) ∧ w = w') := fun w => by have := CS0.out w; rwa [decide_eq_false hq] at this
          have HNO : Hid (RES = false) := by
            rw [HRES.out]
            refine allB_no hlt ?_
            rw [HMB.out, hc]
            simpa using hq
          clear hq hc
          go_wp2_with fail
          refine wp_region_later wr.heap.size wr (by kernel_rfl) (by kernel_rfl) (Below.refl _ _) ?_
          have hLW := LW.cells (B := wr.heap.size) (w0 := wr)
          repeat (go_big_quiet_step ((first | (go_at_call 88; refine LW.call_same (CP.out _)) | (go_at_call 67; refine LW.call (Nat.le_refl _) (CE.out _ (HVr.out.below (LW.h _) hle) (Nat.le_trans hle (LW.h _).size))) | (go_at_call 89; refine LW.call_same (CS.out _)) | fail)))
          refine wpQuiet_nil ?_
          rintro w2 ⟨⟨w2s, hb2⟩, rfl⟩
          clear hLW
          go_wp2
          go_ret
          exact ⟨by rw [HNO.out]; rfl, HB.out.trans (hb2.mono (by omega))⟩
    · have HE : Hid (RES = true) := by
        show RES = true
        rw [HRES.out, show N = k by omega]
        exact HA.out
      go_wp2
      go_ret
      exact ⟨by rw [HE.out]; rfl, HB.out⟩
set_option maxHeartbeats 1000000 in
theorem IsMerging_s_no (n : Int) (lo hi : Nat) (v : Value) (vs : List Value) (xss : List (List Int)) (k : Int) (w : World) (hv : OwnR w lo hi v vs xss) (hhi : hi ≤ w.heap.size) (hno : netOk n xss = false ∨ (netOk n xss = true ∧ inB k 0 n = false)) :
    Calls Try.prog 46 #[.agg #[.int .i64 n, v], .int .i64 k] w fun e w' => e = .returned (.bool false) ∧ Below w.heap.size w w' := by
  have HC := Lib.hid (SNetworkOk_c n lo hi v vs xss)
  obtain ⟨ao, g, cap, rfl, -, -, -⟩ := hv.rows
  have HV := Lib.hid hv
  obtain ⟨L, hlen⟩ : ∃ l, l = xss.length := ⟨_, rfl⟩
  rw [← hlen] at HV HC ⊢
  have hn8 : netOk n xss = true → 1 ≤ n ∧ n ≤ 8 := netOk_n
  clear hv hlen
  rcases hno with hok | ⟨hok, hbad⟩
  · rw [hok] at HC
    clear hok hn8
    go_enter Try.func46, Try.ntmps46
    go_wp2_with fail
    obtain ⟨W1, hW1, c0, c1, hsz, hB1, -, -⟩ := box2 w (.int .i64 n) (.slice ao L cap) 32
    try rw [hW1]
    clear hW1
    refine (HC.out W1 (HV.out.below hB1 (by omega)) (by omega)).mono ?_
    rintro e w1 ⟨rfl, b1⟩
    go_wp2
    go_ret
    exact ⟨rfl, hB1.trans (b1.mono (by omega))⟩
  · obtain ⟨hn1, hn9⟩ := hn8 hok
    rw [hok] at HC
    clear hok hn8
    all_goals
      go_enter Try.func46, Try.ntmps46
      go_wp2_with fail
      obtain ⟨W1, hW1, c0, c1, hsz, hB1, -, -⟩ := box2 w (.int .i64 n) (.slice ao L cap) 32
      try rw [hW1]
      clear hW1
      refine (HC.out W1 (HV.out.below hB1 (by omega)) (by omega)).mono ?_
      rintro e w1 ⟨rfl, b1⟩
      obtain ⟨d0, d1, z1⟩ := boxC b1 (by omega) c0 c1
      have zz := b1.size
      clear c0 c1
      go_wp2_with (go_at_call 62; refine (l01In_c _ _ _ _).mono ?_; rintro e w' ⟨rfl, rfl⟩)
      go_ret
      exact ⟨rfl, hB1.trans (b1.mono (by omega))⟩
/-- Whether a network merges its first m wires and the others. -/
def mergingR (n : Int) (xss : List (List Int)) (m : Int) : Bool := (netOk n xss && inB m 0 n) && mwB n.toNat m.toNat (srtB n.toNat xss)
theorem IsMerging_i_c (n : Int) (lo hi : Nat) (v : Value) (vs : List Value) (xss : List (List Int)) (k : Int) (w : World) (hv : OwnR w lo hi v vs xss) (hhi : hi ≤ w.heap.size) :
    Calls Try.prog 47 #[.agg #[.int .i64 n, v], .int .i64 k] w fun e w' => e = .returned (.bool (mergingR n xss k)) ∧ Below w.heap.size w w' := by
  cases h : (netOk n xss && inB k 0 n)
  · rw [show mergingR n xss k = false by simp only [mergingR, h]; rfl]
    exact IsMerging_i_no n lo hi v vs xss k w hv hhi h
  · have hh := h
    rw [Bool.and_eq_true] at hh
    have h1 := netOk_n hh.1
    have h2 := inB_of hh.2
    obtain ⟨a, rfl⟩ : ∃ a : Nat, n = a := ⟨n.toNat, by omega⟩
    obtain ⟨b, rfl⟩ : ∃ b : Nat, k = b := ⟨k.toNat, by omega⟩
    rw [show mergingR a xss b = mwB a b (srtB a xss) by simp only [mergingR, h, Int.toNat_natCast]; rfl]
    exact IsMerging_i_yes a b lo hi v vs xss w hv hhi hh.1 (by omega)
theorem IsMerging_s_c (n : Int) (lo hi : Nat) (v : Value) (vs : List Value) (xss : List (List Int)) (k : Int) (w : World) (hv : OwnR w lo hi v vs xss) (hhi : hi ≤ w.heap.size) :
    Calls Try.prog 46 #[.agg #[.int .i64 n, v], .int .i64 k] w fun e w' => e = .returned (.bool (mergingR n xss k)) ∧ Below w.heap.size w w' := by
  cases hok : netOk n xss
  · rw [show mergingR n xss k = false by simp [mergingR, hok]]
    exact IsMerging_s_no n lo hi v vs xss k w hv hhi (.inl hok)
  · cases hk : inB k 0 n
    · rw [show mergingR n xss k = false by simp [mergingR, hk]]
      exact IsMerging_s_no n lo hi v vs xss k w hv hhi (.inr ⟨hok, hk⟩)
    · have h1 := netOk_n hok
      have h2 := inB_of hk
      obtain ⟨a, rfl⟩ : ∃ a : Nat, n = a := ⟨n.toNat, by omega⟩
      obtain ⟨b, rfl⟩ : ∃ b : Nat, k = b := ⟨k.toNat, by omega⟩
      rw [show mergingR a xss b = allB (fun k => !partsB a b k || srtB a xss k) (2 ^ a) by rw [mwB_eq a b (srtB a xss) (by omega) (by omega)]; simp only [mergingR, hok, hk, Int.toNat_natCast]; rfl]
      exact IsMerging_s_yes a lo hi v vs xss b w hv hhi hok (by omega) _ rfl
theorem fnExactIsMerging_walk (w : World) (a0 : Int) (u0 : Value) (us0 : List Value) (x0 : List (List Int)) (hu : RowsV w 0 w.heap.size u0 us0 x0) (hm : x0.length ≤ maxLen) (hn : ∀ xs ∈ x0, xs.length ≤ maxLen) (a1 : Int) (_w1 : (Lit.int .i64 a1).wf = true) :
    Calls Try.prog 14 #[.agg #[.int .i64 a0, u0], .int .i64 a1] w fun e w' => e = .returned (.bool true) ∧ Below w.heap.size w w' :=
  FnExactIsMerging_core w a0 u0 us0 x0 hu hm hn a1 (mergingR a0 x0 a1) (fun w l h v vs hv hh _ => IsMerging_s_c a0 l h v vs x0 a1 w hv hh) (fun w l h v vs hv hh _ => IsMerging_i_c a0 l h v vs x0 a1 w hv hh)
end Go.Proofs.Ytnheioohmcgpjaa
