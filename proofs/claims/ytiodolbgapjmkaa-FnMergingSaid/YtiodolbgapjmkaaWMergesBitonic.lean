/- Whether a network merges what rises and falls: both functions on all arguments, and the law. Conditions: none. -/
import Derived.Test.YtiodolbgapjmkaaBitsC
import Derived.Test.YtiodolbgapjmkaaMaskL
import Derived.Test.YtiodolbgapjmkaaWBitM
namespace Go.Proofs.Ytiodolbgapjmkaa
open Go.RowKit
set_option maxRecDepth 100000
set_option linter.unusedVariables false

/-- A mask that rises and falls is sorted. -/
def mbB (n : Nat) (xss : List (List Int)) (m : Nat) : Bool := !decide (chgs m n ≤ 2) || bitsP xss m == srt n m
set_option maxHeartbeats 2000000 in
theorem MergesBitonic_i_yes (n : Nat) (lo hi : Nat) (v : Value) (vs : List Value) (xss : List (List Int)) (w : World) (hv : OwnR w lo hi v vs xss) (hhi : hi ≤ w.heap.size) (hok : netOk n xss = true) :
    Calls Try.prog 44 #[.agg #[.int .i64 n, v]] w fun e w' => e = .returned (.bool (allB (mbB n xss) (2 ^ n))) ∧ Below w.heap.size w w' := by
  have HC : Hid (∀ w, OwnR w lo hi v vs xss → hi ≤ w.heap.size → Calls Try.prog 94 #[.agg #[.int .i64 n, v]] w fun e w' => e = .returned (.bool true) ∧ Below w.heap.size w w') := fun w h1 h2 => by
    have := NetworkOk_c n lo hi v vs xss w h1 h2
    rwa [hok] at this
  have CE0 : Hid (∀ (w : World) (m : Nat), OwnR w lo hi v vs xss → hi ≤ w.heap.size → m < 2 ^ n → Calls Try.prog 116 #[.agg #[.int .i64 n, v], .int .i64 m] w fun e w' => e = .returned (.int .i64 (bitsP xss m : Nat)) ∧ Below w.heap.size w w') := fun w m h1 h2 h3 => bits_c n lo hi v vs xss m w h1 h2 hok h3
  have hn1 : 1 ≤ n := by have := netOk_n hok; omega
  have HP := Lib.hid (fun (m : Nat) (h : m < 2 ^ n) => bitsP_lt' hok h)
  have hn8 : n ≤ 8 := by have := netOk_n hok; omega
  have h256 := pow_le_256 n hn8
  obtain ⟨RES, hRES⟩ : ∃ r, r = allB (mbB n xss) (2 ^ n) := ⟨_, rfl⟩
  have HRES := Lib.hid hRES
  rw [← hRES]
  clear hRES
  have hlen60 := netOk_len hok
  obtain ⟨ao, g, cap, rfl, -, -, -⟩ := hv.rows
  have HV := Lib.hid hv
  obtain ⟨L, hlen⟩ : ∃ l, l = xss.length := ⟨_, rfl⟩
  rw [← hlen] at HV HC CE0 hlen60 ⊢
  have HLEN := Lib.hid hlen
  obtain ⟨N, hN⟩ : ∃ N, N = 2 ^ n := ⟨_, rfl⟩
  have hwp := wrap_pow n hn8
  rw [← hN] at hwp HP CE0 h256 HRES
  have HN := Lib.hid hN
  clear hv hlen hok hN
  go_enter Try.func44, Try.ntmps44
  go_wp2_with fail
  obtain ⟨W1, hW1, c0, c1, hsz, hB1, -, -⟩ := box2 w (.int .i64 n) (.slice ao L cap) 30
  try rw [hW1]
  clear hW1
  refine (HC.out W1 (HV.out.below hB1 (by omega)) (by omega)).mono ?_
  rintro e w1 ⟨rfl, b1⟩
  obtain ⟨d0, d1, z1⟩ := boxC b1 (by omega) c0 c1
  have zz := b1.size
  have HVb := Lib.hid ((HV.out.below hB1 (by omega)).below b1 (by omega))
  have HB1 : Hid (Below w.heap.size w w1) := hB1.trans (b1.mono (by omega))
  have hle1 : hi ≤ w1.heap.size := by omega
  clear c0 c1 HV HC hB1 b1 hsz zz
  go_wp2_with fail
  try simp only [hwp]
  go_loopw [10] (fun i wr => ∃ k : Nat, k ≤ N ∧ i = .int .i64 k ∧ Hid (allB (mbB n xss) k = true) ∧ Below w1.heap.size w1 wr) (fun i _ => N - (intOf i).toNat)
  case atStart => exact ⟨0, Nat.zero_le _, rfl, allB_zero _, Below.refl _ _⟩
  case round =>
    obtain ⟨k, hk, rfl, HA, hb⟩ := hrel
    obtain ⟨c0, c1, hzr⟩ := boxC hb z1 d0 d1
    have hzz := hb.size
    have hle : hi ≤ wr.heap.size := by omega
    have HVr := Lib.hid (HVb.out.below hb (by omega))
    have HB := Lib.hid (HB1.out.trans (hb.mono (by omega)))
    have HB2 := Lib.hid hb
    clear d0 d1 hb
    by_cases hlt : k < N
    · obtain ⟨hE1, hE2⟩ := HP.out k hlt
      have CE := Lib.hid (fun w h1 h2 => CE0.out w k h1 h2 hlt)
      obtain ⟨E, hE⟩ : ∃ E, E = bitsP xss k := ⟨_, rfl⟩
      rw [← hE] at CE hE1 hE2
      have HE := Lib.hid hE
      have hp : popc k ≤ n := popc_lt n k hn8 (by rw [← HN.out]; exact hlt)
      have hE256 : E < 256 := by omega
      have hk256 : k < 256 := by omega
      clear hE
      have CI0 : Hid (∀ w, Calls Try.prog 42 #[.int .i64 n, .int .i64 k] w fun e w' => e = .returned (.bool (decide (chgs k n ≤ 2))) ∧ Below w.heap.size w w') := fun w => by
        have h := IsBitonicMask_i n k w
        rwa [show bitB n k = decide (chgs k n ≤ 2) by rw [bitB, inB_mk (by omega), inB_mk (by have := HN.out; simp only [Int.toNat_natCast]; omega)]; simp] at h
      have CS : Hid (∀ w, Calls Try.prog 104 #[.int .i64 n, .int .i64 k] w fun e w' => e = .returned (.int .i64 (srt n k : Nat)) ∧ w = w') := fun w => sorted_c n k w hn8 hk256 hp
      obtain ⟨S, hS⟩ : ∃ S, S = srt n k := ⟨_, rfl⟩
      rw [← hS] at CS
      have HSS := Lib.hid hS
      clear hS hp
      have HMB : Hid (mbB n xss k = (!decide (chgs k n ≤ 2) || E == S)) := by show _ = _; rw [mbB, ← HE.out, ← HSS.out]
      by_cases hc : chgs k n ≤ 2
      · have CI : Hid (∀ w, Calls Try.prog 42 #[.int .i64 n, .int .i64 k] w fun e w' => e = .returned (.bool true) ∧ Below w.heap.size w w') := fun w => by have := CI0.out w; rwa [decide_eq_true hc] at this
        by_cases hq : E = S
        · have HF : Hid ((mbB n xss) k = true) := by
            show _ = _
            rw [HMB.out, hq]
            simp
          have hx : ((E : Int) != (S : Int)) = false := by rw [hq]; simp
          clear hq hc
          go_wp2_with fail
          refine wp_region_later wr.heap.size wr (by kernel_rfl) (by kernel_rfl) (Below.refl _ _) ?_
          have hLW := LW.cells (B := wr.heap.size) (w0 := wr)
          repeat (go_big_quiet_step ((first | (go_at_call 42; refine LW.call (Nat.le_refl _) (CI.out _)) | (go_at_call 116; refine LW.call (Nat.le_refl _) (CE.out _ (HVr.out.below (LW.h _) hle) (Nat.le_trans hle (LW.h _).size))) | (go_at_call 104; refine LW.call_same (CS.out _)) | fail)))
          refine wpQuiet_nil ?_
          rintro w2 ⟨⟨w2s, hb2⟩, rfl⟩
          clear hLW
          go_wp2
          go_roundw
          case rel => exact ⟨k + 1, by omega, by go_num, allB_snoc HA.out HF.out, HB2.out.trans (hb2.mono (by omega))⟩
          case measure => simp [intOf]; omega
        · have HNO : Hid (RES = false) := by
            rw [HRES.out]
            refine allB_no hlt ?_
            rw [HMB.out]
            simp [hc]
            exact hq
          have hx : ((E : Int) != (S : Int)) = true := by rw [bne_iff_ne]; omega
          clear hq hc
          go_wp2_with fail
          refine wp_region_later wr.heap.size wr (by kernel_rfl) (by kernel_rfl) (Below.refl _ _) ?_
          have hLW := LW.cells (B := wr.heap.size) (w0 := wr)
          repeat (go_big_quiet_step ((first | (go_at_call 42; refine LW.call (Nat.le_refl _) (CI.out _)) | (go_at_call 116; refine LW.call (Nat.le_refl _) (CE.out _ (HVr.out.below (LW.h _) hle) (Nat.le_trans hle (LW.h _).size))) | (go_at_call 104; refine LW.call_same (CS.out _)) | fail)))
          refine wpQuiet_nil ?_
          rintro w2 ⟨⟨w2s, hb2⟩, rfl⟩
          clear hLW
          go_wp2
          go_ret
          exact ⟨by rw [HNO.out]; rfl, HB.out.trans (hb2.mono (by omega))⟩
      · have CI : Hid (∀ w, Calls Try.prog 42 #[.int .i64 n, .int .i64 k] w fun e w' => e = .returned (.bool false) ∧ Below w.heap.size w w') := fun w => by have := CI0.out w; rwa [decide_eq_false hc] at this
        have HF : Hid ((mbB n xss) k = true) := by show _ = _; rw [HMB.out]; simp [hc]
        clear hc
        go_wp2_with fail
        refine wp_region_later wr.heap.size wr (by kernel_rfl) (by kernel_rfl) (Below.refl _ _) ?_
        have hLW := LW.cells (B := wr.heap.size) (w0 := wr)
        repeat (go_big_quiet_step ((first | (go_at_call 42; refine LW.call (Nat.le_refl _) (CI.out _)) | (go_at_call 116; refine LW.call (Nat.le_refl _) (CE.out _ (HVr.out.below (LW.h _) hle) (Nat.le_trans hle (LW.h _).size))) | (go_at_call 104; refine LW.call_same (CS.out _)) | fail)))
        refine wpQuiet_nil ?_
        rintro w2 ⟨⟨w2s, hb2⟩, rfl⟩
        clear hLW
        go_wp2
        go_roundw
        case rel => exact ⟨k + 1, by omega, by go_num, allB_snoc HA.out HF.out, HB2.out.trans (hb2.mono (by omega))⟩
        case measure => simp [intOf]; omega
    · have HE : Hid (RES = true) := by
        show RES = true
        rw [HRES.out, show N = k by omega]
        exact HA.out
      go_wp2
      go_ret
      exact ⟨by rw [HE.out]; rfl, HB.out⟩
/-- Whether a network merges what rises and falls. -/
def mbR (n : Int) (xss : List (List Int)) : Bool := netOk n xss && allB (mbB n.toNat xss) (2 ^ n.toNat)
theorem MergesBitonic_i_no (n : Int) (lo hi : Nat) (v : Value) (vs : List Value) (xss : List (List Int)) (w : World) (hv : OwnR w lo hi v vs xss) (hhi : hi ≤ w.heap.size) (hno : netOk n xss = false) :
    Calls Try.prog 44 #[.agg #[.int .i64 n, v]] w fun e w' => e = .returned (.bool false) ∧ Below w.heap.size w w' := by
  have HC := Lib.hid (NetworkOk_c n lo hi v vs xss)
  obtain ⟨ao, g, cap, rfl, -, -, -⟩ := hv.rows
  have HV := Lib.hid hv
  obtain ⟨L, hlen⟩ : ∃ l, l = xss.length := ⟨_, rfl⟩
  rw [← hlen] at HV HC ⊢
  rw [hno] at HC
  clear hv hlen hno
  go_enter Try.func44, Try.ntmps44
  go_wp2_with fail
  obtain ⟨W1, hW1, c0, c1, hsz, hB1, -, -⟩ := box2 w (.int .i64 n) (.slice ao L cap) 30
  try rw [hW1]
  clear hW1
  refine (HC.out W1 (HV.out.below hB1 (by omega)) (by omega)).mono ?_
  rintro e w1 ⟨rfl, b1⟩
  go_wp2
  go_ret
  exact ⟨rfl, hB1.trans (b1.mono (by omega))⟩
theorem MergesBitonic_i_c (n : Int) (lo hi : Nat) (v : Value) (vs : List Value) (xss : List (List Int)) (w : World) (hv : OwnR w lo hi v vs xss) (hhi : hi ≤ w.heap.size) :
    Calls Try.prog 44 #[.agg #[.int .i64 n, v]] w fun e w' => e = .returned (.bool (mbR n xss)) ∧ Below w.heap.size w w' := by
  cases hok : netOk n xss
  · rw [show mbR n xss = false by simp [mbR, hok]]
    exact MergesBitonic_i_no n lo hi v vs xss w hv hhi hok
  · have h1 := netOk_n hok
    obtain ⟨a, rfl⟩ : ∃ a : Nat, n = a := ⟨n.toNat, by omega⟩
    rw [show mbR a xss = allB (mbB a xss) (2 ^ a) by simp [mbR, hok]]
    exact MergesBitonic_i_yes a lo hi v vs xss w hv hhi hok
end Go.Proofs.Ytiodolbgapjmkaa
