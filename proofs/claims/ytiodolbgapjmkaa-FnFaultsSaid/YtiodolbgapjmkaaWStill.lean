/- Whether a network still sorts with a fault, and whether it does without any one comparator: both functions on all arguments, and the laws. Conditions: none. -/
import Derived.Test.YtiodolbgapjmkaaWFaultyC
import Derived.Test.YtiodolbgapjmkaaMaskL
namespace Go.Proofs.Ytiodolbgapjmkaa
open Go.RowKit
set_option maxRecDepth 100000
set_option linter.unusedVariables false

/-- A mask is sorted by the network with the fault. -/
def stillB (n : Nat) (xss : List (List Int)) (idx : Nat) (kind : Int) (m : Nat) : Bool := faultP xss idx kind m == srt n m
set_option maxHeartbeats 2000000 in
theorem StillSorts_i_yes (n : Nat) (lo hi : Nat) (v : Value) (vs : List Value) (xss : List (List Int)) (idx : Nat) (kind : Int) (w : World) (hv : OwnR w lo hi v vs xss) (hhi : hi ≤ w.heap.size) (hok : netOk n xss = true) (hf : fltB n xss idx kind = true) (hkd : kind = 0 ∨ kind = 1 ∨ kind = 2) :
    Calls Try.prog 23 #[.agg #[.int .i64 n, v], .int .i64 idx, .int .i64 kind] w fun e w' => e = .returned (.bool (allB (stillB n xss idx kind) (2 ^ n))) ∧ Below w.heap.size w w' := by
  have HC : Hid (∀ w, OwnR w lo hi v vs xss → hi ≤ w.heap.size → Calls Try.prog 102 #[.agg #[.int .i64 n, v], .int .i64 idx, .int .i64 kind] w fun e w' => e = .returned (.bool true) ∧ Below w.heap.size w w') := fun w h1 h2 => by
    have := isFault_c n lo hi v vs xss idx kind w h1 h2
    rwa [hf] at this
  have CE0 : Hid (∀ (w : World) (m : Nat), OwnR w lo hi v vs xss → hi ≤ w.heap.size → m < 2 ^ n → Calls Try.prog 103 #[.agg #[.int .i64 n, v], .int .i64 idx, .int .i64 kind, .int .i64 m] w fun e w' => e = .returned (.int .i64 (faultP xss idx kind m : Nat)) ∧ Below w.heap.size w w') := fun w m h1 h2 h3 => faulty_c n lo hi v vs xss idx kind m w h1 h2 hok h3 hkd
  have HP := Lib.hid (fun (m : Nat) (h : m < 2 ^ n) => faultP_lt hok idx kind h)
  have hn8 : n ≤ 8 := by have := netOk_n hok; omega
  have h256 := pow_le_256 n hn8
  obtain ⟨RES, hRES⟩ : ∃ r, r = allB (stillB n xss idx kind) (2 ^ n) := ⟨_, rfl⟩
  have HRES := Lib.hid hRES
  rw [← hRES]
  clear hRES
  have hlen60 := netOk_len hok
  obtain ⟨ao, g, cap, rfl, -, -, -⟩ := hv.rows
  have HV := Lib.hid hv
  obtain ⟨L, hlen⟩ : ∃ l, l = xss.length := ⟨_, rfl⟩
  rw [← hlen] at HV HC CE0 hlen60 ⊢
  have HLEN := Lib.hid hlen
  obtain ⟨N, hN⟩ : ∃ N, N = 2 ^ n := ⟨_, rfl⟩
  have hwp := wrap_pow n hn8
  rw [← hN] at hwp HP CE0 h256 HRES
  have HN := Lib.hid hN
  clear hv hlen hok hN
  go_enter Try.func23, Try.ntmps23
  go_wp2_with fail
  obtain ⟨W1, hW1, c0, c1, hsz, hB1, -, -⟩ := box2 w (.int .i64 n) (.slice ao L cap) 30
  try rw [hW1]
  clear hW1
  refine (HC.out W1 (HV.out.below hB1 (by omega)) (by omega)).mono ?_
  rintro e w1 ⟨rfl, b1⟩
  obtain ⟨d0, d1, z1⟩ := boxC b1 (by omega) c0 c1
  have zz := b1.size
  have HVb := Lib.hid ((HV.out.below hB1 (by omega)).below b1 (by omega))
  have HB1 : Hid (Below w.heap.size w w1) := hB1.trans (b1.mono (by omega))
  have hle1 : hi ≤ w1.heap.size := by omega
  clear c0 c1 HV HC hB1 b1 hsz zz
  go_wp2_with fail
  go_loopw [16] (fun i wr => ∃ k : Nat, k ≤ N ∧ i = .int .i64 k ∧ Hid (allB (stillB n xss idx kind) k = true) ∧ Below w1.heap.size w1 wr) (fun i _ => N - (intOf i).toNat)
  case atStart => exact ⟨0, Nat.zero_le _, rfl, allB_zero _, Below.refl _ _⟩
  case round =>
    obtain ⟨k, hk, rfl, HA, hb⟩ := hrel
    obtain ⟨c0, c1, hzr⟩ := boxC hb z1 d0 d1
    have hzz := hb.size
    have hle : hi ≤ wr.heap.size := by omega
    have HVr := Lib.hid (HVb.out.below hb (by omega))
    have HB := Lib.hid (HB1.out.trans (hb.mono (by omega)))
    have HB2 := Lib.hid hb
    clear d0 d1 hb
    by_cases hlt : k < N
    · obtain ⟨hE1, hE2⟩ := HP.out k hlt
      have CE := Lib.hid (fun w h1 h2 => CE0.out w k h1 h2 hlt)
      obtain ⟨E, hE⟩ : ∃ E, E = faultP xss idx kind k := ⟨_, rfl⟩
      rw [← hE] at CE hE1 hE2
      have HE := Lib.hid hE
      have hp : popc k ≤ n := popc_lt n k hn8 (by rw [← HN.out]; exact hlt)
      have hE256 : E < 256 := by omega
      have hk256 : k < 256 := by omega
      clear hE
      have CS : Hid (∀ w, Calls Try.prog 104 #[.int .i64 n, .int .i64 k] w fun e w' => e = .returned (.int .i64 (srt n k : Nat)) ∧ w = w') := fun w => sorted_c n k w hn8 hk256 hp
      obtain ⟨S, hS⟩ : ∃ S, S = srt n k := ⟨_, rfl⟩
      rw [← hS] at CS
      have HSS := Lib.hid hS
      clear hS hp
      by_cases hq : E = S
      · have HF : Hid ((stillB n xss idx kind) k = true) := by
          show _ = _
          rw [stillB, ← HE.out, ← HSS.out, hq]
          simp
        have hx : ((E : Int) != (S : Int)) = false := by rw [hq]; simp
        clear hq
        go_wp2_with fail
        refine wp_region_later wr.heap.size wr (by kernel_rfl) (by kernel_rfl) (Below.refl _ _) ?_
        have hLW := LW.cells (B := wr.heap.size) (w0 := wr)
        repeat (go_big_quiet_step ((first | (go_at_call 103; refine LW.call (Nat.le_refl _) (CE.out _ (HVr.out.below (LW.h _) hle) (Nat.le_trans hle (LW.h _).size))) | (go_at_call 104; refine LW.call_same (CS.out _)) | fail)))
        refine wpQuiet_nil ?_
        rintro w2 ⟨⟨w2s, hb2⟩, rfl⟩
        clear hLW
        go_wp2
        go_roundw
        case rel => exact ⟨k + 1, by omega, by go_num, allB_snoc HA.out HF.out, HB2.out.trans (hb2.mono (by omega))⟩
        case measure => simp [intOf]; omega
      · have HNO : Hid (RES = false) := by
          rw [HRES.out]
          refine allB_no hlt ?_
          rw [stillB, ← HE.out, ← HSS.out]
          simpa using hq
        have hx : ((E : Int) != (S : Int)) = true := by rw [bne_iff_ne]; omega
        clear hq
        go_wp2_with fail
        refine wp_region_later wr.heap.size wr (by kernel_rfl) (by kernel_rfl) (Below.refl _ _) ?_
        have hLW := LW.cells (B := wr.heap.size) (w0 := wr)
        repeat (go_big_quiet_step ((first | (go_at_call 103; refine LW.call (Nat.le_refl _) (CE.out _ (HVr.out.below (LW.h _) hle) (Nat.le_trans hle (LW.h _).size))) | (go_at_call 104; refine LW.call_same (CS.out _)) | fail)))
        refine wpQuiet_nil ?_
        rintro w2 ⟨⟨w2s, hb2⟩, rfl⟩
        clear hLW
        go_wp2
        go_ret
        exact ⟨by rw [HNO.out]; rfl, HB.out.trans (hb2.mono (by omega))⟩
    · have HE : Hid (RES = true) := by
        show RES = true
        rw [HRES.out, show N = k by omega]
        exact HA.out
      go_wp2
      go_ret
      exact ⟨by rw [HE.out]; rfl, HB.out⟩
theorem StillSorts_i_no (n : Int) (lo hi : Nat) (v : Value) (vs : List Value) (xss : List (List Int)) (idx kind : Int) (w : World) (hv : OwnR w lo hi v vs xss) (hhi : hi ≤ w.heap.size) (hno : fltB n xss idx kind = false) :
    Calls Try.prog 23 #[.agg #[.int .i64 n, v], .int .i64 idx, .int .i64 kind] w fun e w' => e = .returned (.bool false) ∧ Below w.heap.size w w' := by
  have HC := Lib.hid (isFault_c n lo hi v vs xss idx kind)
  obtain ⟨ao, g, cap, rfl, -, -, -⟩ := hv.rows
  have HV := Lib.hid hv
  obtain ⟨L, hlen⟩ : ∃ l, l = xss.length := ⟨_, rfl⟩
  rw [← hlen] at HV HC ⊢
  rw [hno] at HC
  clear hv hlen hno
  go_enter Try.func23, Try.ntmps23
  go_wp2_with fail
  obtain ⟨W1, hW1, c0, c1, hsz, hB1, -, -⟩ := box2 w (.int .i64 n) (.slice ao L cap) 30
  try rw [hW1]
  clear hW1
  refine (HC.out W1 (HV.out.below hB1 (by omega)) (by omega)).mono ?_
  rintro e w1 ⟨rfl, b1⟩
  go_wp2
  go_ret
  exact ⟨rfl, hB1.trans (b1.mono (by omega))⟩
/-- Whether the network still sorts with the fault. -/
def stillR (n : Int) (xss : List (List Int)) (idx kind : Int) : Bool := fltB n xss idx kind && allB (stillB n.toNat xss idx.toNat kind) (2 ^ n.toNat)
theorem StillSorts_i_c (n : Int) (lo hi : Nat) (v : Value) (vs : List Value) (xss : List (List Int)) (idx kind : Int) (w : World) (hv : OwnR w lo hi v vs xss) (hhi : hi ≤ w.heap.size) :
    Calls Try.prog 23 #[.agg #[.int .i64 n, v], .int .i64 idx, .int .i64 kind] w fun e w' => e = .returned (.bool (stillR n xss idx kind)) ∧ Below w.heap.size w w' := by
  cases hf : fltB n xss idx kind
  · rw [show stillR n xss idx kind = false by simp [stillR, hf]]
    exact StillSorts_i_no n lo hi v vs xss idx kind w hv hhi hf
  · obtain ⟨a, b, rfl, rfl, hnet, h8, hb, hk⟩ := fltB_of hf
    rw [show stillR a xss b kind = allB (stillB a xss b kind) (2 ^ a) by simp [stillR, hf]]
    exact StillSorts_i_yes a lo hi v vs xss b kind w hv hhi hnet hf hk
/-- Whether the network sorts without any one comparator. -/
def safeR (n : Int) (xss : List (List Int)) : Bool := netOk n xss && allB (fun k => stillR n xss k 0) xss.length
set_option maxHeartbeats 1000000 in
theorem SafeNetwork_i_c (n : Int) (lo hi : Nat) (v : Value) (vs : List Value) (xss : List (List Int)) (w : World) (hv : OwnR w lo hi v vs xss) (hhi : hi ≤ w.heap.size) :
    Calls Try.prog 28 #[.agg #[.int .i64 n, v]] w fun e w' => e = .returned (.bool (safeR n xss)) ∧ Below w.heap.size w w' := by
  have HC := Lib.hid (NetworkOk_c n lo hi v vs xss)
  have HS := Lib.hid (fun (k : Nat) => StillSorts_i_c n lo hi v vs xss k 0)
  have hl60 : netOk n xss = true → xss.length ≤ 60 := netOk_len
  obtain ⟨ao, g, cap, rfl, -, -, -⟩ := hv.rows
  have HV := Lib.hid hv
  obtain ⟨L, hlen⟩ : ∃ l, l = xss.length := ⟨_, rfl⟩
  have HLEN := Lib.hid hlen
  rw [← hlen] at HV HC HS hl60 ⊢
  clear hv hlen
  cases hok : netOk n xss
  · have HR : Hid (safeR n xss = false) := by show _ = _; simp [safeR, hok]
    rw [hok] at HC
    clear hok hl60
    go_enter Try.func28, Try.ntmps28
    go_wp2_with fail
    obtain ⟨W1, hW1, c0, c1, hsz, hB1, -, -⟩ := box2 w (.int .i64 n) (.slice ao L cap) 30
    try rw [hW1]
    clear hW1
    refine (HC.out W1 (HV.out.below hB1 (by omega)) (by omega)).mono ?_
    rintro e w1 ⟨rfl, b1⟩
    go_wp2
    go_ret
    exact ⟨by rw [HR.out]; rfl, hB1.trans (b1.mono (by omega))⟩
  · have hL60 := hl60 hok
    obtain ⟨RES, hRES⟩ : ∃ r, r = safeR n xss := ⟨_, rfl⟩
    have HRES : Hid (RES = allB (fun k => stillR n xss k 0) L) := by show _ = _; rw [hRES, HLEN.out]; simp [safeR, hok]
    rw [← hRES]
    rw [hok] at HC
    clear hok hl60 hRES
    go_enter Try.func28, Try.ntmps28
    go_wp2_with fail
    obtain ⟨W1, hW1, c0, c1, hsz, hB1, -, -⟩ := box2 w (.int .i64 n) (.slice ao L cap) 30
    try rw [hW1]
    clear hW1
    refine (HC.out W1 (HV.out.below hB1 (by omega)) (by omega)).mono ?_
    rintro e w1 ⟨rfl, b1⟩
    obtain ⟨d0, d1, z1⟩ := boxC b1 (by omega) c0 c1
    have zz := b1.size
    have HVb := Lib.hid ((HV.out.below hB1 (by omega)).below b1 (by omega))
    have HB1 : Hid (Below w.heap.size w w1) := hB1.trans (b1.mono (by omega))
    have hle1 : hi ≤ w1.heap.size := by omega
    clear c0 c1 HV HC hB1 b1 hsz zz
    go_wp2_with fail
    go_loopw [10] (fun i wr => ∃ k : Nat, k ≤ L ∧ i = .int .i64 k ∧ Hid (allB (fun k => stillR n xss k 0) k = true) ∧ Below w1.heap.size w1 wr) (fun i _ => L - (intOf i).toNat)
    case atStart => exact ⟨0, Nat.zero_le _, rfl, allB_zero _, Below.refl _ _⟩
    case round =>
      obtain ⟨k, hk, rfl, HA, hb⟩ := hrel
      obtain ⟨c0, c1, hzr⟩ := boxC hb z1 d0 d1
      have hzz := hb.size
      have hle : hi ≤ wr.heap.size := by omega
      have HVr := Lib.hid (HVb.out.below hb (by omega))
      have HB := Lib.hid (HB1.out.trans (hb.mono (by omega)))
      have HB2 := Lib.hid hb
      clear d0 d1 hb
      by_cases hlt : k < L
      · have HSk := Lib.hid (HS.out k)
        cases hq : stillR n xss k 0
        · have HNO : Hid (RES = false) := by
            rw [HRES.out]
            exact allB_no hlt hq
          rw [hq] at HSk
          clear hq
          go_wp2_with fail
          refine (HSk.out wr HVr.out hle).mono ?_
          rintro e w2 ⟨rfl, b2⟩
          go_wp2
          go_ret
          exact ⟨by rw [HNO.out]; rfl, HB.out.trans (b2.mono (by omega))⟩
        · have HF : Hid ((fun k : Nat => stillR n xss k 0) k = true) := hq
          rw [hq] at HSk
          clear hq
          go_wp2_with fail
          refine (HSk.out wr HVr.out hle).mono ?_
          rintro e w2 ⟨rfl, b2⟩
          go_wp2
          go_roundw
          case rel => exact ⟨k + 1, by omega, by go_num, allB_snoc HA.out HF.out, HB2.out.trans (b2.mono (by omega))⟩
          case measure => simp [intOf]; omega
      · have HE : Hid (RES = true) := by
          show RES = true
          rw [HRES.out, show L = k by omega]
          exact HA.out
        go_wp2
        go_ret
        exact ⟨by rw [HE.out]; rfl, HB.out⟩
end Go.Proofs.Ytiodolbgapjmkaa
