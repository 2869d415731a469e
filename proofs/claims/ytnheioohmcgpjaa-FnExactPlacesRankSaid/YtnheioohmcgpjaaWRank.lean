/- Whether a wire has its rank: both functions on all arguments, and the law. Conditions: none. -/
import Derived.Test.YtnheioohmcgpjaaBitsC
import Derived.Test.YtnheioohmcgpjaaMaskL
import Derived.Test.YtnheioohmcgpjaaMPlacesRank
namespace Go.Proofs.Ytnheioohmcgpjaa
open Go.RowKit
set_option maxRecDepth 100000

set_option maxHeartbeats 2000000 in
theorem PlacesRank_i_yes (n : Nat) (lo hi : Nat) (v : Value) (vs : List Value) (xss : List (List Int)) (K : Nat) (w : World) (hv : OwnR w lo hi v vs xss) (hhi : hi ≤ w.heap.size) (hok : netOk n xss = true) (hK : K < n) :
    Calls Try.prog 45 #[.agg #[.int .i64 n, v], .int .i64 K] w fun e w' => e = .returned (.bool (allB (rankB n xss K) (2 ^ n))) ∧ Below w.heap.size w w' := by
  have HC : Hid (∀ w, OwnR w lo hi v vs xss → hi ≤ w.heap.size → Calls Try.prog 59 #[.agg #[.int .i64 n, v]] w fun e w' => e = .returned (.bool true) ∧ Below w.heap.size w w') := fun w h1 h2 => by
    have := NetworkOk_c n lo hi v vs xss w h1 h2
    rwa [hok] at this
  have CE0 : Hid (∀ (w : World) (m : Nat), OwnR w lo hi v vs xss → hi ≤ w.heap.size → m < 2 ^ n → Calls Try.prog 80 #[.agg #[.int .i64 n, v], .int .i64 m] w fun e w' => e = .returned (.int .i64 (bitsP xss m : Nat)) ∧ Below w.heap.size w w') := fun w m h1 h2 h3 => bits_c n lo hi v vs xss m w h1 h2 hok h3
  have hwire : inB (K : Int) 0 ((n : Int) - 1) = true := inB_mk (by omega)
  have HP := Lib.hid (fun (m : Nat) (h : m < 2 ^ n) => bitsP_lt' hok h)
  have hn8 : n ≤ 8 := by have := netOk_n hok; omega
  have h256 := pow_le_256 n hn8
  obtain ⟨RES, hRES⟩ : ∃ r, r = allB (rankB n xss K) (2 ^ n) := ⟨_, rfl⟩
  have HRES := Lib.hid hRES
  rw [← hRES]
  clear hRES
  have hlen60 := netOk_len hok
  obtain ⟨ao, g, cap, rfl, -, -, -⟩ := hv.rows
  have HV := Lib.hid hv
  obtain ⟨L, hlen⟩ : ∃ l, l = xss.length := ⟨_, rfl⟩
  rw [← hlen] at HV HC CE0 hlen60 ⊢
  have HLEN := Lib.hid hlen
  obtain ⟨N, hN⟩ : ∃ N, N = 2 ^ n := ⟨_, rfl⟩
  have hwp := wrap_pow n hn8
  rw [← hN] at hwp HP CE0 h256 HRES
  have HN := Lib.hid hN
  clear hv hlen hok hN
  go_enter Try.func45, Try.ntmps45
  go_wp2_with fail
  obtain ⟨W1, hW1, c0, c1, hsz, hB1, -, -⟩ := box2 w (.int .i64 n) (.slice ao L cap) 32
  try rw [hW1]
  clear hW1
  refine (HC.out W1 (HV.out.below hB1 (by omega)) (by omega)).mono ?_
  rintro e w1 ⟨rfl, b1⟩
  obtain ⟨d0, d1, z1⟩ := boxC b1 (by omega) c0 c1
  have zz := b1.size
  have HVb := Lib.hid ((HV.out.below hB1 (by omega)).below b1 (by omega))
  have HB1 : Hid (Below w.heap.size w w1) := hB1.trans (b1.mono (by omega))
  have hle1 : hi ≤ w1.heap.size := by omega
  clear c0 c1 HV HC hB1 b1 hsz zz
  go_wp2_with fail
  refine (isWire_c n K _ w1).mono ?_
  rintro e w1 ⟨rfl, b2⟩
  rw [hwire]
  have zz2 := b2.size
  obtain ⟨d0, d1, z1⟩ := boxC b2 z1 d0 d1
  replace HVb := Lib.hid (HVb.out.below b2 hle1)
  replace HB1 : Hid (Below w.heap.size w w1) := HB1.out.trans (b2.mono (by omega))
  replace hle1 : hi ≤ w1.heap.size := by omega
  clear b2 zz2
  go_wp2_with fail
  go_loopw [18] (fun i wr => ∃ k : Nat, k ≤ N ∧ i = .int .i64 k ∧ Hid (allB (rankB n xss K) k = true) ∧ Below w1.heap.size w1 wr) (fun i _ => N - (intOf i).toNat)
  case atStart => exact ⟨0, Nat.zero_le _, rfl, allB_zero _, Below.refl _ _⟩
  case round =>
    obtain ⟨k, hk, rfl, HA, hb⟩ := hrel
    obtain ⟨c0, c1, hzr⟩ := boxC hb z1 d0 d1
    have hzz := hb.size
    have hle : hi ≤ wr.heap.size := by omega
    have HVr := Lib.hid (HVb.out.below hb (by omega))
    have HB := Lib.hid (HB1.out.trans (hb.mono (by omega)))
    have HB2 := Lib.hid hb
    clear d0 d1 hb
    by_cases hlt : k < N
    · obtain ⟨hE1, hE2⟩ := HP.out k hlt
      have CE := Lib.hid (fun w h1 h2 => CE0.out w k h1 h2 hlt)
      obtain ⟨E, hE⟩ : ∃ E, E = bitsP xss k := ⟨_, rfl⟩
      rw [← hE] at CE hE1 hE2
      have HE := Lib.hid hE
      have hp : popc k ≤ n := popc_lt n k hn8 (by rw [← HN.out]; exact hlt)
      have hE256 : E < 256 := by omega
      have hk256 : k < 256 := by omega
      clear hE
      have CS : Hid (∀ w, Calls Try.prog 87 #[.int .i64 n, .int .i64 k] w fun e w' => e = .returned (.int .i64 (srt n k : Nat)) ∧ w = w') := fun w => sorted_c n k w hn8 hk256 hp
      obtain ⟨S, hS⟩ : ∃ S, S = srt n k := ⟨_, rfl⟩
      rw [← hS] at CS
      have HSS := Lib.hid hS
      have hS256 : S < 256 := by have := srt_lt n k hn8 hp; have := HN.out; omega
      have hx := xor_test E S K hE256 hS256 (by omega)
      clear hS
      by_cases hq : E / 2 ^ K % 2 = S / 2 ^ K % 2
      · have HF : Hid (rankB n xss K k = true) := by
          show _ = _
          rw [rankB, ← HE.out, ← HSS.out, hq]
          simp
        rw [if_pos hq] at hx
        clear hq
        go_wp2_with fail
        refine wp_region_later wr.heap.size wr (by kernel_rfl) (by kernel_rfl) (Below.refl _ _) ?_
        have hLW := LW.cells (B := wr.heap.size) (w0 := wr)
        repeat (go_big_quiet_step ((first | (go_at_call 80; refine LW.call (Nat.le_refl _) (CE.out _ (HVr.out.below (LW.h _) hle) (Nat.le_trans hle (LW.h _).size))) | (go_at_call 87; refine LW.call_same (CS.out _)) | fail)))
        refine wpQuiet_nil ?_
        rintro w2 ⟨⟨w2s, hb2⟩, rfl⟩
        clear hLW
        go_wp2
        go_roundw
        case rel => exact ⟨k + 1, by omega, by go_num, allB_snoc HA.out HF.out, HB2.out.trans (hb2.mono (by omega))⟩
        case measure => simp [intOf]; omega
      · have HNO : Hid (RES = false) := by
          rw [HRES.out]
          refine allB_no hlt ?_
          rw [rankB, ← HE.out, ← HSS.out]
          simp [hq]
        rw [if_neg hq] at hx
        clear hq
        go_wp2_with fail
        refine wp_region_later wr.heap.size wr (by kernel_rfl) (by kernel_rfl) (Below.refl _ _) ?_
        have hLW := LW.cells (B := wr.heap.size) (w0 := wr)
        repeat (go_big_quiet_step ((first | (go_at_call 80; refine LW.call (Nat.le_refl _) (CE.out _ (HVr.out.below (LW.h _) hle) (Nat.le_trans hle (LW.h _).size))) | (go_at_call 87; refine LW.call_same (CS.out _)) | fail)))
        refine wpQuiet_nil ?_
        rintro w2 ⟨⟨w2s, hb2⟩, rfl⟩
        clear hLW
        go_wp2
        go_ret
        exact ⟨by rw [HNO.out]; rfl, HB.out.trans (hb2.mono (by omega))⟩
    · have HE : Hid (RES = true) := by
        show RES = true
        rw [HRES.out, show N = k by omega]
        exact HA.out
      go_wp2
      go_ret
      exact ⟨by rw [HE.out]; rfl, HB.out⟩
set_option maxHeartbeats 2000000 in
theorem l10Rank_c (n : Nat) (lo hi : Nat) (v : Value) (vs : List Value) (xss : List (List Int)) (K : Nat) (w : World) (hv : OwnR w lo hi v vs xss) (hhi : hi ≤ w.heap.size) (hok : netOk n xss = true) (hK : K < n) :
    Calls Try.prog 86 #[.agg #[.int .i64 n, v], .int .i64 K, .int .i64 0] w fun e w' => e = .returned (.bool (allB (rankB n xss K) (2 ^ n))) ∧ Below w.heap.size w w' := by
  have HC : Hid (∀ w, OwnR w lo hi v vs xss → hi ≤ w.heap.size → Calls Try.prog 57 #[.agg #[.int .i64 n, v]] w fun e w' => e = .returned (.bool true) ∧ Below w.heap.size w w') := fun w h1 h2 => by
    have := SNetworkOk_c n lo hi v vs xss w h1 h2
    rwa [hok] at this
  have CE0 : Hid (∀ (w : World) (m : Nat), OwnR w lo hi v vs xss → hi ≤ w.heap.size → m < 2 ^ n → Calls Try.prog 67 #[v, .int .i64 m] w fun e w' => e = .returned (.int .i64 (bitsP xss m : Nat)) ∧ Below w.heap.size w w') := fun w m h1 h2 h3 => l03Apply_c n lo hi v vs xss m w h1 h2 hok h3
  have HP := Lib.hid (fun (m : Nat) (h : m < 2 ^ n) => bitsP_lt' hok h)
  have hn8 : n ≤ 8 := by have := netOk_n hok; omega
  have h256 := pow_le_256 n hn8
  obtain ⟨RES, hRES⟩ : ∃ r, r = allB (rankB n xss K) (2 ^ n) := ⟨_, rfl⟩
  have HRES := Lib.hid hRES
  rw [← hRES]
  clear hRES
  have hlen60 := netOk_len hok
  obtain ⟨ao, g, cap, rfl, -, -, -⟩ := hv.rows
  have HV := Lib.hid hv
  obtain ⟨L, hlen⟩ : ∃ l, l = xss.length := ⟨_, rfl⟩
  rw [← hlen] at HV HC CE0 hlen60 ⊢
  have HLEN := Lib.hid hlen
  obtain ⟨N, hN⟩ : ∃ N, N = 2 ^ n := ⟨_, rfl⟩
  have hwp := wrap_pow n hn8
  rw [← hN] at hwp HP CE0 h256 HRES
  have HN := Lib.hid hN
  clear hv hlen hok hN
  go_enter Try.func86, Try.ntmps86
  go_wp2_with fail
  obtain ⟨W1, hW1, c0, c1, hsz, hB1, -, -⟩ := box2 w (.int .i64 n) (.slice ao L cap) 32
  try rw [hW1]
  clear hW1
  obtain ⟨w1, hw1, b1⟩ : ∃ W, W = W1 ∧ Below W1.heap.size W1 W := ⟨_, rfl, Below.refl _ _⟩
  obtain ⟨d0, d1, z1⟩ := boxC b1 (by omega) c0 c1
  have zz := b1.size
  have HVb := Lib.hid ((HV.out.below hB1 (by omega)).below b1 (by omega))
  have HB1 : Hid (Below w.heap.size w w1) := hB1.trans (b1.mono (by omega))
  rw [← hw1]
  clear hw1
  have hle1 : hi ≤ w1.heap.size := by omega
  clear c0 c1 HV HC hB1 b1 hsz zz
  go_wp2_with fail
  go_loopw [7] (fun i wr => ∃ k : Nat, k ≤ N ∧ i = .int .i64 k ∧ Hid (allB (rankB n xss K) k = true) ∧ Below w1.heap.size w1 wr) (fun i _ => N - (intOf i).toNat)
  case atStart => exact ⟨0, Nat.zero_le _, rfl, allB_zero _, Below.refl _ _⟩
  case round =>
    obtain ⟨k, hk, rfl, HA, hb⟩ := hrel
    obtain ⟨c0, c1, hzr⟩ := boxC hb z1 d0 d1
    have hzz := hb.size
    have hle : hi ≤ wr.heap.size := by omega
    have HVr := Lib.hid (HVb.out.below hb (by omega))
    have HB := Lib.hid (HB1.out.trans (hb.mono (by omega)))
    have HB2 := Lib.hid hb
    clear d0 d1 hb
    by_cases hlt : k < N
    · obtain ⟨hE1, hE2⟩ := HP.out k hlt
      have CE := Lib.hid (fun w h1 h2 => CE0.out w k h1 h2 hlt)
      obtain ⟨E, hE⟩ : ∃ E, E = bitsP xss k := ⟨_, rfl⟩
      rw [← hE] at CE hE1 hE2
      have HE := Lib.hid hE
      have hp : popc k ≤ n := popc_lt n k hn8 (by rw [← HN.out]; exact hlt)
      have hE256 : E < 256 := by omega
      have hk256 : k < 256 := by omega
      clear hE
      obtain ⟨P, hP⟩ : ∃ P, P = popc k := ⟨_, rfl⟩
      have CO : Hid (∀ w, Calls Try.prog 79 #[.int .i64 k] w fun e w' => e = .returned (.int .i64 P) ∧ w = w') := fun w => by rw [hP]; exact l03Ones_c k w hk256
      rw [← hP] at hp hE2
      have hb1 := bits_one E K hE256 (by omega)
      have hsb : srt n k / 2 ^ K % 2 = if n - P ≤ K then 1 else 0 := by rw [hP]; exact srt_bit n k K hn8 (by rw [← hP]; exact hp) hK
      have hws := wrap_sub n P hn8 hp
      have HRK : Hid (rankB n xss K k = (E / 2 ^ K % 2 == if n - P ≤ K then 1 else 0)) := by show _ = _; rw [rankB, ← HE.out, hsb]
      obtain ⟨Z, hZ⟩ : ∃ Z, Z = n - P := ⟨_, rfl⟩
      rw [← hZ] at hws HRK
      have hHP : Z ≤ K ↔ (Z : Int) ≤ (K : Int) := by omega
      clear hZ
      clear hP hsb
      rcases Nat.mod_two_eq_zero_or_one (E / 2 ^ K) with e1 | e1
      · by_cases hz : Z ≤ K
        · rw [e1] at HRK hb1
          replace hb1 : bits BinOp.and IntKind.i64 ((E : Int) / 2 ^ K) 1 = 0 := hb1
          have hz2 := hHP.1 hz
          have HNO : Hid (RES = false) := by
            rw [HRES.out]
            refine allB_no hlt ?_
            rw [HRK.out]
            simp [hz]
          clear hHP e1 hp
          go_wp2_with fail
          refine (CE.out wr HVr.out hle).mono ?_
          rintro e wq ⟨rfl, bq⟩
          obtain ⟨f0, f1, hz9⟩ := boxC bq hzr c0 c1
          have hzq := bq.size
          clear c0 c1
          go_wp2_with fail
          refine wp_region_later wq.heap.size wq (by kernel_rfl) (by kernel_rfl) (Below.refl _ _) ?_
          have hLW := LW.cells (B := wq.heap.size) (w0 := wq)
          repeat (go_big_quiet_step ((first | (go_at_call 79; refine LW.call_same (CO.out _)) | fail)))
          refine wpQuiet_nil ?_
          rintro w2 ⟨⟨w2s, hb2⟩, rfl⟩
          clear hLW
          go_wp2
          go_ret
          exact ⟨by rw [HNO.out]; rfl, HB.out.trans ((bq.trans (hb2.mono hzq)).mono (by omega))⟩
        · rw [e1] at HRK hb1
          replace hb1 : bits BinOp.and IntKind.i64 ((E : Int) / 2 ^ K) 1 = 0 := hb1
          have hz2 := mt hHP.2 hz
          have hz3 : (K : Int) < (Z : Int) := by omega
          have HF : Hid (rankB n xss K k = true) := by show _ = _; rw [HRK.out]; simp [hz]
          clear hHP e1 hp
          go_wp2_with fail
          refine (CE.out wr HVr.out hle).mono ?_
          rintro e wq ⟨rfl, bq⟩
          obtain ⟨f0, f1, hz9⟩ := boxC bq hzr c0 c1
          have hzq := bq.size
          clear c0 c1
          go_wp2_with fail
          refine wp_region_later wq.heap.size wq (by kernel_rfl) (by kernel_rfl) (Below.refl _ _) ?_
          have hLW := LW.cells (B := wq.heap.size) (w0 := wq)
          repeat (go_big_quiet_step ((first | (go_at_call 79; refine LW.call_same (CO.out _)) | fail)))
          refine wpQuiet_nil ?_
          rintro w2 ⟨⟨w2s, hb2⟩, rfl⟩
          clear hLW
          go_wp2
          go_roundw
          case rel => exact ⟨k + 1, by omega, by go_num, allB_snoc HA.out HF.out, HB2.out.trans ((bq.trans (hb2.mono hzq)).mono (by omega))⟩
          case measure => simp [intOf]; omega
      · by_cases hz : Z ≤ K
        · rw [e1] at HRK hb1
          replace hb1 : bits BinOp.and IntKind.i64 ((E : Int) / 2 ^ K) 1 = 1 := hb1
          have hz2 := hHP.1 hz
          have HF : Hid (rankB n xss K k = true) := by show _ = _; rw [HRK.out]; simp [hz]
          clear hHP e1 hp
          go_wp2_with fail
          refine (CE.out wr HVr.out hle).mono ?_
          rintro e wq ⟨rfl, bq⟩
          obtain ⟨f0, f1, hz9⟩ := boxC bq hzr c0 c1
          have hzq := bq.size
          clear c0 c1
          go_wp2_with fail
          refine wp_region_later wq.heap.size wq (by kernel_rfl) (by kernel_rfl) (Below.refl _ _) ?_
          have hLW := LW.cells (B := wq.heap.size) (w0 := wq)
          repeat (go_big_quiet_step ((first | (go_at_call 79; refine LW.call_same (CO.out _)) | fail)))
          refine wpQuiet_nil ?_
          rintro w2 ⟨⟨w2s, hb2⟩, rfl⟩
          clear hLW
          go_wp2
          go_roundw
          case rel => exact ⟨k + 1, by omega, by go_num, allB_snoc HA.out HF.out, HB2.out.trans ((bq.trans (hb2.mono hzq)).mono (by omega))⟩
          case measure => simp [intOf]; omega
        · rw [e1] at HRK hb1
          replace hb1 : bits BinOp.and IntKind.i64 ((E : Int) / 2 ^ K) 1 = 1 := hb1
          have hz2 := mt hHP.2 hz
          have hz3 : (K : Int) < (Z : Int) := by omega
          have HNO : Hid (RES = false) := by
            rw [HRES.out]
            refine allB_no hlt ?_
            rw [HRK.out]
            simp [hz]
          clear hHP e1 hp
          go_wp2_with fail
          refine (CE.out wr HVr.out hle).mono ?_
          rintro e wq ⟨rfl, bq⟩
          obtain ⟨f0, f1, hz9⟩ := boxC bq hzr c0 c1
          have hzq := bq.size
          clear c0 c1
          go_wp2_with fail
          refine wp_region_later wq.heap.size wq (by kernel_rfl) (by kernel_rfl) (Below.refl _ _) ?_
          have hLW := LW.cells (B := wq.heap.size) (w0 := wq)
          repeat (go_big_quiet_step ((first | (go_at_call 79; refine LW.call_same (CO.out _)) | fail)))
          refine wpQuiet_nil ?_
          rintro w2 ⟨⟨w2s, hb2⟩, rfl⟩
          clear hLW
          go_wp2
          go_ret
          exact ⟨by rw [HNO.out]; rfl, HB.out.trans ((bq.trans (hb2.mono hzq)).mono (by omega))⟩
    · have HE : Hid (RES = true) := by
        show RES = true
        rw [HRES.out, show N = k by omega]
        exact HA.out
      go_wp2
      go_ret
      exact ⟨by rw [HE.out]; rfl, HB.out⟩

/-- Whether a wire of a network has its rank. -/
def rankR (n : Int) (xss : List (List Int)) (k : Int) : Bool := netOk n xss && inB k 0 (n - 1) && allB (rankB n.toNat xss k.toNat) (2 ^ n.toNat)
theorem rankR_yes {n K : Nat} {xss : List (List Int)} (h : netOk n xss = true) (hK : K < n) : rankR n xss K = allB (rankB n xss K) (2 ^ n) := by
  rw [rankR, h, inB_mk (by omega)]
  simp
set_option maxHeartbeats 1000000 in
theorem PlacesRank_i_no (n : Int) (lo hi : Nat) (v : Value) (vs : List Value) (xss : List (List Int)) (k : Int) (w : World) (hv : OwnR w lo hi v vs xss) (hhi : hi ≤ w.heap.size) (hno : netOk n xss = false ∨ (netOk n xss = true ∧ inB k 0 (n - 1) = false)) :
    Calls Try.prog 45 #[.agg #[.int .i64 n, v], .int .i64 k] w fun e w' => e = .returned (.bool false) ∧ Below w.heap.size w w' := by
  have HC := Lib.hid (NetworkOk_c n lo hi v vs xss)
  obtain ⟨ao, g, cap, rfl, -, -, -⟩ := hv.rows
  have HV := Lib.hid hv
  obtain ⟨L, hlen⟩ : ∃ l, l = xss.length := ⟨_, rfl⟩
  rw [← hlen] at HV HC ⊢
  have hn8 : netOk n xss = true → 1 ≤ n ∧ n ≤ 8 := netOk_n
  clear hv hlen
  rcases hno with hok | ⟨hok, hbad⟩
  · rw [hok] at HC
    clear hok hn8
    go_enter Try.func45, Try.ntmps45
    go_wp2_with fail
    obtain ⟨W1, hW1, c0, c1, hsz, hB1, -, -⟩ := box2 w (.int .i64 n) (.slice ao L cap) 32
    try rw [hW1]
    clear hW1
    refine (HC.out W1 (HV.out.below hB1 (by omega)) (by omega)).mono ?_
    rintro e w1 ⟨rfl, b1⟩
    go_wp2
    go_ret
    exact ⟨rfl, hB1.trans (b1.mono (by omega))⟩
  · obtain ⟨hn1, hn9⟩ := hn8 hok
    rw [hok] at HC
    clear hok hn8
    all_goals
      go_enter Try.func45, Try.ntmps45
      go_wp2_with fail
      obtain ⟨W1, hW1, c0, c1, hsz, hB1, -, -⟩ := box2 w (.int .i64 n) (.slice ao L cap) 32
      try rw [hW1]
      clear hW1
      refine (HC.out W1 (HV.out.below hB1 (by omega)) (by omega)).mono ?_
      rintro e w1 ⟨rfl, b1⟩
      obtain ⟨d0, d1, z1⟩ := boxC b1 (by omega) c0 c1
      have zz := b1.size
      clear c0 c1
      go_wp2_with fail
      refine (isWire_c n k _ w1).mono ?_
      rintro e w2 ⟨rfl, b2⟩
      rw [hbad]
      go_wp2
      go_ret
      exact ⟨rfl, hB1.trans ((b1.trans (b2.mono zz)).mono (by omega))⟩
set_option maxHeartbeats 1000000 in
theorem PlacesRank_s_no (n : Int) (lo hi : Nat) (v : Value) (vs : List Value) (xss : List (List Int)) (k : Int) (w : World) (hv : OwnR w lo hi v vs xss) (hhi : hi ≤ w.heap.size) (hno : netOk n xss = false ∨ (netOk n xss = true ∧ inB k 0 (n - 1) = false)) :
    Calls Try.prog 44 #[.agg #[.int .i64 n, v], .int .i64 k] w fun e w' => e = .returned (.bool false) ∧ Below w.heap.size w w' := by
  have HC := Lib.hid (SNetworkOk_c n lo hi v vs xss)
  obtain ⟨ao, g, cap, rfl, -, -, -⟩ := hv.rows
  have HV := Lib.hid hv
  obtain ⟨L, hlen⟩ : ∃ l, l = xss.length := ⟨_, rfl⟩
  rw [← hlen] at HV HC ⊢
  have hn8 : netOk n xss = true → 1 ≤ n ∧ n ≤ 8 := netOk_n
  clear hv hlen
  rcases hno with hok | ⟨hok, hbad⟩
  · rw [hok] at HC
    clear hok hn8
    go_enter Try.func44, Try.ntmps44
    go_wp2_with fail
    obtain ⟨W1, hW1, c0, c1, hsz, hB1, -, -⟩ := box2 w (.int .i64 n) (.slice ao L cap) 32
    try rw [hW1]
    clear hW1
    refine (HC.out W1 (HV.out.below hB1 (by omega)) (by omega)).mono ?_
    rintro e w1 ⟨rfl, b1⟩
    go_wp2
    go_ret
    exact ⟨rfl, hB1.trans (b1.mono (by omega))⟩
  · obtain ⟨hn1, hn9⟩ := hn8 hok
    rw [hok] at HC
    clear hok hn8
    all_goals
      go_enter Try.func44, Try.ntmps44
      go_wp2_with fail
      obtain ⟨W1, hW1, c0, c1, hsz, hB1, -, -⟩ := box2 w (.int .i64 n) (.slice ao L cap) 32
      try rw [hW1]
      clear hW1
      refine (HC.out W1 (HV.out.below hB1 (by omega)) (by omega)).mono ?_
      rintro e w1 ⟨rfl, b1⟩
      obtain ⟨d0, d1, z1⟩ := boxC b1 (by omega) c0 c1
      have zz := b1.size
      clear c0 c1
      go_wp2_with (go_at_call 62; refine (l01In_c _ _ _ _).mono ?_; rintro e w' ⟨rfl, rfl⟩)
      go_ret
      exact ⟨rfl, hB1.trans (b1.mono (by omega))⟩
set_option maxHeartbeats 1000000 in
theorem PlacesRank_s_yes (n : Nat) (lo hi : Nat) (v : Value) (vs : List Value) (xss : List (List Int)) (K : Nat) (w : World) (hv : OwnR w lo hi v vs xss) (hhi : hi ≤ w.heap.size) (hok : netOk n xss = true) (hK : K < n) :
    Calls Try.prog 44 #[.agg #[.int .i64 n, v], .int .i64 K] w fun e w' => e = .returned (.bool (allB (rankB n xss K) (2 ^ n))) ∧ Below w.heap.size w w' := by
  have HC : Hid (∀ w, OwnR w lo hi v vs xss → hi ≤ w.heap.size → Calls Try.prog 57 #[.agg #[.int .i64 n, v]] w fun e w' => e = .returned (.bool true) ∧ Below w.heap.size w w') := fun w h1 h2 => by
    have := SNetworkOk_c n lo hi v vs xss w h1 h2
    rwa [hok] at this
  have HR : Hid (∀ w, OwnR w lo hi v vs xss → hi ≤ w.heap.size → Calls Try.prog 86 #[.agg #[.int .i64 n, v], .int .i64 K, .int .i64 0] w fun e w' => e = .returned (.bool (allB (rankB n xss K) (2 ^ n))) ∧ Below w.heap.size w w') := fun w h1 h2 => l10Rank_c n lo hi v vs xss K w h1 h2 hok hK
  have hn8 := netOk_n hok
  obtain ⟨RES, hRES⟩ : ∃ r, r = allB (rankB n xss K) (2 ^ n) := ⟨_, rfl⟩
  rw [← hRES] at HR ⊢
  obtain ⟨ao, g, cap, rfl, -, -, -⟩ := hv.rows
  have HV := Lib.hid hv
  obtain ⟨L, hlen⟩ : ∃ l, l = xss.length := ⟨_, rfl⟩
  rw [← hlen] at HV HC HR ⊢
  have hwire : inB (K : Int) 0 ((n : Int) - 1) = true := inB_mk (by omega)
  clear hv hlen hok hRES
  go_enter Try.func44, Try.ntmps44
  go_wp2_with fail
  obtain ⟨W1, hW1, c0, c1, hsz, hB1, -, -⟩ := box2 w (.int .i64 n) (.slice ao L cap) 32
  try rw [hW1]
  clear hW1
  refine (HC.out W1 (HV.out.below hB1 (by omega)) (by omega)).mono ?_
  rintro e w1 ⟨rfl, b1⟩
  obtain ⟨d0, d1, z1⟩ := boxC b1 (by omega) c0 c1
  have zz := b1.size
  clear c0 c1
  go_wp2_with (go_at_call 62; refine (l01In_c _ _ _ _).mono ?_; rintro e w' ⟨rfl, rfl⟩)
  refine (HR.out w1 ((HV.out.below hB1 (by omega)).below b1 (by omega)) (by omega)).mono ?_
  rintro e w2 ⟨rfl, b2⟩
  go_wp2
  go_ret
  exact ⟨rfl, hB1.trans ((b1.trans (b2.mono zz)).mono (by omega))⟩
theorem PlacesRank_i_c (n : Int) (lo hi : Nat) (v : Value) (vs : List Value) (xss : List (List Int)) (k : Int) (w : World) (hv : OwnR w lo hi v vs xss) (hhi : hi ≤ w.heap.size) :
    Calls Try.prog 45 #[.agg #[.int .i64 n, v], .int .i64 k] w fun e w' => e = .returned (.bool (rankR n xss k)) ∧ Below w.heap.size w w' := by
  cases hok : netOk n xss
  · rw [show rankR n xss k = false by simp [rankR, hok]]
    exact PlacesRank_i_no n lo hi v vs xss k w hv hhi (.inl hok)
  · cases hk : inB k 0 (n - 1)
    · rw [show rankR n xss k = false by simp [rankR, hk]]
      exact PlacesRank_i_no n lo hi v vs xss k w hv hhi (.inr ⟨hok, hk⟩)
    · have h1 := netOk_n hok
      have h2 := inB_of hk
      obtain ⟨a, rfl⟩ : ∃ a : Nat, n = a := ⟨n.toNat, by omega⟩
      obtain ⟨b, rfl⟩ : ∃ b : Nat, k = b := ⟨k.toNat, by omega⟩
      rw [rankR_yes hok (by omega)]
      exact PlacesRank_i_yes a lo hi v vs xss b w hv hhi hok (by omega)
theorem PlacesRank_s_c (n : Int) (lo hi : Nat) (v : Value) (vs : List Value) (xss : List (List Int)) (k : Int) (w : World) (hv : OwnR w lo hi v vs xss) (hhi : hi ≤ w.heap.size) :
    Calls Try.prog 44 #[.agg #[.int .i64 n, v], .int .i64 k] w fun e w' => e = .returned (.bool (rankR n xss k)) ∧ Below w.heap.size w w' := by
  cases hok : netOk n xss
  · rw [show rankR n xss k = false by simp [rankR, hok]]
    exact PlacesRank_s_no n lo hi v vs xss k w hv hhi (.inl hok)
  · cases hk : inB k 0 (n - 1)
    · rw [show rankR n xss k = false by simp [rankR, hk]]
      exact PlacesRank_s_no n lo hi v vs xss k w hv hhi (.inr ⟨hok, hk⟩)
    · have h1 := netOk_n hok
      have h2 := inB_of hk
      obtain ⟨a, rfl⟩ : ∃ a : Nat, n = a := ⟨n.toNat, by omega⟩
      obtain ⟨b, rfl⟩ : ∃ b : Nat, k = b := ⟨k.toNat, by omega⟩
      rw [rankR_yes hok (by omega)]
      exact PlacesRank_s_yes a lo hi v vs xss b w hv hhi hok (by omega)
theorem fnExactPlacesRank_walk (w : World) (a0 : Int) (u0 : Value) (us0 : List Value) (x0 : List (List Int)) (hu : RowsV w 0 w.heap.size u0 us0 x0) (hm : x0.length ≤ maxLen) (hn : ∀ xs ∈ x0, xs.length ≤ maxLen) (a1 : Int) (_w1 : (Lit.int .i64 a1).wf = true) :
    Calls Try.prog 13 #[.agg #[.int .i64 a0, u0], .int .i64 a1] w fun e w' => e = .returned (.bool true) ∧ Below w.heap.size w w' :=
  FnExactPlacesRank_core w a0 u0 us0 x0 hu hm hn a1 (rankR a0 x0 a1) (fun w l h v vs hv hh _ => PlacesRank_s_c a0 l h v vs x0 a1 w hv hh) (fun w l h v vs hv hh _ => PlacesRank_i_c a0 l h v vs x0 a1 w hv hh)
end Go.Proofs.Ytnheioohmcgpjaa
