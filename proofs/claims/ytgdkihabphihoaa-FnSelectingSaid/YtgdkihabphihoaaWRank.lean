/- Whether a wire has its rank: both functions on all arguments, and the law. Conditions: none. -/
import Derived.Test.YtgdkihabphihoaaBitsC
import Derived.Test.YtgdkihabphihoaaMaskL
namespace Go.Proofs.Ytgdkihabphihoaa
open Go.RowKit
set_option maxRecDepth 100000
set_option linter.unusedVariables false

set_option maxHeartbeats 2000000 in
theorem PlacesRank_i_yes (n : Nat) (lo hi : Nat) (v : Value) (vs : List Value) (xss : List (List Int)) (K : Nat) (w : World) (hv : OwnR w lo hi v vs xss) (hhi : hi ≤ w.heap.size) (hok : netOk n xss = true) (hK : K < n) :
    Calls Try.prog 40 #[.agg #[.int .i64 n, v], .int .i64 K] w fun e w' => e = .returned (.bool (allB (rankB n xss K) (2 ^ n))) ∧ Below w.heap.size w w' := by
  have HC : Hid (∀ w, OwnR w lo hi v vs xss → hi ≤ w.heap.size → Calls Try.prog 104 #[.agg #[.int .i64 n, v]] w fun e w' => e = .returned (.bool true) ∧ Below w.heap.size w w') := fun w h1 h2 => by
    have := NetworkOk_c n lo hi v vs xss w h1 h2
    rwa [hok] at this
  have CE0 : Hid (∀ (w : World) (m : Nat), OwnR w lo hi v vs xss → hi ≤ w.heap.size → m < 2 ^ n → Calls Try.prog 132 #[.agg #[.int .i64 n, v], .int .i64 m] w fun e w' => e = .returned (.int .i64 (bitsP xss m : Nat)) ∧ Below w.heap.size w w') := fun w m h1 h2 h3 => bits_c n lo hi v vs xss m w h1 h2 hok h3
  have hwire : inB (K : Int) 0 ((n : Int) - 1) = true := inB_mk (by omega)
  have HP := Lib.hid (fun (m : Nat) (h : m < 2 ^ n) => bitsP_lt' hok h)
  have hn8 : n ≤ 8 := by have := netOk_n hok; omega
  have h256 := pow_le_256 n hn8
  obtain ⟨RES, hRES⟩ : ∃ r, r = allB (rankB n xss K) (2 ^ n) := ⟨_, rfl⟩
  have HRES := Lib.hid hRES
  rw [← hRES]
  clear hRES
  have hlen60 := netOk_len hok
  obtain ⟨ao, g, cap, rfl, -, -, -⟩ := hv.rows
  have HV := Lib.hid hv
  obtain ⟨L, hlen⟩ : ∃ l, l = xss.length := ⟨_, rfl⟩
  rw [← hlen] at HV HC CE0 hlen60 ⊢
  have HLEN := Lib.hid hlen
  obtain ⟨N, hN⟩ : ∃ N, N = 2 ^ n := ⟨_, rfl⟩
  have hwp := wrap_pow n hn8
  rw [← hN] at hwp HP CE0 h256 HRES
  have HN := Lib.hid hN
  clear hv hlen hok hN
  go_enter Try.func40, Try.ntmps40
  go_wp2_with fail
  obtain ⟨W1, hW1, c0, c1, hsz, hB1, -, -⟩ := box2 w (.int .i64 n) (.slice ao L cap) 27
  try rw [hW1]
  clear hW1
  refine (HC.out W1 (HV.out.below hB1 (by omega)) (by omega)).mono ?_
  rintro e w1 ⟨rfl, b1⟩
  obtain ⟨d0, d1, z1⟩ := boxC b1 (by omega) c0 c1
  have zz := b1.size
  have HVb := Lib.hid ((HV.out.below hB1 (by omega)).below b1 (by omega))
  have HB1 : Hid (Below w.heap.size w w1) := hB1.trans (b1.mono (by omega))
  have hle1 : hi ≤ w1.heap.size := by omega
  clear c0 c1 HV HC hB1 b1 hsz zz
  go_wp2_with fail
  refine (isWire_c n K _ w1).mono ?_
  rintro e w1 ⟨rfl, b2⟩
  rw [hwire]
  have zz2 := b2.size
  obtain ⟨d0, d1, z1⟩ := boxC b2 z1 d0 d1
  replace HVb := Lib.hid (HVb.out.below b2 hle1)
  replace HB1 : Hid (Below w.heap.size w w1) := HB1.out.trans (b2.mono (by omega))
  replace hle1 : hi ≤ w1.heap.size := by omega
  clear b2 zz2
  go_wp2_with fail
  go_loopw [18] (fun i wr => ∃ k : Nat, k ≤ N ∧ i = .int .i64 k ∧ Hid (allB (rankB n xss K) k = true) ∧ Below w1.heap.size w1 wr) (fun i _ => N - (intOf i).toNat)
  case atStart => exact ⟨0, Nat.zero_le _, rfl, allB_zero _, Below.refl _ _⟩
  case round =>
    obtain ⟨k, hk, rfl, HA, hb⟩ := hrel
    obtain ⟨c0, c1, hzr⟩ := boxC hb z1 d0 d1
    have hzz := hb.size
    have hle : hi ≤ wr.heap.size := by omega
    have HVr := Lib.hid (HVb.out.below hb (by omega))
    have HB := Lib.hid (HB1.out.trans (hb.mono (by omega)))
    have HB2 := Lib.hid hb
    clear d0 d1 hb
    by_cases hlt : k < N
    · obtain ⟨hE1, hE2⟩ := HP.out k hlt
      have CE := Lib.hid (fun w h1 h2 => CE0.out w k h1 h2 hlt)
      obtain ⟨E, hE⟩ : ∃ E, E = bitsP xss k := ⟨_, rfl⟩
      rw [← hE] at CE hE1 hE2
      have HE := Lib.hid hE
      have hp : popc k ≤ n := popc_lt n k hn8 (by rw [← HN.out]; exact hlt)
      have hE256 : E < 256 := by omega
      have hk256 : k < 256 := by omega
      clear hE
      have CS : Hid (∀ w, Calls Try.prog 135 #[.int .i64 n, .int .i64 k] w fun e w' => e = .returned (.int .i64 (srt n k : Nat)) ∧ w = w') := fun w => sorted_c n k w hn8 hk256 hp
      obtain ⟨S, hS⟩ : ∃ S, S = srt n k := ⟨_, rfl⟩
      rw [← hS] at CS
      have HSS := Lib.hid hS
      have hS256 : S < 256 := by have := srt_lt n k hn8 hp; have := HN.out; omega
      have hx := xor_test E S K hE256 hS256 (by omega)
      clear hS
      by_cases hq : E / 2 ^ K % 2 = S / 2 ^ K % 2
      · have HF : Hid (rankB n xss K k = true) := by
          show _ = _
          rw [rankB, ← HE.out, ← HSS.out, hq]
          simp
        rw [if_pos hq] at hx
        clear hq
        go_wp2_with fail
        refine wp_region_later wr.heap.size wr (by kernel_rfl) (by kernel_rfl) (Below.refl _ _) ?_
        have hLW := LW.cells (B := wr.heap.size) (w0 := wr)
        repeat (go_big_quiet_step ((first | (go_at_call 132; refine LW.call (Nat.le_refl _) (CE.out _ (HVr.out.below (LW.h _) hle) (Nat.le_trans hle (LW.h _).size))) | (go_at_call 135; refine LW.call_same (CS.out _)) | fail)))
        refine wpQuiet_nil ?_
        rintro w2 ⟨⟨w2s, hb2⟩, rfl⟩
        clear hLW
        go_wp2
        go_roundw
        case rel => exact ⟨k + 1, by omega, by go_num, allB_snoc HA.out HF.out, HB2.out.trans (hb2.mono (by omega))⟩
        case measure => simp [intOf]; omega
      · have HNO : Hid (RES = false) := by
          rw [HRES.out]
          refine allB_no hlt ?_
          rw [rankB, ← HE.out, ← HSS.out]
          simp [hq]
        rw [if_neg hq] at hx
        clear hq
        go_wp2_with fail
        refine wp_region_later wr.heap.size wr (by kernel_rfl) (by kernel_rfl) (Below.refl _ _) ?_
        have hLW := LW.cells (B := wr.heap.size) (w0 := wr)
        repeat (go_big_quiet_step ((first | (go_at_call 132; refine LW.call (Nat.le_refl _) (CE.out _ (HVr.out.below (LW.h _) hle) (Nat.le_trans hle (LW.h _).size))) | (go_at_call 135; refine LW.call_same (CS.out _)) | fail)))
        refine wpQuiet_nil ?_
        rintro w2 ⟨⟨w2s, hb2⟩, rfl⟩
        clear hLW
        go_wp2
        go_ret
        exact ⟨by rw [HNO.out]; rfl, HB.out.trans (hb2.mono (by omega))⟩
    · have HE : Hid (RES = true) := by
        show RES = true
        rw [HRES.out, show N = k by omega]
        exact HA.out
      go_wp2
      go_ret
      exact ⟨by rw [HE.out]; rfl, HB.out⟩

/-- Whether a wire of a network has its rank. -/
def rankR (n : Int) (xss : List (List Int)) (k : Int) : Bool := netOk n xss && inB k 0 (n - 1) && allB (rankB n.toNat xss k.toNat) (2 ^ n.toNat)
theorem rankR_yes {n K : Nat} {xss : List (List Int)} (h : netOk n xss = true) (hK : K < n) : rankR n xss K = allB (rankB n xss K) (2 ^ n) := by
  rw [rankR, h, inB_mk (by omega)]
  simp
set_option maxHeartbeats 1000000 in
theorem PlacesRank_i_no (n : Int) (lo hi : Nat) (v : Value) (vs : List Value) (xss : List (List Int)) (k : Int) (w : World) (hv : OwnR w lo hi v vs xss) (hhi : hi ≤ w.heap.size) (hno : netOk n xss = false ∨ (netOk n xss = true ∧ inB k 0 (n - 1) = false)) :
    Calls Try.prog 40 #[.agg #[.int .i64 n, v], .int .i64 k] w fun e w' => e = .returned (.bool false) ∧ Below w.heap.size w w' := by
  have HC := Lib.hid (NetworkOk_c n lo hi v vs xss)
  obtain ⟨ao, g, cap, rfl, -, -, -⟩ := hv.rows
  have HV := Lib.hid hv
  obtain ⟨L, hlen⟩ : ∃ l, l = xss.length := ⟨_, rfl⟩
  rw [← hlen] at HV HC ⊢
  have hn8 : netOk n xss = true → 1 ≤ n ∧ n ≤ 8 := netOk_n
  clear hv hlen
  rcases hno with hok | ⟨hok, hbad⟩
  · rw [hok] at HC
    clear hok hn8
    go_enter Try.func40, Try.ntmps40
    go_wp2_with fail
    obtain ⟨W1, hW1, c0, c1, hsz, hB1, -, -⟩ := box2 w (.int .i64 n) (.slice ao L cap) 27
    try rw [hW1]
    clear hW1
    refine (HC.out W1 (HV.out.below hB1 (by omega)) (by omega)).mono ?_
    rintro e w1 ⟨rfl, b1⟩
    go_wp2
    go_ret
    exact ⟨rfl, hB1.trans (b1.mono (by omega))⟩
  · obtain ⟨hn1, hn9⟩ := hn8 hok
    rw [hok] at HC
    clear hok hn8
    all_goals
      go_enter Try.func40, Try.ntmps40
      go_wp2_with fail
      obtain ⟨W1, hW1, c0, c1, hsz, hB1, -, -⟩ := box2 w (.int .i64 n) (.slice ao L cap) 27
      try rw [hW1]
      clear hW1
      refine (HC.out W1 (HV.out.below hB1 (by omega)) (by omega)).mono ?_
      rintro e w1 ⟨rfl, b1⟩
      obtain ⟨d0, d1, z1⟩ := boxC b1 (by omega) c0 c1
      have zz := b1.size
      clear c0 c1
      go_wp2_with fail
      refine (isWire_c n k _ w1).mono ?_
      rintro e w2 ⟨rfl, b2⟩
      rw [hbad]
      go_wp2
      go_ret
      exact ⟨rfl, hB1.trans ((b1.trans (b2.mono zz)).mono (by omega))⟩
theorem PlacesRank_i_c (n : Int) (lo hi : Nat) (v : Value) (vs : List Value) (xss : List (List Int)) (k : Int) (w : World) (hv : OwnR w lo hi v vs xss) (hhi : hi ≤ w.heap.size) :
    Calls Try.prog 40 #[.agg #[.int .i64 n, v], .int .i64 k] w fun e w' => e = .returned (.bool (rankR n xss k)) ∧ Below w.heap.size w w' := by
  cases hok : netOk n xss
  · rw [show rankR n xss k = false by simp [rankR, hok]]
    exact PlacesRank_i_no n lo hi v vs xss k w hv hhi (.inl hok)
  · cases hk : inB k 0 (n - 1)
    · rw [show rankR n xss k = false by simp [rankR, hk]]
      exact PlacesRank_i_no n lo hi v vs xss k w hv hhi (.inr ⟨hok, hk⟩)
    · have h1 := netOk_n hok
      have h2 := inB_of hk
      obtain ⟨a, rfl⟩ : ∃ a : Nat, n = a := ⟨n.toNat, by omega⟩
      obtain ⟨b, rfl⟩ : ∃ b : Nat, k = b := ⟨k.toNat, by omega⟩
      rw [rankR_yes hok (by omega)]
      exact PlacesRank_i_yes a lo hi v vs xss b w hv hhi hok (by omega)
end Go.Proofs.Ytgdkihabphihoaa
