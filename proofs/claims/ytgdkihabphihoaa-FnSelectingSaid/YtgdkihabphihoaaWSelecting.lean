/- Whether a network selects: both functions on all arguments, and the law. Conditions: none. -/
import Derived.Test.YtgdkihabphihoaaBitsC
import Derived.Test.YtgdkihabphihoaaMaskL
namespace Go.Proofs.Ytgdkihabphihoaa
open Go.RowKit
set_option maxRecDepth 100000
set_option linter.unusedVariables false

/-- The first k wires bear the least values of a mask, in the end. -/
def selB (n : Nat) (xss : List (List Int)) (k : Nat) (m : Nat) : Bool :=
  if k ≤ n - popc m then bitsP xss m % 2 ^ k == 0 else bitsP xss m / 2 ^ k * 2 ^ k + (2 ^ k - 1) == 2 ^ n - 1
theorem sel_low (k : Nat) (hk : k ≤ 8) : wrap64 (2 ^ k) = ((2 ^ k : Nat) : Int) ∧ wrap64 (((2 ^ k : Nat) : Int) - 1) = ((2 ^ k - 1 : Nat) : Int) := by
  have : ∀ k ≤ 8, wrap64 (2 ^ k) = ((2 ^ k : Nat) : Int) ∧ wrap64 (((2 ^ k : Nat) : Int) - 1) = ((2 ^ k - 1 : Nat) : Int) := by decide +kernel
  exact this k hk
theorem sel_bits (E k : Nat) (hE : E < 256) (hk : k ≤ 8) : bits BinOp.and IntKind.i64 (E : Int) ((2 ^ k - 1 : Nat) : Int) = ((E % 2 ^ k : Nat) : Int) ∧ bits BinOp.or IntKind.i64 (E : Int) ((2 ^ k - 1 : Nat) : Int) = ((E / 2 ^ k * 2 ^ k + (2 ^ k - 1) : Nat) : Int) ∧
    bits BinOp.andNot IntKind.i64 (E : Int) ((2 ^ k - 1 : Nat) : Int) = ((E / 2 ^ k * 2 ^ k : Nat) : Int) := by
  have : ∀ E < 256, ∀ k ≤ 8, bits BinOp.and IntKind.i64 ((E : Nat) : Int) ((2 ^ k - 1 : Nat) : Int) = ((E % 2 ^ k : Nat) : Int) ∧ bits BinOp.or IntKind.i64 ((E : Nat) : Int) ((2 ^ k - 1 : Nat) : Int) = ((E / 2 ^ k * 2 ^ k + (2 ^ k - 1) : Nat) : Int) ∧
    bits BinOp.andNot IntKind.i64 ((E : Nat) : Int) ((2 ^ k - 1 : Nat) : Int) = ((E / 2 ^ k * 2 ^ k : Nat) : Int) := by decide +kernel
  exact this E hE k hk
theorem sel_all (n k : Nat) (hn : n ≤ 8) (hk : k ≤ n) : (2 ^ n - 1) / 2 ^ k * 2 ^ k + (2 ^ k - 1) = 2 ^ n - 1 := by
  have : ∀ n ≤ 8, ∀ k ≤ n, (2 ^ n - 1) / 2 ^ k * 2 ^ k + (2 ^ k - 1) = 2 ^ n - 1 := by decide +kernel
  exact this n hn k hk
set_option maxHeartbeats 4000000 in
theorem IsSelecting_i_yes (n : Nat) (lo hi : Nat) (v : Value) (vs : List Value) (xss : List (List Int)) (K : Nat) (w : World) (hv : OwnR w lo hi v vs xss) (hhi : hi ≤ w.heap.size) (hok : netOk n xss = true) (hK : K ≤ n) :
    Calls Try.prog 38 #[.agg #[.int .i64 n, v], .int .i64 K] w fun e w' => e = .returned (.bool (allB (selB n xss K) (2 ^ n))) ∧ Below w.heap.size w w' := by
  have HC : Hid (∀ w, OwnR w lo hi v vs xss → hi ≤ w.heap.size → Calls Try.prog 104 #[.agg #[.int .i64 n, v]] w fun e w' => e = .returned (.bool true) ∧ Below w.heap.size w w') := fun w h1 h2 => by
    have := NetworkOk_c n lo hi v vs xss w h1 h2
    rwa [hok] at this
  have CE0 : Hid (∀ (w : World) (m : Nat), OwnR w lo hi v vs xss → hi ≤ w.heap.size → m < 2 ^ n → Calls Try.prog 132 #[.agg #[.int .i64 n, v], .int .i64 m] w fun e w' => e = .returned (.int .i64 (bitsP xss m : Nat)) ∧ Below w.heap.size w w') := fun w m h1 h2 h3 => bits_c n lo hi v vs xss m w h1 h2 hok h3
  have HP := Lib.hid (fun (m : Nat) (h : m < 2 ^ n) => bitsP_lt' hok h)
  have hn8 : n ≤ 8 := by have := netOk_n hok; omega
  have h256 := pow_le_256 n hn8
  obtain ⟨RES, hRES⟩ : ∃ r, r = allB (selB n xss K) (2 ^ n) := ⟨_, rfl⟩
  have HRES := Lib.hid hRES
  rw [← hRES]
  clear hRES
  have hlen60 := netOk_len hok
  obtain ⟨ao, g, cap, rfl, -, -, -⟩ := hv.rows
  have HV := Lib.hid hv
  obtain ⟨L, hlen⟩ : ∃ l, l = xss.length := ⟨_, rfl⟩
  rw [← hlen] at HV HC CE0 hlen60 ⊢
  have HLEN := Lib.hid hlen
  obtain ⟨N, hN⟩ : ∃ N, N = 2 ^ n := ⟨_, rfl⟩
  have hwp := wrap_pow n hn8
  rw [← hN] at hwp HP CE0 h256 HRES
  have HN := Lib.hid hN
  clear hv hlen hok hN
  have hk0 : ¬ (K : Int) < 0 := by omega
  have hk1 : ¬ (n : Int) < (K : Int) := by omega
  have hk2 : ¬ n < K := by omega
  have hl := sel_low K (by omega)
  obtain ⟨hl1, hl2⟩ := hl
  have ha2 := (sel_low n hn8).2
  have hal : (2 ^ n - 1) / 2 ^ K * 2 ^ K + (2 ^ K - 1) = 2 ^ n - 1 := sel_all n K hn8 hK
  have hSB : ∀ E : Nat, E < 256 → _ := fun E hE => sel_bits E K hE (by omega)
  obtain ⟨T, hT⟩ : ∃ T, T = 2 ^ K := ⟨_, rfl⟩
  rw [← hT] at hl1 hl2 hal hSB
  rw [← HN.out] at ha2 hal
  obtain ⟨Lw, hLw⟩ : ∃ x, x = T - 1 := ⟨_, rfl⟩
  obtain ⟨Al, hAl⟩ : ∃ x, x = N - 1 := ⟨_, rfl⟩
  have hAl256 : Al < 256 := by omega
  have hN1 : 1 ≤ N := by rw [HN.out]; exact Nat.one_le_two_pow
  have hSA := hSB Al hAl256
  rw [← hLw] at hl2 hal hSB hSA
  rw [← hAl] at ha2 hal
  have HAL := Lib.hid hal
  have HSB := Lib.hid hSB
  have HTT := Lib.hid hT
  have HLW2 := Lib.hid hLw
  have HAL2 := Lib.hid hAl
  clear hT hLw hAl hal hSB
  go_enter Try.func38, Try.ntmps38
  go_wp2_with fail
  obtain ⟨W1, hW1, c0, c1, hsz, hB1, -, -⟩ := box2 w (.int .i64 n) (.slice ao L cap) 27
  try rw [hW1]
  clear hW1
  refine (HC.out W1 (HV.out.below hB1 (by omega)) (by omega)).mono ?_
  rintro e w1 ⟨rfl, b1⟩
  obtain ⟨d0, d1, z1⟩ := boxC b1 (by omega) c0 c1
  have zz := b1.size
  have HVb := Lib.hid ((HV.out.below hB1 (by omega)).below b1 (by omega))
  have HB1 : Hid (Below w.heap.size w w1) := hB1.trans (b1.mono (by omega))
  have hle1 : hi ≤ w1.heap.size := by omega
  clear c0 c1 HV HC hB1 b1 hsz zz
  go_wp2_with fail
  try simp only [hl1, hl2, hwp]
  go_loopw [33] (fun i wr => ∃ k : Nat, k ≤ N ∧ i = .int .i64 k ∧ Hid (allB (selB n xss K) k = true) ∧ Below w1.heap.size w1 wr) (fun i _ => N - (intOf i).toNat)
  case atStart => exact ⟨0, Nat.zero_le _, rfl, allB_zero _, Below.refl _ _⟩
  case round =>
    obtain ⟨k, hk, rfl, HA, hb⟩ := hrel
    obtain ⟨c0, c1, hzr⟩ := boxC hb z1 d0 d1
    have hzz := hb.size
    have hle : hi ≤ wr.heap.size := by omega
    have HVr := Lib.hid (HVb.out.below hb (by omega))
    have HB := Lib.hid (HB1.out.trans (hb.mono (by omega)))
    have HB2 := Lib.hid hb
    clear d0 d1 hb
    by_cases hlt : k < N
    · obtain ⟨hE1, hE2⟩ := HP.out k hlt
      have CE := Lib.hid (fun w h1 h2 => CE0.out w k h1 h2 hlt)
      obtain ⟨E, hE⟩ : ∃ E, E = bitsP xss k := ⟨_, rfl⟩
      rw [← hE] at CE hE1 hE2
      have HE := Lib.hid hE
      have hp : popc k ≤ n := popc_lt n k hn8 (by rw [← HN.out]; exact hlt)
      have hE256 : E < 256 := by omega
      have hk256 : k < 256 := by omega
      clear hE
      obtain ⟨P, hP⟩ : ∃ P, P = popc k := ⟨_, rfl⟩
      have CO : Hid (∀ w, Calls Try.prog 133 #[.int .i64 k] w fun e w' => e = .returned (.int .i64 P) ∧ w = w') := fun w => by rw [hP]; exact ones_c k w hk256
      rw [← hP] at hp hE2
      have hws := wrap_sub n P hn8 hp
      obtain ⟨hs1, hs2, hs3⟩ := HSB.out E hE256
      have HRK : Hid (selB n xss K k = if K ≤ n - P then E % T == 0 else E / T * T + Lw == Al) := by show _ = _; rw [selB, ← HE.out, ← HTT.out, ← HN.out, ← HLW2.out, ← HAL2.out, ← hP]
      obtain ⟨Z, hZ⟩ : ∃ Z, Z = n - P := ⟨_, rfl⟩
      rw [← hZ] at hws HRK
      obtain ⟨x1, hx1⟩ : ∃ x, x = E % T := ⟨_, rfl⟩
      obtain ⟨x2, hx2⟩ : ∃ x, x = E / T * T := ⟨_, rfl⟩
      obtain ⟨x3, hx3⟩ : ∃ x, x = E / T * T + Lw := ⟨_, rfl⟩
      have HX3 : Hid (x3 = x2 + Lw) := by show _ = _; rw [hx3, hx2]
      rw [← hx1, ← hx3] at HRK
      rw [← hx1] at hs1
      rw [← hx3] at hs2
      rw [← hx2] at hs3
      clear hP hZ hx1 hx2 hx3
      by_cases hz : K ≤ Z
      · have hz2 : (K : Int) ≤ (Z : Int) := by omega
        have hz4 : ¬ (Z : Int) < (K : Int) := by omega
        have hz5 : ¬ Z < K := by omega
        rw [if_pos hz] at HRK
        by_cases hx : x1 = 0
        · have hx2 : ((x1 : Int) != 0) = false := by rw [hx]; rfl
          have HF : Hid (selB n xss K k = true) := by show _ = _; rw [HRK.out, hx]; rfl
          clear hx hp
          go_wp2_with fail
          refine (CE.out wr HVr.out hle).mono ?_
          rintro e wq ⟨rfl, bq⟩
          obtain ⟨f0, f1, hz9⟩ := boxC bq hzr c0 c1
          have hzq := bq.size
          clear c0 c1
          go_wp2_with fail
          refine wp_region_later wq.heap.size wq (by kernel_rfl) (by kernel_rfl) (Below.refl _ _) ?_
          have hLW := LW.cells (B := wq.heap.size) (w0 := wq)
          repeat (go_big_quiet_step ((first | (go_at_call 133; refine LW.call_same (CO.out _)) | fail)))
          refine wpQuiet_nil ?_
          rintro w2 ⟨⟨w2s, hb2⟩, rfl⟩
          clear hLW
          obtain ⟨g0, g1, -⟩ := boxC hb2 hz9 f0 f1
          clear f0 f1
          go_wp2
          go_roundw
          case rel => exact ⟨k + 1, by omega, by go_num, allB_snoc HA.out HF.out, HB2.out.trans ((bq.trans (hb2.mono hzq)).mono (by omega))⟩
          case measure => simp [intOf]; omega
        · have hx2 : ((x1 : Int) != 0) = true := by rw [bne_iff_ne]; omega
          have HNO : Hid (RES = false) := by
            rw [HRES.out]
            refine allB_no hlt ?_
            rw [HRK.out]
            simpa using hx
          clear hx hp
          go_wp2_with fail
          refine (CE.out wr HVr.out hle).mono ?_
          rintro e wq ⟨rfl, bq⟩
          obtain ⟨f0, f1, hz9⟩ := boxC bq hzr c0 c1
          have hzq := bq.size
          clear c0 c1
          go_wp2_with fail
          refine wp_region_later wq.heap.size wq (by kernel_rfl) (by kernel_rfl) (Below.refl _ _) ?_
          have hLW := LW.cells (B := wq.heap.size) (w0 := wq)
          repeat (go_big_quiet_step ((first | (go_at_call 133; refine LW.call_same (CO.out _)) | fail)))
          refine wpQuiet_nil ?_
          rintro w2 ⟨⟨w2s, hb2⟩, rfl⟩
          clear hLW
          obtain ⟨g0, g1, -⟩ := boxC hb2 hz9 f0 f1
          clear f0 f1
          go_wp2
          go_ret
          exact ⟨by rw [HNO.out]; rfl, HB.out.trans ((bq.trans (hb2.mono hzq)).mono (by omega))⟩
      · have hz2 : ¬ (K : Int) ≤ (Z : Int) := by omega
        have hz3 : (Z : Int) < (K : Int) := by omega
        have hz5 : Z < K := by omega
        rw [if_neg hz] at HRK
        by_cases hx : x3 = Al
        · have hx2 : ((x3 : Int) != (N : Int) - 1) = false := by rw [bne_eq_false_iff_eq]; have := HAL2.out; omega
          have HF : Hid (selB n xss K k = true) := by show _ = _; rw [HRK.out, hx]; simp
          clear hx hp
          go_wp2_with fail
          refine (CE.out wr HVr.out hle).mono ?_
          rintro e wq ⟨rfl, bq⟩
          obtain ⟨f0, f1, hz9⟩ := boxC bq hzr c0 c1
          have hzq := bq.size
          clear c0 c1
          go_wp2_with fail
          refine wp_region_later wq.heap.size wq (by kernel_rfl) (by kernel_rfl) (Below.refl _ _) ?_
          have hLW := LW.cells (B := wq.heap.size) (w0 := wq)
          repeat (go_big_quiet_step ((first | (go_at_call 133; refine LW.call_same (CO.out _)) | fail)))
          refine wpQuiet_nil ?_
          rintro w2 ⟨⟨w2s, hb2⟩, rfl⟩
          clear hLW
          obtain ⟨g0, g1, -⟩ := boxC hb2 hz9 f0 f1
          clear f0 f1
          go_wp2
          go_roundw
          case rel => exact ⟨k + 1, by omega, by go_num, allB_snoc HA.out HF.out, HB2.out.trans ((bq.trans (hb2.mono hzq)).mono (by omega))⟩
          case measure => simp [intOf]; omega
        · have hx2 : ((x3 : Int) != (N : Int) - 1) = true := by rw [bne_iff_ne]; have := HAL2.out; omega
          have HNO : Hid (RES = false) := by
            rw [HRES.out]
            refine allB_no hlt ?_
            rw [HRK.out]
            simpa using hx
          clear hx hp
          go_wp2_with fail
          refine (CE.out wr HVr.out hle).mono ?_
          rintro e wq ⟨rfl, bq⟩
          obtain ⟨f0, f1, hz9⟩ := boxC bq hzr c0 c1
          have hzq := bq.size
          clear c0 c1
          go_wp2_with fail
          refine wp_region_later wq.heap.size wq (by kernel_rfl) (by kernel_rfl) (Below.refl _ _) ?_
          have hLW := LW.cells (B := wq.heap.size) (w0 := wq)
          repeat (go_big_quiet_step ((first | (go_at_call 133; refine LW.call_same (CO.out _)) | fail)))
          refine wpQuiet_nil ?_
          rintro w2 ⟨⟨w2s, hb2⟩, rfl⟩
          clear hLW
          obtain ⟨g0, g1, -⟩ := boxC hb2 hz9 f0 f1
          clear f0 f1
          go_wp2
          go_ret
          exact ⟨by rw [HNO.out]; rfl, HB.out.trans ((bq.trans (hb2.mono hzq)).mono (by omega))⟩
    · have HE : Hid (RES = true) := by
        show RES = true
        rw [HRES.out, show N = k by omega]
        exact HA.out
      go_wp2
      go_ret
      exact ⟨by rw [HE.out]; rfl, HB.out⟩
set_option maxHeartbeats 1000000 in
theorem IsSelecting_i_no (n : Int) (lo hi : Nat) (v : Value) (vs : List Value) (xss : List (List Int)) (k : Int) (w : World) (hv : OwnR w lo hi v vs xss) (hhi : hi ≤ w.heap.size) (hno : netOk n xss = false ∨ (netOk n xss = true ∧ inB k 0 n = false)) :
    Calls Try.prog 38 #[.agg #[.int .i64 n, v], .int .i64 k] w fun e w' => e = .returned (.bool false) ∧ Below w.heap.size w w' := by
  have HC := Lib.hid (NetworkOk_c n lo hi v vs xss)
  obtain ⟨ao, g, cap, rfl, -, -, -⟩ := hv.rows
  have HV := Lib.hid hv
  obtain ⟨L, hlen⟩ : ∃ l, l = xss.length := ⟨_, rfl⟩
  rw [← hlen] at HV HC ⊢
  have hn8 : netOk n xss = true → 1 ≤ n ∧ n ≤ 8 := netOk_n
  clear hv hlen
  rcases hno with hok | ⟨hok, hbad⟩
  · rw [hok] at HC
    clear hok hn8
    go_enter Try.func38, Try.ntmps38
    go_wp2_with fail
    obtain ⟨W1, hW1, c0, c1, hsz, hB1, -, -⟩ := box2 w (.int .i64 n) (.slice ao L cap) 27
    try rw [hW1]
    clear hW1
    refine (HC.out W1 (HV.out.below hB1 (by omega)) (by omega)).mono ?_
    rintro e w1 ⟨rfl, b1⟩
    go_wp2
    go_ret
    exact ⟨rfl, hB1.trans (b1.mono (by omega))⟩
  · obtain ⟨hn1, hn9⟩ := hn8 hok
    rw [hok] at HC
    clear hok hn8
    have hbb : k < 0 ∨ (0 ≤ k ∧ n < k) := by
      simp only [inB, Bool.and_eq_false_iff, decide_eq_false_iff_not] at hbad
      omega
    clear hbad
    rcases hbb with hbad | ⟨hbad0, hbad⟩
    all_goals
      go_enter Try.func38, Try.ntmps38
      go_wp2_with fail
      obtain ⟨W1, hW1, c0, c1, hsz, hB1, -, -⟩ := box2 w (.int .i64 n) (.slice ao L cap) 27
      try rw [hW1]
      clear hW1
      refine (HC.out W1 (HV.out.below hB1 (by omega)) (by omega)).mono ?_
      rintro e w1 ⟨rfl, b1⟩
      obtain ⟨d0, d1, z1⟩ := boxC b1 (by omega) c0 c1
      have zz := b1.size
      clear c0 c1
      go_wp2
      go_ret
      exact ⟨rfl, hB1.trans (b1.mono (by omega))⟩
/-- Whether a network selects. -/
def selR (n : Int) (xss : List (List Int)) (k : Int) : Bool := netOk n xss && inB k 0 n && allB (selB n.toNat xss k.toNat) (2 ^ n.toNat)
theorem selR_yes {n K : Nat} {xss : List (List Int)} (h : netOk n xss = true) (hK : K ≤ n) : selR n xss K = allB (selB n xss K) (2 ^ n) := by
  rw [selR, h, inB_mk (by omega)]
  simp
theorem IsSelecting_i_c (n : Int) (lo hi : Nat) (v : Value) (vs : List Value) (xss : List (List Int)) (k : Int) (w : World) (hv : OwnR w lo hi v vs xss) (hhi : hi ≤ w.heap.size) :
    Calls Try.prog 38 #[.agg #[.int .i64 n, v], .int .i64 k] w fun e w' => e = .returned (.bool (selR n xss k)) ∧ Below w.heap.size w w' := by
  cases hok : netOk n xss
  · rw [show selR n xss k = false by simp [selR, hok]]
    exact IsSelecting_i_no n lo hi v vs xss k w hv hhi (.inl hok)
  · cases hk : inB k 0 n
    · rw [show selR n xss k = false by simp [selR, hk]]
      exact IsSelecting_i_no n lo hi v vs xss k w hv hhi (.inr ⟨hok, hk⟩)
    · have h1 := netOk_n hok
      have h2 := inB_of hk
      obtain ⟨a, rfl⟩ : ∃ a : Nat, n = a := ⟨n.toNat, by omega⟩
      obtain ⟨b, rfl⟩ : ∃ b : Nat, k = b := ⟨k.toNat, by omega⟩
      rw [selR_yes hok (by omega)]
      exact IsSelecting_i_yes a lo hi v vs xss b w hv hhi hok (by omega)
end Go.Proofs.Ytgdkihabphihoaa
