/- Which ranks may end on a wire: both functions on all arguments, and the law. Conditions: none. -/
import Derived.Test.YtgdkihabphihoaaBitsC
import Derived.Test.YtgdkihabphihoaaMaskL
namespace Go.Proofs.Ytgdkihabphihoaa
open Go.RowKit
set_option maxRecDepth 100000
set_option linter.unusedVariables false

/-- The least rank so far, behind one more mask. -/
def lowS (n : Nat) (xss : List (List Int)) (K : Nat) (a : Int) (m : Nat) : Int := if bitsP xss m / 2 ^ K % 2 = 0 then (if ((n - popc m : Nat) : Int) - 1 < a then ((n - popc m : Nat) : Int) - 1 else a) else a
/-- The greatest rank so far, behind one more mask. -/
def highS (n : Nat) (xss : List (List Int)) (K : Nat) (a : Int) (m : Nat) : Int := if bitsP xss m / 2 ^ K % 2 = 0 then a else (if a < ((n - popc m : Nat) : Int) then ((n - popc m : Nat) : Int) else a)
def lowF (n : Nat) (xss : List (List Int)) (K : Nat) (s : Int) (k : Nat) : Int := (List.range k).foldl (lowS n xss K) s
def highF (n : Nat) (xss : List (List Int)) (K : Nat) (s : Int) (k : Nat) : Int := (List.range k).foldl (highS n xss K) s
theorem lowF_succ (n : Nat) (xss : List (List Int)) (K : Nat) (s : Int) (k : Nat) : lowF n xss K s (k + 1) = lowS n xss K (lowF n xss K s k) k := by simp [lowF, List.range_succ]
theorem highF_succ (n : Nat) (xss : List (List Int)) (K : Nat) (s : Int) (k : Nat) : highF n xss K s (k + 1) = highS n xss K (highF n xss K s k) k := by simp [highF, List.range_succ]
theorem popc_none (m : Nat) (h : m < 256) (hp : popc m = 0) : m = 0 := by
  have : ∀ m < 256, popc m = 0 → m = 0 := by decide +kernel
  exact this m h hp
theorem popc_all (n m K : Nat) (hn : n ≤ 8) (h : m < 2 ^ n) (hp : popc m = n) (hK : K < n) : m / 2 ^ K % 2 = 1 := by
  have : ∀ n ≤ 8, ∀ m < 2 ^ n, popc m = n → ∀ K < n, m / 2 ^ K % 2 = 1 := by decide +kernel
  exact this n hn m h hp K hK
theorem popc_top (n : Nat) (hn : n ≤ 8) : popc (2 ^ n - 1) = n := by
  have : ∀ n ≤ 8, popc (2 ^ n - 1) = n := by decide +kernel
  exact this n hn
/-- Where the least rank begins makes no difference. -/
theorem lowF_start {n : Nat} {xss : List (List Int)} (hok : netOk n xss = true) (K k : Nat) : lowF n xss K n (k + 1) = lowF n xss K ((n : Int) - 1) (k + 1) := by
  have hn := netOk_n hok
  induction k with
  | zero =>
    have h0 := bitsP_lt' hok (m := 0) (Nat.pow_pos (by omega))
    have h256 := pow_le_256 n (by omega)
    have e : bitsP xss 0 = 0 := popc_none _ (by omega) (by rw [h0.2]; rfl)
    rw [lowF_succ, lowF_succ]
    simp only [lowF, List.range_zero, List.foldl_nil, lowS, e]
    have hp : popc 0 = 0 := rfl
    rw [hp]
    simp
    omega
  | succ k ih => rw [lowF_succ, ih, ← lowF_succ]
theorem highF_max (n : Nat) (xss : List (List Int)) (K k : Nat) : highF n xss K 0 k = max 0 (highF n xss K (-1) k) := by
  induction k with
  | zero => rfl
  | succ k ih =>
    rw [highF_succ, highF_succ, ih]
    unfold highS
    split
    · rfl
    · split <;> split <;> omega
theorem highF_start {n : Nat} {xss : List (List Int)} (hok : netOk n xss = true) (K : Nat) (hK : K < n) : highF n xss K (-1) (2 ^ n) = highF n xss K 0 (2 ^ n) := by
  have hn := netOk_n hok
  have hpos : 0 < 2 ^ n := Nat.pow_pos (by omega)
  rw [highF_max]
  obtain ⟨t, ht⟩ : ∃ t, 2 ^ n = t + 1 := ⟨2 ^ n - 1, by omega⟩
  have hl := bitsP_lt' hok (m := t) (by omega)
  have hp : popc t = n := by rw [show t = 2 ^ n - 1 by omega]; exact popc_top n (by omega)
  have hb := popc_all n (bitsP xss t) K (by omega) hl.1 (by rw [hl.2, hp]) hK
  rw [ht, highF_succ]
  unfold highS
  rw [hb, hp]
  simp
  split <;> omega
/-- The ranks that may end on a wire, or -1 twice. -/
def rangeR (n : Int) (xss : List (List Int)) (k : Int) : Int × Int :=
  if netOk n xss = true ∧ inB k 0 (n - 1) = true then (lowF n.toNat xss k.toNat n (2 ^ n.toNat), highF n.toNat xss k.toNat (-1) (2 ^ n.toNat)) else (-1, -1)
set_option maxHeartbeats 2000000 in
theorem RankRange_i_yes (n : Nat) (lo hi : Nat) (v : Value) (vs : List Value) (xss : List (List Int)) (K : Nat) (w : World) (hv : OwnR w lo hi v vs xss) (hhi : hi ≤ w.heap.size) (hok : netOk n xss = true) (hK : K < n) :
    Calls Try.prog 44 #[.agg #[.int .i64 n, v], .int .i64 K] w fun e w' => e = .returned (.tuple #[.int .i64 (lowF n xss K n (2 ^ n)), .int .i64 (highF n xss K (-1) (2 ^ n))]) ∧ Below w.heap.size w w' := by
  have HC : Hid (∀ w, OwnR w lo hi v vs xss → hi ≤ w.heap.size → Calls Try.prog 104 #[.agg #[.int .i64 n, v]] w fun e w' => e = .returned (.bool true) ∧ Below w.heap.size w w') := fun w h1 h2 => by
    have := NetworkOk_c n lo hi v vs xss w h1 h2
    rwa [hok] at this
  have CE0 : Hid (∀ (w : World) (m : Nat), OwnR w lo hi v vs xss → hi ≤ w.heap.size → m < 2 ^ n → Calls Try.prog 132 #[.agg #[.int .i64 n, v], .int .i64 m] w fun e w' => e = .returned (.int .i64 (bitsP xss m : Nat)) ∧ Below w.heap.size w w') := fun w m h1 h2 h3 => bits_c n lo hi v vs xss m w h1 h2 hok h3
  have hwire : inB (K : Int) 0 ((n : Int) - 1) = true := inB_mk (by omega)
  have HP := Lib.hid (fun (m : Nat) (h : m < 2 ^ n) => bitsP_lt' hok h)
  have hn8 : n ≤ 8 := by have := netOk_n hok; omega
  have h256 := pow_le_256 n hn8

  have hlen60 := netOk_len hok
  obtain ⟨ao, g, cap, rfl, -, -, -⟩ := hv.rows
  have HV := Lib.hid hv
  obtain ⟨L, hlen⟩ : ∃ l, l = xss.length := ⟨_, rfl⟩
  rw [← hlen] at HV HC CE0 hlen60 ⊢
  have HLEN := Lib.hid hlen
  obtain ⟨N, hN⟩ : ∃ N, N = 2 ^ n := ⟨_, rfl⟩
  have hwp := wrap_pow n hn8
  rw [← hN] at hwp HP CE0 h256
  have HN := Lib.hid hN
  clear hv hlen hok hN
  go_enter Try.func44, Try.ntmps44
  go_wp2_with fail
  obtain ⟨W1, hW1, c0, c1, hsz, hB1, -, -⟩ := box2 w (.int .i64 n) (.slice ao L cap) 27
  try rw [hW1]
  clear hW1
  refine (HC.out W1 (HV.out.below hB1 (by omega)) (by omega)).mono ?_
  rintro e w1 ⟨rfl, b1⟩
  obtain ⟨d0, d1, z1⟩ := boxC b1 (by omega) c0 c1
  have zz := b1.size
  have HVb := Lib.hid ((HV.out.below hB1 (by omega)).below b1 (by omega))
  have HB1 : Hid (Below w.heap.size w w1) := hB1.trans (b1.mono (by omega))
  have hle1 : hi ≤ w1.heap.size := by omega
  clear c0 c1 HV HC hB1 b1 hsz zz
  go_wp2_with fail
  refine (isWire_c n K _ w1).mono ?_
  rintro e w1 ⟨rfl, b2⟩
  rw [hwire]
  have zz2 := b2.size
  obtain ⟨d0, d1, z1⟩ := boxC b2 z1 d0 d1
  replace HVb := Lib.hid (HVb.out.below b2 hle1)
  replace HB1 : Hid (Below w.heap.size w w1) := HB1.out.trans (b2.mono (by omega))
  replace hle1 : hi ≤ w1.heap.size := by omega
  clear b2 zz2
  go_wp2_with fail
  try simp only [hwp]
  go_loopw [6, 7, 24] (fun x y i wr => ∃ k : Nat, k ≤ N ∧ i = .int .i64 k ∧ x = .int .i64 (lowF n xss K n k) ∧ y = .int .i64 (highF n xss K (-1) k) ∧ Below w1.heap.size w1 wr) (fun x y i _ => N - (intOf i).toNat)
  case atStart => exact ⟨0, Nat.zero_le _, rfl, rfl, rfl, Below.refl _ _⟩
  case round =>
    obtain ⟨k, hk, rfl, rfl, rfl, hb⟩ := hrel
    obtain ⟨c0, c1, hzr⟩ := boxC hb z1 d0 d1
    have hzz := hb.size
    have hle : hi ≤ wr.heap.size := by omega
    have HVr := Lib.hid (HVb.out.below hb (by omega))
    have HB := Lib.hid (HB1.out.trans (hb.mono (by omega)))
    have HB2 := Lib.hid hb
    clear d0 d1 hb
    by_cases hlt : k < N
    · obtain ⟨hE1, hE2⟩ := HP.out k hlt
      have CE := Lib.hid (fun w h1 h2 => CE0.out w k h1 h2 hlt)
      obtain ⟨E, hE⟩ : ∃ E, E = bitsP xss k := ⟨_, rfl⟩
      rw [← hE] at CE hE1 hE2
      have HE := Lib.hid hE
      have hp : popc k ≤ n := popc_lt n k hn8 (by rw [← HN.out]; exact hlt)
      have hE256 : E < 256 := by omega
      have hk256 : k < 256 := by omega
      clear hE
      obtain ⟨P, hP⟩ : ∃ P, P = popc k := ⟨_, rfl⟩
      have CO : Hid (∀ w, Calls Try.prog 133 #[.int .i64 k] w fun e w' => e = .returned (.int .i64 P) ∧ w = w') := fun w => by rw [hP]; exact ones_c k w hk256
      rw [← hP] at hp hE2
      have hws := wrap_sub n P hn8 hp
      have hb1 := bits_one E K hE256 (by omega)
      obtain ⟨Z, hZ⟩ : ∃ Z, Z = n - P := ⟨_, rfl⟩
      have hZ8 : Z ≤ 8 := by omega
      have HSL : Hid (∀ a, lowS n xss K a k = if E / 2 ^ K % 2 = 0 then (if (Z : Int) - 1 < a then (Z : Int) - 1 else a) else a) := fun a => by rw [lowS, ← HE.out, ← hP, ← hZ]
      have HSH : Hid (∀ a, highS n xss K a k = if E / 2 ^ K % 2 = 0 then a else (if a < (Z : Int) then (Z : Int) else a)) := fun a => by rw [highS, ← HE.out, ← hP, ← hZ]
      have HLS := Lib.hid (lowF_succ n xss K n k)
      have HHS := Lib.hid (highF_succ n xss K (-1) k)
      rw [← hZ] at hws
      clear hP hZ
      obtain ⟨A, hA⟩ : ∃ A, A = lowF n xss K n k := ⟨_, rfl⟩
      obtain ⟨B, hB⟩ : ∃ B, B = highF n xss K (-1) k := ⟨_, rfl⟩
      rw [← hA] at HLS
      rw [← hB] at HHS
      rw [← hA, ← hB]
      clear hA hB
      clear hp
      rcases Nat.mod_two_eq_zero_or_one (E / 2 ^ K) with e1 | e1
      · have HX : Hid (E / 2 ^ K % 2 = 0) := e1
        rw [e1] at hb1
        replace hb1 : bits BinOp.and IntKind.i64 ((E : Int) / 2 ^ K) 1 = 0 := hb1
        clear e1
        go_wp2_with fail
        refine wp_region_later wr.heap.size wr (by kernel_rfl) (by kernel_rfl) (Below.refl _ _) ?_
        have hLW := LW.cells (B := wr.heap.size) (w0 := wr)
        repeat (go_big_quiet_step ((first | (go_at_call 133; refine LW.call_same (CO.out _)) | fail)))
        refine wpQuiet_nil ?_
        rintro w2 ⟨⟨w2s, hb2⟩, rfl⟩
        clear hLW
        obtain ⟨f0, f1, hz9⟩ := boxC hb2 hzr c0 c1
        have hzq := hb2.size
        have hb3 := hb2
        have HV2 := Lib.hid (HVr.out.below hb2 hle)
        clear c0 c1 hb2
        go_wp2_with fail
        refine (CE.out w2 HV2.out (by omega)).mono ?_
        rintro e w3 ⟨rfl, b3⟩
        go_wp2
        go_roundw
        case rel => exact ⟨k + 1, by omega, by go_num, by rw [HLS.out, HSL.out, HX.out]; rfl, by rw [HHS.out, HSH.out, HX.out]; rfl, HB2.out.trans ((hb3.trans (b3.mono hzq)).mono (by omega))⟩
        case measure => simp [intOf]; omega
      · have HX : Hid (E / 2 ^ K % 2 = 1) := e1
        rw [e1] at hb1
        replace hb1 : bits BinOp.and IntKind.i64 ((E : Int) / 2 ^ K) 1 = 1 := hb1
        clear e1
        go_wp2_with fail
        refine wp_region_later wr.heap.size wr (by kernel_rfl) (by kernel_rfl) (Below.refl _ _) ?_
        have hLW := LW.cells (B := wr.heap.size) (w0 := wr)
        repeat (go_big_quiet_step ((first | (go_at_call 133; refine LW.call_same (CO.out _)) | fail)))
        refine wpQuiet_nil ?_
        rintro w2 ⟨⟨w2s, hb2⟩, rfl⟩
        clear hLW
        obtain ⟨f0, f1, hz9⟩ := boxC hb2 hzr c0 c1
        have hzq := hb2.size
        have hb3 := hb2
        have HV2 := Lib.hid (HVr.out.below hb2 hle)
        clear c0 c1 hb2
        go_wp2_with fail
        refine (CE.out w2 HV2.out (by omega)).mono ?_
        rintro e w3 ⟨rfl, b3⟩
        go_wp2
        go_roundw
        case rel => exact ⟨k + 1, by omega, by go_num, by rw [HLS.out, HSL.out, HX.out]; rfl, by rw [HHS.out, HSH.out, HX.out]; rfl, HB2.out.trans ((hb3.trans (b3.mono hzq)).mono (by omega))⟩
        case measure => simp [intOf]; omega
    · have HE : Hid (k = N) := by show k = N; omega
      go_wp2
      go_ret2
      exact ⟨by rw [← HN.out, ← HE.out]; rfl, HB.out⟩
set_option maxHeartbeats 1000000 in
theorem RankRange_i_no (n : Int) (lo hi : Nat) (v : Value) (vs : List Value) (xss : List (List Int)) (k : Int) (w : World) (hv : OwnR w lo hi v vs xss) (hhi : hi ≤ w.heap.size) (hno : netOk n xss = false ∨ (netOk n xss = true ∧ inB k 0 (n - 1) = false)) :
    Calls Try.prog 44 #[.agg #[.int .i64 n, v], .int .i64 k] w fun e w' => e = .returned (.tuple #[.int .i64 (-1), .int .i64 (-1)]) ∧ Below w.heap.size w w' := by
  have HC := Lib.hid (NetworkOk_c n lo hi v vs xss)
  obtain ⟨ao, g, cap, rfl, -, -, -⟩ := hv.rows
  have HV := Lib.hid hv
  obtain ⟨L, hlen⟩ : ∃ l, l = xss.length := ⟨_, rfl⟩
  rw [← hlen] at HV HC ⊢
  have hn8 : netOk n xss = true → 1 ≤ n ∧ n ≤ 8 := netOk_n
  clear hv hlen
  rcases hno with hok | ⟨hok, hbad⟩
  · rw [hok] at HC
    clear hok hn8
    go_enter Try.func44, Try.ntmps44
    go_wp2_with fail
    obtain ⟨W1, hW1, c0, c1, hsz, hB1, -, -⟩ := box2 w (.int .i64 n) (.slice ao L cap) 27
    try rw [hW1]
    clear hW1
    refine (HC.out W1 (HV.out.below hB1 (by omega)) (by omega)).mono ?_
    rintro e w1 ⟨rfl, b1⟩
    go_wp2
    go_ret2
    exact ⟨rfl, hB1.trans (b1.mono (by omega))⟩
  · obtain ⟨hn1, hn9⟩ := hn8 hok
    rw [hok] at HC
    clear hok hn8
    all_goals
      go_enter Try.func44, Try.ntmps44
      go_wp2_with fail
      obtain ⟨W1, hW1, c0, c1, hsz, hB1, -, -⟩ := box2 w (.int .i64 n) (.slice ao L cap) 27
      try rw [hW1]
      clear hW1
      refine (HC.out W1 (HV.out.below hB1 (by omega)) (by omega)).mono ?_
      rintro e w1 ⟨rfl, b1⟩
      obtain ⟨d0, d1, z1⟩ := boxC b1 (by omega) c0 c1
      have zz := b1.size
      clear c0 c1
      go_wp2_with fail
      refine (isWire_c n k _ w1).mono ?_
      rintro e w2 ⟨rfl, b2⟩
      rw [hbad]
      go_wp2
      go_ret2
      exact ⟨rfl, hB1.trans ((b1.trans (b2.mono zz)).mono (by omega))⟩
theorem rangeR_no {n : Int} {xss : List (List Int)} {k : Int} (h : ¬ (netOk n xss = true ∧ inB k 0 (n - 1) = true)) : rangeR n xss k = (-1, -1) := if_neg h
theorem rangeR_yes {n K : Nat} {xss : List (List Int)} (h : netOk n xss = true) (hK : K < n) : rangeR n xss K = (lowF n xss K n (2 ^ n), highF n xss K (-1) (2 ^ n)) := by
  rw [rangeR, if_pos ⟨h, inB_mk (by omega)⟩]
  simp
theorem rangeR_spec {n K : Nat} {xss : List (List Int)} (h : netOk n xss = true) (hK : K < n) : rangeR n xss K = (lowF n xss K ((n : Int) - 1) (2 ^ n), highF n xss K 0 (2 ^ n)) := by
  rw [rangeR_yes h hK, highF_start h K hK]
  obtain ⟨t, ht⟩ : ∃ t, 2 ^ n = t + 1 := ⟨2 ^ n - 1, by have : 0 < 2 ^ n := Nat.pow_pos (by omega); omega⟩
  rw [ht, lowF_start h K t]
theorem RankRange_i_c (n : Int) (lo hi : Nat) (v : Value) (vs : List Value) (xss : List (List Int)) (k : Int) (w : World) (hv : OwnR w lo hi v vs xss) (hhi : hi ≤ w.heap.size) :
    Calls Try.prog 44 #[.agg #[.int .i64 n, v], .int .i64 k] w fun e w' => e = .returned (.tuple #[.int .i64 (rangeR n xss k).1, .int .i64 (rangeR n xss k).2]) ∧ Below w.heap.size w w' := by
  cases hok : netOk n xss
  · rw [rangeR_no (by simp [hok])]
    exact RankRange_i_no n lo hi v vs xss k w hv hhi (.inl hok)
  · cases hk : inB k 0 (n - 1)
    · rw [rangeR_no (by simp [hk])]
      exact RankRange_i_no n lo hi v vs xss k w hv hhi (.inr ⟨hok, hk⟩)
    · have h1 := netOk_n hok
      have h2 := inB_of hk
      obtain ⟨a, rfl⟩ : ∃ a : Nat, n = a := ⟨n.toNat, by omega⟩
      obtain ⟨b, rfl⟩ : ∃ b : Nat, k = b := ⟨k.toNat, by omega⟩
      rw [rangeR_yes hok (by omega)]
      exact RankRange_i_yes a lo hi v vs xss b w hv hhi hok (by omega)
end Go.Proofs.Ytgdkihabphihoaa
