/- Whether a network merges to a rank: both functions on all arguments, and the law. Conditions: none. -/
import Derived.Test.YtgdkihabphihoaaParts
namespace Go.Proofs.Ytgdkihabphihoaa
open Go.RowKit
set_option maxRecDepth 100000
set_option linter.unusedVariables false

theorem isPart_c (n : Int) (lo hi : Nat) (v : Value) (vs : List Value) (xss : List (List Int)) (m : Int) (w : World) (hv : OwnR w lo hi v vs xss) (hhi : hi ≤ w.heap.size) :
    Calls Try.prog 140 #[.agg #[.int .i64 n, v], .int .i64 m] w fun e w' => e = .returned (.bool (netOk n xss && inB m 0 n)) ∧ Below w.heap.size w w' := by
  have HC := Lib.hid (NetworkOk_c n lo hi v vs xss)
  obtain ⟨RES, hRES⟩ : ∃ r, r = (netOk n xss && inB m 0 n) := ⟨_, rfl⟩
  rw [← hRES]
  obtain ⟨ao, g, cap, rfl, -, -, -⟩ := hv.rows
  have HV := Lib.hid hv
  obtain ⟨L, hlen⟩ : ∃ l, l = xss.length := ⟨_, rfl⟩
  rw [← hlen] at HV HC ⊢
  clear hv hlen
  have cs : (netOk n xss = false ∧ RES = false) ∨ (netOk n xss = true ∧ ((RES = false ∧ m < 0) ∨ (RES = false ∧ 0 ≤ m ∧ n < m) ∨ (RES = true ∧ 0 ≤ m ∧ m ≤ n))) := by
    rw [hRES]
    cases netOk n xss
    · exact .inl ⟨rfl, rfl⟩
    · refine .inr ⟨rfl, ?_⟩
      by_cases h1 : m < 0
      · exact .inl ⟨by rw [inB_no (Or.inl h1)]; rfl, h1⟩
      · by_cases h2 : n < m
        · exact .inr (.inl ⟨by rw [inB_no (Or.inr h2)]; rfl, by omega, h2⟩)
        · exact .inr (.inr ⟨by rw [inB_mk ⟨by omega, by omega⟩]; rfl, by omega, by omega⟩)
  clear hRES
  rcases cs with ⟨hok, rfl⟩ | ⟨hok, ⟨rfl, h1⟩ | ⟨rfl, h1, h2⟩ | ⟨rfl, h1, h2⟩⟩
  all_goals
    rw [hok] at HC
    clear hok
  · go_enter Try.func140, Try.ntmps140
    go_wp2_with fail
    obtain ⟨W1, hW1, c0, c1, hsz, hB1, -, -⟩ := box2 w (.int .i64 n) (.slice ao L cap) 27
    try rw [hW1]
    clear hW1
    refine (HC.out W1 (HV.out.below hB1 (by omega)) (by omega)).mono ?_
    rintro e w1 ⟨rfl, b1⟩
    go_wp2
    go_ret
    exact ⟨rfl, hB1.trans (b1.mono (by omega))⟩
  all_goals
    have h3 : decide (m ≤ n) = decide (m ≤ n) := rfl
    clear h3
    go_enter Try.func140, Try.ntmps140
    go_wp2_with fail
    obtain ⟨W1, hW1, c0, c1, hsz, hB1, -, -⟩ := box2 w (.int .i64 n) (.slice ao L cap) 27
    try rw [hW1]
    clear hW1
    refine (HC.out W1 (HV.out.below hB1 (by omega)) (by omega)).mono ?_
    rintro e w1 ⟨rfl, b1⟩
    obtain ⟨d0, d1, -⟩ := boxC b1 (by omega) c0 c1
    clear c0 c1
    go_wp2
    go_ret
    exact ⟨by first | rfl | (show Ending.returned (.bool (decide (m ≤ n))) = _; first | rw [decide_eq_false (by omega)] | rw [decide_eq_true (by omega)]), hB1.trans (b1.mono (by omega))⟩
set_option maxHeartbeats 1000000 in
theorem torank1_c (n K : Nat) (lo hi : Nat) (ao : Option Addr) (L cap : Nat) (vs : List Value) (xss : List (List Int)) (k b b2 : Nat) (w : World) (hv : OwnR w lo hi (.slice ao L cap) vs xss) (hhi : hi ≤ w.heap.size) (hok : netOk n xss = true) (hk : k < 2 ^ n) (hK : K < n)
    (c0 : w.cell? ⟨b, 0, none⟩ = some (.int .i64 n)) (c1 : w.cell? ⟨b, 1, none⟩ = some (.slice ao L cap)) (hbw : b < w.heap.size) (c2 : w.cell? ⟨b2, 0, none⟩ = some (.int .i64 K)) (hbw2 : b2 < w.heap.size) :
    Calls Try.prog 142 #[.int .i64 k, .pointer (some ⟨b, 0, none⟩), .pointer (some ⟨b2, 0, none⟩)] w fun e w' => e = .returned (.bool (rankB n xss K k)) ∧ Below w.heap.size w w' := by
  have CE : Hid (∀ w, OwnR w lo hi (.slice ao L cap) vs xss → hi ≤ w.heap.size → Calls Try.prog 132 #[.agg #[.int .i64 n, .slice ao L cap], .int .i64 k] w fun e w' => e = .returned (.int .i64 (bitsP xss k : Nat)) ∧ Below w.heap.size w w') := fun w h1 h2 => bits_c n lo hi _ vs xss k w h1 h2 hok hk
  have hn8 : n ≤ 8 := by have := netOk_n hok; omega
  have h256 := pow_le_256 n hn8
  have hp := popc_lt n k hn8 hk
  have CS : Hid (∀ w, Calls Try.prog 135 #[.int .i64 n, .int .i64 k] w fun e w' => e = .returned (.int .i64 (srt n k : Nat)) ∧ w = w') := fun w => sorted_c n k w hn8 (by omega) hp
  have hE1 := (bitsP_lt' hok hk).1
  obtain ⟨E, hE⟩ : ∃ E, E = bitsP xss k := ⟨_, rfl⟩
  obtain ⟨S, hS⟩ : ∃ S, S = srt n k := ⟨_, rfl⟩
  have hS256 : S < 256 := by have := srt_lt n k hn8 hp; omega
  rw [← hE] at hE1
  have hx := xor_test E S K (by omega) hS256 (by omega)
  have hR : rankB n xss K k = (E / 2 ^ K % 2 == S / 2 ^ K % 2) := by rw [rankB, hE, hS]
  obtain ⟨y, hy⟩ : ∃ y : Int, y = if E / 2 ^ K % 2 = S / 2 ^ K % 2 then 0 else 1 := ⟨_, rfl⟩
  rw [← hy] at hx
  have hy2 : (y == 0) = rankB n xss K k := by
    rw [hR, Bool.eq_iff_iff, beq_iff_eq, beq_iff_eq, hy]
    split <;> simp_all
  obtain ⟨q, hq⟩ : ∃ q, q = rankB n xss K k := ⟨_, rfl⟩
  rw [← hq] at hy2 ⊢
  rw [← hE] at CE
  rw [← hS] at CS
  have HVr := Lib.hid hv
  have hle := hhi
  clear hE hS hq hv hok hk hR hy hp
  go_enter Try.func142, Try.ntmps142
  go_wp2_with fail
  refine wp_region_later w.heap.size w (by kernel_rfl) (by kernel_rfl) (Below.refl _ _) ?_
  have hLW := LW.cells (B := w.heap.size) (w0 := w)
  repeat (go_big_quiet_step ((first | (go_at_call 132; refine LW.call (Nat.le_refl _) (CE.out _ (HVr.out.below (LW.h _) hle) (Nat.le_trans hle (LW.h _).size))) | (go_at_call 135; refine LW.call_same (CS.out _)) | fail)))
  refine wpQuiet_nil ?_
  rintro w2 ⟨⟨w2s, hb2⟩, rfl⟩
  clear hLW
  go_wp2
  go_ret
  exact ⟨rfl, hb2⟩
/-- Whether the arguments are in order. -/
def mtrB (n : Int) (xss : List (List Int)) (m k : Int) : Bool := (netOk n xss && inB m 0 n) && inB k 0 (n - 1)
set_option maxHeartbeats 2000000 in
theorem MergesToRank_i_yes (n m K : Nat) (lo hi : Nat) (v : Value) (vs : List Value) (xss : List (List Int)) (w : World) (hv : OwnR w lo hi v vs xss) (hhi : hi ≤ w.heap.size) (hok : netOk n xss = true) (hm : m ≤ n) (hK : K < n) :
    Calls Try.prog 47 #[.agg #[.int .i64 n, v], .int .i64 m, .int .i64 K] w fun e w' => e = .returned (.bool (mwB n m (rankB n xss K))) ∧ Below w.heap.size w w' := by
  have HC : Hid (∀ w, OwnR w lo hi v vs xss → hi ≤ w.heap.size → Calls Try.prog 140 #[.agg #[.int .i64 n, v], .int .i64 m] w fun e w' => e = .returned (.bool true) ∧ Below w.heap.size w w') := fun w h1 h2 => by
    have := isPart_c n lo hi v vs xss m w h1 h2
    rwa [hok, inB_mk (by omega)] at this
  have hn8 : n ≤ 8 := by have := netOk_n hok; omega
  have hwire : inB (K : Int) 0 ((n : Int) - 1) = true := inB_mk (by omega)
  obtain ⟨R, hR⟩ : ∃ R, R = mwB n m (rankB n xss K) := ⟨_, rfl⟩
  have HRR := Lib.hid hR
  rw [← hR]
  obtain ⟨ao, g, cap, rfl, -, -, -⟩ := hv.rows
  have HV := Lib.hid hv
  obtain ⟨L, hlen⟩ : ∃ l, l = xss.length := ⟨_, rfl⟩
  rw [← hlen] at HV HC ⊢
  have HOK := Lib.hid hok
  clear hv hlen hok hR
  go_enter Try.func47, Try.ntmps47
  go_wp2_with fail
  obtain ⟨W0, hW0, c0, c1, hsz0, hB0, -, -⟩ := box2 w (.int .i64 n) (.slice ao L cap) 27
  have hb9 := blk_new W0 (.cells #[.int .i64 K] 3)
  obtain ⟨W1, hW1⟩ : ∃ W, W = W0.alloc (.cells #[.int .i64 K] 3) := ⟨_, rfl⟩
  have hBa : Below W0.heap.size W0 W1 := by rw [hW1]; exact (Below.refl _ _).alloc (Nat.le_refl _) _
  have hs1 : W1.heap.size = W0.heap.size + 1 := by rw [hW1]; simp
  rw [← hW1] at hb9
  have c2 : W1.cell? ⟨W0.heap.size, 0, none⟩ = some (.int .i64 K) := blk_cell hb9 0
  obtain ⟨c0, c1, hz0⟩ := boxC hBa (by omega) c0 c1
  have hB1 : Below w.heap.size w W1 := hB0.trans (hBa.mono (by omega))
  have hsz : W1.heap.size = w.heap.size + 2 := by omega
  rw [hsz0] at c2
  try rw [hW0, ← hW1]
  clear hW0 hW1 hb9 hBa hs1 hsz0 hB0 hz0
  refine (HC.out W1 (HV.out.below hB1 (by omega)) (by omega)).mono ?_
  rintro e w1 ⟨rfl, b1⟩
  have zz := b1.size
  obtain ⟨d0, d1, z1⟩ := boxC b1 (by omega) c0 c1
  have d2 := (b1.cell (p := ⟨w.heap.size + 1, 0, none⟩) (by show w.heap.size + 1 < _; omega)).trans c2
  have HVb := Lib.hid ((HV.out.below hB1 (by omega)).below b1 (by omega))
  have HB1 : Hid (Below w.heap.size w w1) := hB1.trans (b1.mono (by omega))
  have hle1 : hi ≤ w1.heap.size := by omega
  have z2 : w.heap.size + 1 < w1.heap.size := by omega
  clear c0 c1 c2 HV HC hB1 b1 hsz zz
  go_wp2_with fail
  refine (isWire_c n K _ w1).mono ?_
  rintro e w2 ⟨rfl, b2⟩
  rw [hwire]
  have zz := b2.size
  obtain ⟨f0, f1, z3⟩ := boxC b2 z1 d0 d1
  have f2 := (b2.cell (p := ⟨w.heap.size + 1, 0, none⟩) (by show w.heap.size + 1 < _; omega)).trans d2
  have HVc := Lib.hid (HVb.out.below b2 hle1)
  have HB2 : Hid (Below w.heap.size w w2) := HB1.out.trans (b2.mono (by omega))
  have hle2 : hi ≤ w2.heap.size := by omega
  have z4 : w.heap.size + 1 < w2.heap.size := by omega
  clear d0 d1 d2 HVb HB1 b2 zz
  go_wp2_with fail
  refine (merges_rank_c (rankB n xss K) n m lo hi _ vs xss w.heap.size (w.heap.size + 1) w2 HVc.out hle2 hn8 hm (fun w' hb mask hk => ?_)).mono ?_
  · obtain ⟨e0, e1, hz⟩ := boxC hb z3 f0 f1
    exact torank1_c n K lo hi ao L cap vs xss mask w.heap.size (w.heap.size + 1) w' (HVc.out.below hb hle2) (by have := hb.size; omega) HOK.out hk hK e0 e1 hz ((hb.cell (p := ⟨w.heap.size + 1, 0, none⟩) (by show w.heap.size + 1 < _; omega)).trans f2) (by have := hb.size; omega)
  rintro e w3 ⟨rfl, b3⟩
  rw [← HRR.out]
  go_wp2
  go_ret
  exact ⟨rfl, HB2.out.trans (b3.mono (by omega))⟩
set_option maxHeartbeats 2000000 in
theorem MergesToRank_i_no (n : Int) (lo hi : Nat) (v : Value) (vs : List Value) (xss : List (List Int)) (m k : Int) (w : World) (hv : OwnR w lo hi v vs xss) (hhi : hi ≤ w.heap.size) (hno : mtrB n xss m k = false) :
    Calls Try.prog 47 #[.agg #[.int .i64 n, v], .int .i64 m, .int .i64 k] w fun e w' => e = .returned (.bool false) ∧ Below w.heap.size w w' := by
  have HC := Lib.hid (isPart_c n lo hi v vs xss m)
  obtain ⟨ao, g, cap, rfl, -, -, -⟩ := hv.rows
  have HV := Lib.hid hv
  obtain ⟨L, hlen⟩ : ∃ l, l = xss.length := ⟨_, rfl⟩
  rw [← hlen] at HV HC ⊢
  clear hv hlen
  cases h : (netOk n xss && inB m 0 n)
  · rw [h] at HC
    clear h hno
    go_enter Try.func47, Try.ntmps47
    go_wp2_with fail
    obtain ⟨W0, hW0, c0, c1, hsz0, hB0, -, -⟩ := box2 w (.int .i64 n) (.slice ao L cap) 27
    have hb9 := blk_new W0 (.cells #[.int .i64 k] 3)
    obtain ⟨W1, hW1⟩ : ∃ W, W = W0.alloc (.cells #[.int .i64 k] 3) := ⟨_, rfl⟩
    have hBa : Below W0.heap.size W0 W1 := by rw [hW1]; exact (Below.refl _ _).alloc (Nat.le_refl _) _
    have hs1 : W1.heap.size = W0.heap.size + 1 := by rw [hW1]; simp
    rw [← hW1] at hb9
    have c2 : W1.cell? ⟨W0.heap.size, 0, none⟩ = some (.int .i64 k) := blk_cell hb9 0
    obtain ⟨c0, c1, hz0⟩ := boxC hBa (by omega) c0 c1
    have hB1 : Below w.heap.size w W1 := hB0.trans (hBa.mono (by omega))
    have hsz : W1.heap.size = w.heap.size + 2 := by omega
    rw [hsz0] at c2
    try rw [hW0, ← hW1]
    clear hW0 hW1 hb9 hBa hs1 hsz0 hB0 hz0
    refine (HC.out W1 (HV.out.below hB1 (by omega)) (by omega)).mono ?_
    rintro e w1 ⟨rfl, b1⟩
    go_wp2
    go_ret
    exact ⟨rfl, hB1.trans (b1.mono (by omega))⟩
  · have hwire : inB k 0 (n - 1) = false := by simpa only [mtrB, h, Bool.true_and] using hno
    rw [h] at HC
    clear h hno
    go_enter Try.func47, Try.ntmps47
    go_wp2_with fail
    obtain ⟨W0, hW0, c0, c1, hsz0, hB0, -, -⟩ := box2 w (.int .i64 n) (.slice ao L cap) 27
    have hb9 := blk_new W0 (.cells #[.int .i64 k] 3)
    obtain ⟨W1, hW1⟩ : ∃ W, W = W0.alloc (.cells #[.int .i64 k] 3) := ⟨_, rfl⟩
    have hBa : Below W0.heap.size W0 W1 := by rw [hW1]; exact (Below.refl _ _).alloc (Nat.le_refl _) _
    have hs1 : W1.heap.size = W0.heap.size + 1 := by rw [hW1]; simp
    rw [← hW1] at hb9
    have c2 : W1.cell? ⟨W0.heap.size, 0, none⟩ = some (.int .i64 k) := blk_cell hb9 0
    obtain ⟨c0, c1, hz0⟩ := boxC hBa (by omega) c0 c1
    have hB1 : Below w.heap.size w W1 := hB0.trans (hBa.mono (by omega))
    have hsz : W1.heap.size = w.heap.size + 2 := by omega
    rw [hsz0] at c2
    try rw [hW0, ← hW1]
    clear hW0 hW1 hb9 hBa hs1 hsz0 hB0 hz0
    refine (HC.out W1 (HV.out.below hB1 (by omega)) (by omega)).mono ?_
    rintro e w1 ⟨rfl, b1⟩
    have zz := b1.size
    obtain ⟨d0, d1, z1⟩ := boxC b1 (by omega) c0 c1
    have d2 := (b1.cell (p := ⟨w.heap.size + 1, 0, none⟩) (by show w.heap.size + 1 < _; omega)).trans c2
    clear c0 c1 c2
    go_wp2_with fail
    refine (isWire_c n k _ w1).mono ?_
    rintro e w2 ⟨rfl, b2⟩
    rw [hwire]
    go_wp2
    go_ret
    exact ⟨rfl, hB1.trans ((b1.trans (b2.mono zz)).mono (by omega))⟩
/-- Whether a network merges to a rank. -/
def mtrR (n : Int) (xss : List (List Int)) (m k : Int) : Bool := mtrB n xss m k && mwB n.toNat m.toNat (rankB n.toNat xss k.toNat)
theorem mtrB_of {n : Int} {xss : List (List Int)} {m k : Int} (h : mtrB n xss m k = true) : ∃ a b c : Nat, n = a ∧ m = b ∧ k = c ∧ netOk n xss = true ∧ a ≤ 8 ∧ b ≤ a ∧ c < a := by
  simp only [mtrB, Bool.and_eq_true] at h
  have h1 := netOk_n h.1.1
  have h2 := inB_of h.1.2
  have h3 := inB_of h.2
  exact ⟨n.toNat, m.toNat, k.toNat, by omega, by omega, by omega, h.1.1, by omega, by omega, by omega⟩
theorem MergesToRank_i_c (n : Int) (lo hi : Nat) (v : Value) (vs : List Value) (xss : List (List Int)) (m k : Int) (w : World) (hv : OwnR w lo hi v vs xss) (hhi : hi ≤ w.heap.size) :
    Calls Try.prog 47 #[.agg #[.int .i64 n, v], .int .i64 m, .int .i64 k] w fun e w' => e = .returned (.bool (mtrR n xss m k)) ∧ Below w.heap.size w w' := by
  cases h : mtrB n xss m k
  · rw [show mtrR n xss m k = false by simp [mtrR, h]]
    exact MergesToRank_i_no n lo hi v vs xss m k w hv hhi h
  · obtain ⟨a, b, c, rfl, rfl, rfl, hnet, h8, h2, h3⟩ := mtrB_of h
    rw [show mtrR a xss b c = mwB a b (rankB a xss c) by simp only [mtrR, h, Int.toNat_natCast]; rfl]
    exact MergesToRank_i_yes a b c lo hi v vs xss  w hv hhi hnet h2 h3
end Go.Proofs.Ytgdkihabphihoaa
