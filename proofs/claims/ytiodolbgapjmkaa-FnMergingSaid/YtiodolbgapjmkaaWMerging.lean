/- Whether a network merges: both functions on all arguments, and the law. Conditions: none. -/
import Derived.Test.YtiodolbgapjmkaaParts
namespace Go.Proofs.Ytiodolbgapjmkaa
open Go.RowKit
set_option maxRecDepth 100000
set_option linter.unusedVariables false

theorem isPart_c (n : Int) (lo hi : Nat) (v : Value) (vs : List Value) (xss : List (List Int)) (m : Int) (w : World) (hv : OwnR w lo hi v vs xss) (hhi : hi ≤ w.heap.size) :
    Calls Try.prog 113 #[.agg #[.int .i64 n, v], .int .i64 m] w fun e w' => e = .returned (.bool (netOk n xss && inB m 0 n)) ∧ Below w.heap.size w w' := by
  have HC := Lib.hid (NetworkOk_c n lo hi v vs xss)
  obtain ⟨RES, hRES⟩ : ∃ r, r = (netOk n xss && inB m 0 n) := ⟨_, rfl⟩
  rw [← hRES]
  obtain ⟨ao, g, cap, rfl, -, -, -⟩ := hv.rows
  have HV := Lib.hid hv
  obtain ⟨L, hlen⟩ : ∃ l, l = xss.length := ⟨_, rfl⟩
  rw [← hlen] at HV HC ⊢
  clear hv hlen
  have cs : (netOk n xss = false ∧ RES = false) ∨ (netOk n xss = true ∧ ((RES = false ∧ m < 0) ∨ (RES = false ∧ 0 ≤ m ∧ n < m) ∨ (RES = true ∧ 0 ≤ m ∧ m ≤ n))) := by
    rw [hRES]
    cases netOk n xss
    · exact .inl ⟨rfl, rfl⟩
    · refine .inr ⟨rfl, ?_⟩
      by_cases h1 : m < 0
      · exact .inl ⟨by rw [inB_no (Or.inl h1)]; rfl, h1⟩
      · by_cases h2 : n < m
        · exact .inr (.inl ⟨by rw [inB_no (Or.inr h2)]; rfl, by omega, h2⟩)
        · exact .inr (.inr ⟨by rw [inB_mk ⟨by omega, by omega⟩]; rfl, by omega, by omega⟩)
  clear hRES
  rcases cs with ⟨hok, rfl⟩ | ⟨hok, ⟨rfl, h1⟩ | ⟨rfl, h1, h2⟩ | ⟨rfl, h1, h2⟩⟩
  all_goals
    rw [hok] at HC
    clear hok
  · go_enter Try.func113, Try.ntmps113
    go_wp2_with fail
    obtain ⟨W1, hW1, c0, c1, hsz, hB1, -, -⟩ := box2 w (.int .i64 n) (.slice ao L cap) 30
    try rw [hW1]
    clear hW1
    refine (HC.out W1 (HV.out.below hB1 (by omega)) (by omega)).mono ?_
    rintro e w1 ⟨rfl, b1⟩
    go_wp2
    go_ret
    exact ⟨rfl, hB1.trans (b1.mono (by omega))⟩
  all_goals
    have h3 : decide (m ≤ n) = decide (m ≤ n) := rfl
    clear h3
    go_enter Try.func113, Try.ntmps113
    go_wp2_with fail
    obtain ⟨W1, hW1, c0, c1, hsz, hB1, -, -⟩ := box2 w (.int .i64 n) (.slice ao L cap) 30
    try rw [hW1]
    clear hW1
    refine (HC.out W1 (HV.out.below hB1 (by omega)) (by omega)).mono ?_
    rintro e w1 ⟨rfl, b1⟩
    obtain ⟨d0, d1, -⟩ := boxC b1 (by omega) c0 c1
    clear c0 c1
    go_wp2
    go_ret
    exact ⟨by first | rfl | (show Ending.returned (.bool (decide (m ≤ n))) = _; first | rw [decide_eq_false (by omega)] | rw [decide_eq_true (by omega)]), hB1.trans (b1.mono (by omega))⟩
/-- A mask is sorted by the network. -/
def srtB (n : Nat) (xss : List (List Int)) (m : Nat) : Bool := bitsP xss m == srt n m
set_option maxHeartbeats 1000000 in
theorem merging1_c (n : Nat) (lo hi : Nat) (ao : Option Addr) (L cap : Nat) (vs : List Value) (xss : List (List Int)) (k b : Nat) (w : World) (hv : OwnR w lo hi (.slice ao L cap) vs xss) (hhi : hi ≤ w.heap.size) (hok : netOk n xss = true) (hk : k < 2 ^ n)
    (c0 : w.cell? ⟨b, 0, none⟩ = some (.int .i64 n)) (c1 : w.cell? ⟨b, 1, none⟩ = some (.slice ao L cap)) (hbw : b < w.heap.size) :
    Calls Try.prog 115 #[.int .i64 k, .pointer (some ⟨b, 0, none⟩)] w fun e w' => e = .returned (.bool (srtB n xss k)) ∧ Below w.heap.size w w' := by
  have CE : Hid (∀ w, OwnR w lo hi (.slice ao L cap) vs xss → hi ≤ w.heap.size → Calls Try.prog 116 #[.agg #[.int .i64 n, .slice ao L cap], .int .i64 k] w fun e w' => e = .returned (.int .i64 (bitsP xss k : Nat)) ∧ Below w.heap.size w w') := fun w h1 h2 => bits_c n lo hi _ vs xss k w h1 h2 hok hk
  have hn8 : n ≤ 8 := by have := netOk_n hok; omega
  have h256 := pow_le_256 n hn8
  have CS : Hid (∀ w, Calls Try.prog 104 #[.int .i64 n, .int .i64 k] w fun e w' => e = .returned (.int .i64 (srt n k : Nat)) ∧ w = w') := fun w => sorted_c n k w hn8 (by omega) (popc_lt n k hn8 hk)
  obtain ⟨E, hE⟩ : ∃ E, E = bitsP xss k := ⟨_, rfl⟩
  obtain ⟨S, hS⟩ : ∃ S, S = srt n k := ⟨_, rfl⟩
  have hx : ((E : Int) == (S : Int)) = srtB n xss k := by
    rw [srtB, ← hE, ← hS, Bool.eq_iff_iff, beq_iff_eq, beq_iff_eq]
    omega
  obtain ⟨q, hq⟩ : ∃ q, q = srtB n xss k := ⟨_, rfl⟩
  rw [← hq] at hx ⊢
  rw [← hE] at CE
  rw [← hS] at CS
  have HVr := Lib.hid hv
  have hle := hhi
  clear hE hS hq hv hok hk
  go_enter Try.func115, Try.ntmps115
  go_wp2_with fail
  refine wp_region_later w.heap.size w (by kernel_rfl) (by kernel_rfl) (Below.refl _ _) ?_
  have hLW := LW.cells (B := w.heap.size) (w0 := w)
  repeat (go_big_quiet_step ((first | (go_at_call 116; refine LW.call (Nat.le_refl _) (CE.out _ (HVr.out.below (LW.h _) hle) (Nat.le_trans hle (LW.h _).size))) | (go_at_call 104; refine LW.call_same (CS.out _)) | fail)))
  refine wpQuiet_nil ?_
  rintro w2 ⟨⟨w2s, hb2⟩, rfl⟩
  clear hLW
  go_wp2
  go_ret
  exact ⟨rfl, hb2⟩
set_option maxHeartbeats 1000000 in
theorem IsMerging_i_yes (n m : Nat) (lo hi : Nat) (v : Value) (vs : List Value) (xss : List (List Int)) (w : World) (hv : OwnR w lo hi v vs xss) (hhi : hi ≤ w.heap.size) (hok : netOk n xss = true) (hm : m ≤ n) :
    Calls Try.prog 35 #[.agg #[.int .i64 n, v], .int .i64 m] w fun e w' => e = .returned (.bool (mwB n m (srtB n xss))) ∧ Below w.heap.size w w' := by
  have HC : Hid (∀ w, OwnR w lo hi v vs xss → hi ≤ w.heap.size → Calls Try.prog 113 #[.agg #[.int .i64 n, v], .int .i64 m] w fun e w' => e = .returned (.bool true) ∧ Below w.heap.size w w') := fun w h1 h2 => by
    have := isPart_c n lo hi v vs xss m w h1 h2
    rwa [hok, inB_mk (by omega)] at this
  have hn8 : n ≤ 8 := by have := netOk_n hok; omega
  obtain ⟨R, hR⟩ : ∃ R, R = mwB n m (srtB n xss) := ⟨_, rfl⟩
  have HRR := Lib.hid hR
  rw [← hR]
  obtain ⟨ao, g, cap, rfl, -, -, -⟩ := hv.rows
  have HV := Lib.hid hv
  obtain ⟨L, hlen⟩ : ∃ l, l = xss.length := ⟨_, rfl⟩
  rw [← hlen] at HV HC ⊢
  have HOK := Lib.hid hok
  clear hv hlen hok hR
  go_enter Try.func35, Try.ntmps35
  go_wp2_with fail
  obtain ⟨W1, hW1, c0, c1, hsz, hB1, -, -⟩ := box2 w (.int .i64 n) (.slice ao L cap) 30
  try rw [hW1]
  clear hW1
  refine (HC.out W1 (HV.out.below hB1 (by omega)) (by omega)).mono ?_
  rintro e w1 ⟨rfl, b1⟩
  obtain ⟨d0, d1, z1⟩ := boxC b1 (by omega) c0 c1
  have zz := b1.size
  have HVb := Lib.hid ((HV.out.below hB1 (by omega)).below b1 (by omega))
  have HB1 : Hid (Below w.heap.size w w1) := hB1.trans (b1.mono (by omega))
  have hle1 : hi ≤ w1.heap.size := by omega
  clear c0 c1 HV HC hB1 b1 hsz zz
  go_wp2_with fail
  refine (merges_sort_c (srtB n xss) n m lo hi _ vs xss w.heap.size w1 HVb.out hle1 hn8 hm (fun w' hb mask hk => ?_)).mono ?_
  · obtain ⟨e0, e1, hz⟩ := boxC hb z1 d0 d1
    exact merging1_c n lo hi ao L cap vs xss mask w.heap.size w' (HVb.out.below hb hle1) (by have := hb.size; omega) HOK.out hk e0 e1 hz
  rintro e w2 ⟨rfl, b2⟩
  rw [← HRR.out]
  go_wp2
  go_ret
  exact ⟨rfl, HB1.out.trans (b2.mono (by have := HB1.out.size; omega))⟩
theorem IsMerging_i_no (n : Int) (lo hi : Nat) (v : Value) (vs : List Value) (xss : List (List Int)) (m : Int) (w : World) (hv : OwnR w lo hi v vs xss) (hhi : hi ≤ w.heap.size) (hno : (netOk n xss && inB m 0 n) = false) :
    Calls Try.prog 35 #[.agg #[.int .i64 n, v], .int .i64 m] w fun e w' => e = .returned (.bool false) ∧ Below w.heap.size w w' := by
  have HC := Lib.hid (isPart_c n lo hi v vs xss m)
  obtain ⟨ao, g, cap, rfl, -, -, -⟩ := hv.rows
  have HV := Lib.hid hv
  obtain ⟨L, hlen⟩ : ∃ l, l = xss.length := ⟨_, rfl⟩
  rw [← hlen] at HV HC ⊢
  rw [hno] at HC
  clear hv hlen hno
  go_enter Try.func35, Try.ntmps35
  go_wp2_with fail
  obtain ⟨W1, hW1, c0, c1, hsz, hB1, -, -⟩ := box2 w (.int .i64 n) (.slice ao L cap) 30
  try rw [hW1]
  clear hW1
  refine (HC.out W1 (HV.out.below hB1 (by omega)) (by omega)).mono ?_
  rintro e w1 ⟨rfl, b1⟩
  go_wp2
  go_ret
  exact ⟨rfl, hB1.trans (b1.mono (by omega))⟩
/-- Whether a network merges its first m wires and the others. -/
def mergingR (n : Int) (xss : List (List Int)) (m : Int) : Bool := (netOk n xss && inB m 0 n) && mwB n.toNat m.toNat (srtB n.toNat xss)
theorem IsMerging_i_c (n : Int) (lo hi : Nat) (v : Value) (vs : List Value) (xss : List (List Int)) (k : Int) (w : World) (hv : OwnR w lo hi v vs xss) (hhi : hi ≤ w.heap.size) :
    Calls Try.prog 35 #[.agg #[.int .i64 n, v], .int .i64 k] w fun e w' => e = .returned (.bool (mergingR n xss k)) ∧ Below w.heap.size w w' := by
  cases h : (netOk n xss && inB k 0 n)
  · rw [show mergingR n xss k = false by simp only [mergingR, h]; rfl]
    exact IsMerging_i_no n lo hi v vs xss k w hv hhi h
  · have hh := h
    rw [Bool.and_eq_true] at hh
    have h1 := netOk_n hh.1
    have h2 := inB_of hh.2
    obtain ⟨a, rfl⟩ : ∃ a : Nat, n = a := ⟨n.toNat, by omega⟩
    obtain ⟨b, rfl⟩ : ∃ b : Nat, k = b := ⟨k.toNat, by omega⟩
    rw [show mergingR a xss b = mwB a b (srtB a xss) by simp only [mergingR, h, Int.toNat_natCast]; rfl]
    exact IsMerging_i_yes a b lo hi v vs xss w hv hhi hh.1 (by omega)
end Go.Proofs.Ytiodolbgapjmkaa
