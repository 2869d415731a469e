/- Whether a network sorts: both functions on all arguments. Conditions: none. -/
import Derived.Test.YtiodolbgapjmkaaBitsC
import Derived.Test.YtiodolbgapjmkaaMaskL
import Derived.Test.YtiodolbgapjmkaaInts
namespace Go.Proofs.Ytiodolbgapjmkaa
open Go.RowKit
set_option maxRecDepth 100000
set_option linter.unusedVariables false

/-- A mask is sorted by the network. -/
def sortB (n : Nat) (xss : List (List Int)) (m : Nat) : Bool := bitsP xss m == srt n m
/-- Whether the network sorts. -/
def sortsR (n : Int) (xss : List (List Int)) : Bool := netOk n xss && allB (sortB n.toNat xss) (2 ^ n.toNat)
/-- The masks below k that are not sorted. -/
def unsK (n : Nat) (xss : List (List Int)) (k : Nat) : List Int := ((List.range k).filter fun m => !sortB n xss m).map fun i : Nat => (i : Int)
theorem unsK_hit {n : Nat} {xss : List (List Int)} {k : Nat} (h : sortB n xss k = false) : unsK n xss (k + 1) = unsK n xss k ++ [(k : Int)] := by simp [unsK, List.range_succ, List.filter_append, h]
theorem unsK_miss {n : Nat} {xss : List (List Int)} {k : Nat} (h : sortB n xss k = true) : unsK n xss (k + 1) = unsK n xss k := by simp [unsK, List.range_succ, List.filter_append, h]
theorem unsK_le (n : Nat) (xss : List (List Int)) (k : Nat) : (unsK n xss k).length ≤ k := by
  rw [unsK, List.length_map]
  exact Nat.le_trans (List.length_filter_le _ _) (by simp)
theorem unsK_none (n : Nat) (xss : List (List Int)) (k : Nat) : (unsK n xss k).length = 0 ↔ allB (sortB n xss) k = true := by
  rw [unsK, List.length_map, List.length_eq_zero_iff, List.filter_eq_nil_iff, allB, List.all_eq_true]
  simp
set_option maxHeartbeats 2000000 in
theorem unsorted_c (n : Nat) (lo hi : Nat) (v : Value) (vs : List Value) (xss : List (List Int)) (w : World) (hv : OwnR w lo hi v vs xss) (hhi : hi ≤ w.heap.size) (hok : netOk n xss = true) :
    Calls Try.prog 183 #[.agg #[.int .i64 n, v]] w (IntC w (unsK n xss (2 ^ n))) := by
  have CE0 : Hid (∀ (w : World) (m : Nat), OwnR w lo hi v vs xss → hi ≤ w.heap.size → m < 2 ^ n → Calls Try.prog 116 #[.agg #[.int .i64 n, v], .int .i64 m] w fun e w' => e = .returned (.int .i64 (bitsP xss m : Nat)) ∧ Below w.heap.size w w') := fun w m h1 h2 h3 => bits_c n lo hi v vs xss m w h1 h2 hok h3
  have HP := Lib.hid (fun (m : Nat) (h : m < 2 ^ n) => bitsP_lt' hok h)
  have hn8 : n ≤ 8 := by have := netOk_n hok; omega
  have h256 := pow_le_256 n hn8
  have hlen60 := netOk_len hok
  obtain ⟨ao, g, cap, rfl, -, -, -⟩ := hv.rows
  have HV := Lib.hid hv
  obtain ⟨L, hlen⟩ : ∃ l, l = xss.length := ⟨_, rfl⟩
  rw [← hlen] at HV CE0 hlen60 ⊢
  obtain ⟨N, hN⟩ : ∃ N, N = 2 ^ n := ⟨_, rfl⟩
  have hwp := wrap_pow n hn8
  rw [← hN] at hwp h256 HP CE0 ⊢
  have HN := Lib.hid hN
  clear hv hlen hok hN
  go_enter Try.func183, Try.ntmps183
  obtain ⟨W1, hW1, c0, c1, hsz, hB1, -, -⟩ := box2 w (.int .i64 n) (.slice ao L cap) 30
  go_wp2_with fail
  obtain ⟨w1, hw1, b1⟩ : ∃ W, W = W1 ∧ Below W1.heap.size W1 W := ⟨_, rfl, Below.refl _ _⟩
  try rw [hW1]
  clear hW1
  obtain ⟨d0, d1, z1⟩ := boxC b1 (by omega) c0 c1
  have zz := b1.size
  have HVb := Lib.hid ((HV.out.below hB1 (by omega)).below b1 (by omega))
  have HB1 : Hid (Below w.heap.size w w1) := hB1.trans (b1.mono (by omega))
  rw [← hw1]
  have hs9 : w1.heap.size = w.heap.size + 1 := by rw [hw1]; exact hsz
  rw [← hs9]
  clear hw1 hs9
  have hle1 : hi ≤ w1.heap.size := by omega
  clear c0 c1 HV hB1 b1 hsz zz
  obtain ⟨W0, hW0⟩ : ∃ W, W = w1.alloc (.cells #[] 3) := ⟨_, rfl⟩
  have hi0 : Hid (OwnI W0 w1.heap.size W0.heap.size (.slice (some ⟨w1.heap.size, 0, none⟩) 0 0) []) := by show OwnI _ _ _ _ _; rw [hW0]; exact Own.mono (ownI_empty w1) (Nat.le_refl _) (by simp)
  have hb0 : Below w1.heap.size w1 W0 := by rw [hW0]; exact (Below.refl _ _).alloc (Nat.le_refl _) _
  try rw [← hW0]
  clear hW0
  have hz0 := hb0.size
  try simp only [hwp]
  go_loopw [3, 9] (fun v i wr => ∃ k : Nat, k ≤ N ∧ i = .int .i64 k ∧ OwnI wr w1.heap.size wr.heap.size v (unsK n xss k) ∧ Below w1.heap.size w1 wr) (fun _ i _ => N - (intOf i).toNat)
  case atStart => exact ⟨0, Nat.zero_le _, rfl, hi0.out, hb0⟩
  case round =>
    obtain ⟨k, hk, rfl, hR, hb⟩ := hrel
    have HR := Lib.hid hR
    obtain ⟨c0, c1, hzr⟩ := boxC hb z1 d0 d1
    have hzz := hb.size
    have hle : hi ≤ wr.heap.size := by omega
    have HVr := Lib.hid (HVb.out.below hb (by omega))
    have HB := Lib.hid (HB1.out.trans (hb.mono (by omega)))
    have HB2 := Lib.hid hb
    have HLN : Hid ((unsK n xss k).length ≤ 100000000) := by show _ ≤ _; have := unsK_le n xss k; omega
    clear d0 d1 hb hR hi0 hb0
    by_cases hlt : k < N
    · obtain ⟨hE1, hE2⟩ := HP.out k hlt
      have CE := Lib.hid (fun w h1 h2 => CE0.out w k h1 h2 hlt)
      obtain ⟨E, hE⟩ : ∃ E, E = bitsP xss k := ⟨_, rfl⟩
      rw [← hE] at CE hE1 hE2
      have HE := Lib.hid hE
      have hp : popc k ≤ n := popc_lt n k hn8 (by rw [← HN.out]; exact hlt)
      have hk256 : k < 256 := by omega
      have CS : Hid (∀ w, Calls Try.prog 104 #[.int .i64 n, .int .i64 k] w fun e w' => e = .returned (.int .i64 (srt n k : Nat)) ∧ w = w') := fun w => sorted_c n k w hn8 hk256 hp
      obtain ⟨S, hS⟩ : ∃ S, S = srt n k := ⟨_, rfl⟩
      rw [← hS] at CS
      have hSB : sortB n xss k = (E == S) := by rw [sortB, hE, hS]
      clear hE hS hp
      by_cases hq : E = S
      · have hx : ((E : Int) != (S : Int)) = false := by rw [hq]; simp
        have HT := Lib.hid (unsK_miss (n := n) (xss := xss) (k := k) (by rw [hSB]; simpa using hq))
        clear hq hSB
        go_wp2_with fail
        refine wp_region_later wr.heap.size wr (by kernel_rfl) (by kernel_rfl) (Below.refl _ _) ?_
        have hLW := LW.cells (B := wr.heap.size) (w0 := wr)
        repeat (go_big_quiet_step ((first | (go_at_call 116; refine LW.call (Nat.le_refl _) (CE.out _ (HVr.out.below (LW.h _) hle) (Nat.le_trans hle (LW.h _).size))) | (go_at_call 104; refine LW.call_same (CS.out _)) | fail)))
        refine wpQuiet_nil ?_
        rintro w2 ⟨⟨w2s, hb2⟩, rfl⟩
        clear hLW
        have zw2 := hb2.size
        have zw3 : w1.heap.size ≤ w2.heap.size := by omega
        have HR2 : Hid (OwnI w2 w1.heap.size w2.heap.size _ (unsK n xss k)) := Own.mono (Own.later HR.out hb2) (Nat.le_refl _) hb2.size
        go_wp2
        go_roundw
        case rel => exact ⟨k + 1, by omega, by go_num, by rw [HT.out]; exact HR2.out, HB2.out.trans (hb2.mono (by omega))⟩
        case measure => simp [intOf]; omega
      · have hx : ((E : Int) != (S : Int)) = true := by rw [bne_iff_ne]; omega
        have HT := Lib.hid (unsK_hit (n := n) (xss := xss) (k := k) (by rw [hSB]; simpa using hq))
        clear hq hSB
        go_wp2_with fail
        refine wp_region_later wr.heap.size wr (by kernel_rfl) (by kernel_rfl) (Below.refl _ _) ?_
        have hLW := LW.cells (B := wr.heap.size) (w0 := wr)
        repeat (go_big_quiet_step ((first | (go_at_call 116; refine LW.call (Nat.le_refl _) (CE.out _ (HVr.out.below (LW.h _) hle) (Nat.le_trans hle (LW.h _).size))) | (go_at_call 104; refine LW.call_same (CS.out _)) | fail)))
        refine wpQuiet_nil ?_
        rintro w2 ⟨⟨w2s, hb2⟩, rfl⟩
        clear hLW
        have zw2 := hb2.size
        have zw3 : w1.heap.size ≤ w2.heap.size := by omega
        have HR2 : Hid (OwnI w2 w1.heap.size w2.heap.size _ (unsK n xss k)) := Own.mono (Own.later HR.out hb2) (Nat.le_refl _) hb2.size
        go_wp2_with (at_builtin; refine wpList_app_int rfl (.tmp 20) (.tmp 22) rfl w2 (k : Int) w1.heap.size w2.heap.size _ (unsK n xss k) HR2.out zw3 HLN.out rfl rfl ?_; intro ao5 L5 cap5 w5 hL5 o5 b5 z5; have O5 := Lib.hid o5; clear o5)
        go_roundw
        case rel => exact ⟨k + 1, by omega, by go_num, by rw [HT.out]; exact O5.out, HB2.out.trans ((hb2.mono (by omega)).trans b5)⟩
        case measure => simp [intOf]; omega
    · have HE : Hid (k = N) := by show k = N; omega
      go_wp2
      go_ret
      exact ⟨_, rfl, by rw [← HE.out]; exact Own.mono HR.out (by omega) (Nat.le_refl _), HB.out⟩
/-- How many masks are not sorted, or -1. -/
def cntU (n : Int) (xss : List (List Int)) : Int := if netOk n xss = true then ((unsK n.toNat xss (2 ^ n.toNat)).length : Nat) else -1
theorem cntU_zero (n : Int) (xss : List (List Int)) : (cntU n xss == 0) = sortsR n xss := by
  unfold cntU sortsR
  cases netOk n xss
  · rfl
  · rw [if_pos rfl, Bool.true_and, Bool.eq_iff_iff, beq_iff_eq, ← unsK_none]
    omega
theorem CountUnsorted_no (n : Int) (lo hi : Nat) (v : Value) (vs : List Value) (xss : List (List Int)) (w : World) (hv : OwnR w lo hi v vs xss) (hhi : hi ≤ w.heap.size) (hno : netOk n xss = false) :
    Calls Try.prog 123 #[.agg #[.int .i64 n, v]] w fun e w' => e = .returned (.int .i64 (-1)) ∧ Below w.heap.size w w' := by
  have HC := Lib.hid (NetworkOk_c n lo hi v vs xss)
  obtain ⟨ao, g, cap, rfl, -, -, -⟩ := hv.rows
  have HV := Lib.hid hv
  obtain ⟨L, hlen⟩ : ∃ l, l = xss.length := ⟨_, rfl⟩
  rw [← hlen] at HV HC ⊢
  rw [hno] at HC
  clear hv hlen hno
  go_enter Try.func123, Try.ntmps123
  go_wp2_with fail
  obtain ⟨W1, hW1, c0, c1, hsz, hB1, -, -⟩ := box2 w (.int .i64 n) (.slice ao L cap) 30
  try rw [hW1]
  clear hW1
  refine (HC.out W1 (HV.out.below hB1 (by omega)) (by omega)).mono ?_
  rintro e w1 ⟨rfl, b1⟩
  go_wp2
  go_ret
  exact ⟨rfl, hB1.trans (b1.mono (by omega))⟩
set_option maxHeartbeats 1000000 in
theorem CountUnsorted_c (n : Int) (lo hi : Nat) (v : Value) (vs : List Value) (xss : List (List Int)) (w : World) (hv : OwnR w lo hi v vs xss) (hhi : hi ≤ w.heap.size) :
    Calls Try.prog 123 #[.agg #[.int .i64 n, v]] w fun e w' => e = .returned (.int .i64 (cntU n xss)) ∧ Below w.heap.size w w' := by
  cases hok : netOk n xss
  · rw [show cntU n xss = -1 from if_neg (by simp [hok])]
    exact CountUnsorted_no n lo hi v vs xss w hv hhi hok
  · rw [show cntU n xss = ((unsK n.toNat xss (2 ^ n.toNat)).length : Nat) from if_pos hok]
    have h1 := netOk_n hok
    obtain ⟨a, rfl⟩ : ∃ a : Nat, n = a := ⟨n.toNat, by omega⟩
    simp only [Int.toNat_natCast]
    have HC : Hid (∀ w, OwnR w lo hi v vs xss → hi ≤ w.heap.size → Calls Try.prog 94 #[.agg #[.int .i64 a, v]] w fun e w' => e = .returned (.bool true) ∧ Below w.heap.size w w') := fun w h1 h2 => by
      have := NetworkOk_c a lo hi v vs xss w h1 h2
      rwa [hok] at this
    have CT : Hid (∀ w, OwnR w lo hi v vs xss → hi ≤ w.heap.size → Calls Try.prog 183 #[.agg #[.int .i64 a, v]] w (IntC w (unsK a xss (2 ^ a)))) := fun w h1 h2 => unsorted_c a lo hi v vs xss w h1 h2 hok
    obtain ⟨R, hR⟩ : ∃ R, R = unsK a xss (2 ^ a) := ⟨_, rfl⟩
    rw [← hR] at CT ⊢
    obtain ⟨ao, g, cap, rfl, -, -, -⟩ := hv.rows
    have HV := Lib.hid hv
    obtain ⟨L, hlen⟩ : ∃ l, l = xss.length := ⟨_, rfl⟩
    rw [← hlen] at HV HC CT ⊢
    clear hv hlen hok hR
    go_enter Try.func123, Try.ntmps123
    go_wp2_with fail
    obtain ⟨W1, hW1, c0, c1, hsz, hB1, -, -⟩ := box2 w (.int .i64 a) (.slice ao L cap) 30
    try rw [hW1]
    clear hW1
    refine (HC.out W1 (HV.out.below hB1 (by omega)) (by omega)).mono ?_
    rintro e w1 ⟨rfl, b1⟩
    obtain ⟨d0, d1, z1⟩ := boxC b1 (by omega) c0 c1
    have zz := b1.size
    have HVb := Lib.hid ((HV.out.below hB1 (by omega)).below b1 (by omega))
    have HB1 : Hid (Below w.heap.size w w1) := hB1.trans (b1.mono (by omega))
    have hle1 : hi ≤ w1.heap.size := by omega
    clear c0 c1 HV HC hB1 b1 hsz zz
    go_wp2_with fail
    refine (CT.out w1 HVb.out hle1).mono ?_
    rintro e w2 ⟨u, rfl, o2, b2⟩
    obtain ⟨ao2, g2, cap2, e2, -, -, -⟩ := o2.view
    obtain ⟨rl, hrl⟩ : ∃ r, r = R.length := ⟨_, rfl⟩
    have HRL := Lib.hid hrl
    rw [← hrl] at e2
    subst e2
    clear o2 hrl
    go_wp2
    go_ret
    exact ⟨by rw [← HRL.out]; rfl, HB1.out.trans (b2.mono (by omega))⟩
theorem IsSorting_i (n : Int) (lo hi : Nat) (v : Value) (vs : List Value) (xss : List (List Int)) (w : World) (hv : OwnR w lo hi v vs xss) (hhi : hi ≤ w.heap.size) :
    Calls Try.prog 47 #[.agg #[.int .i64 n, v]] w fun e w' => e = .returned (.bool (sortsR n xss)) ∧ Below w.heap.size w w' := by
  have HC := Lib.hid (CountUnsorted_c n lo hi v vs xss)
  have hz := cntU_zero n xss
  obtain ⟨r, hr⟩ : ∃ r, r = sortsR n xss := ⟨_, rfl⟩
  obtain ⟨c, hc⟩ : ∃ c, c = cntU n xss := ⟨_, rfl⟩
  rw [← hr, ← hc] at hz
  rw [← hc] at HC
  rw [← hr]
  obtain ⟨ao, g, cap, rfl, -, -, -⟩ := hv.rows
  have HV := Lib.hid hv
  obtain ⟨L, hlen⟩ : ∃ l, l = xss.length := ⟨_, rfl⟩
  rw [← hlen] at HV HC ⊢
  clear hv hlen hr hc
  go_enter Try.func47, Try.ntmps47
  go_wp2_with fail
  obtain ⟨W1, hW1, c0, c1, hsz, hB1, -, -⟩ := box2 w (.int .i64 n) (.slice ao L cap) 30
  try rw [hW1]
  clear hW1
  refine (HC.out W1 (HV.out.below hB1 (by omega)) (by omega)).mono ?_
  rintro e w1 ⟨rfl, b1⟩
  go_wp2
  go_ret
  exact ⟨rfl, hB1.trans (b1.mono (by omega))⟩
end Go.Proofs.Ytiodolbgapjmkaa
