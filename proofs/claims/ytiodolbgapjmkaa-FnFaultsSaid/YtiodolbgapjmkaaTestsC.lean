/- The masks that tell a fault: both functions on all arguments, and the law. Conditions: none. -/
import Derived.Test.YtiodolbgapjmkaaWFaultyC
import Derived.Test.YtiodolbgapjmkaaMaskL
import Derived.Test.YtiodolbgapjmkaaInts
namespace Go.Proofs.Ytiodolbgapjmkaa
open Go.RowKit
set_option maxRecDepth 100000
set_option linter.unusedVariables false

theorem IntsV.shape2 {w : World} {lo hi : Nat} {v : Value} {xs : List Int} (h : IntsV w lo hi v xs) : ∃ ao n cap, v = .slice ao n cap := by
  obtain ⟨ao, b, off, cap, rfl, -⟩ := h
  exact ⟨ao, _, cap, rfl⟩
/-- The masks below k that tell the fault. -/
def testsK (xss : List (List Int)) (idx : Nat) (kind : Int) (k : Nat) : List Int := ((List.range k).filter (findB xss idx kind)).map fun i : Nat => (i : Int)
theorem testsK_hit {xss : List (List Int)} {idx : Nat} {kind : Int} {k : Nat} (h : findB xss idx kind k = true) : testsK xss idx kind (k + 1) = testsK xss idx kind k ++ [(k : Int)] := by simp [testsK, List.range_succ, List.filter_append, h]
theorem testsK_miss {xss : List (List Int)} {idx : Nat} {kind : Int} {k : Nat} (h : findB xss idx kind k = false) : testsK xss idx kind (k + 1) = testsK xss idx kind k := by simp [testsK, List.range_succ, List.filter_append, h]
theorem testsK_le (xss : List (List Int)) (idx : Nat) (kind : Int) (k : Nat) : (testsK xss idx kind k).length ≤ k := by
  rw [testsK, List.length_map]
  exact Nat.le_trans (List.length_filter_le _ _) (by simp)
set_option maxHeartbeats 2000000 in
theorem tests_c (n : Nat) (lo hi : Nat) (v : Value) (vs : List Value) (xss : List (List Int)) (idx : Nat) (kind : Int) (w : World) (hv : OwnR w lo hi v vs xss) (hhi : hi ≤ w.heap.size) (hok : netOk n xss = true) (hf : fltB n xss idx kind = true) (hkd : kind = 0 ∨ kind = 1 ∨ kind = 2) :
    Calls Try.prog 97 #[.agg #[.int .i64 n, v], .int .i64 idx, .int .i64 kind] w (IntC w (testsK xss idx kind (2 ^ n))) := by
  have CE0 : Hid (∀ (w : World) (m : Nat), OwnR w lo hi v vs xss → hi ≤ w.heap.size → m < 2 ^ n → Calls Try.prog 99 #[.agg #[.int .i64 n, v], .int .i64 idx, .int .i64 kind, .int .i64 m] w fun e w' => e = .returned (.bool (findB xss idx kind m)) ∧ Below w.heap.size w w') := fun w m h1 h2 h3 => finds_c n lo hi v vs xss idx kind m w h1 h2 hok h3 hkd
  have hn8 : n ≤ 8 := by have := netOk_n hok; omega
  have h256 := pow_le_256 n hn8
  have hlen60 := netOk_len hok
  obtain ⟨ao, g, cap, rfl, -, -, -⟩ := hv.rows
  have HV := Lib.hid hv
  obtain ⟨L, hlen⟩ : ∃ l, l = xss.length := ⟨_, rfl⟩
  rw [← hlen] at HV CE0 hlen60 ⊢
  obtain ⟨N, hN⟩ : ∃ N, N = 2 ^ n := ⟨_, rfl⟩
  have hwp := wrap_pow n hn8
  rw [← hN] at hwp h256 CE0 ⊢
  have HN := Lib.hid hN
  clear hv hlen hok hN hf hkd
  go_enter Try.func97, Try.ntmps97
  obtain ⟨W1, hW1, c0, c1, hsz, hB1, -, -⟩ := box2 w (.int .i64 n) (.slice ao L cap) 30
  go_wp2_with fail
  obtain ⟨w1, hw1, b1⟩ : ∃ W, W = W1 ∧ Below W1.heap.size W1 W := ⟨_, rfl, Below.refl _ _⟩
  try rw [hW1]
  clear hW1
  obtain ⟨d0, d1, z1⟩ := boxC b1 (by omega) c0 c1
  have zz := b1.size
  have HVb := Lib.hid ((HV.out.below hB1 (by omega)).below b1 (by omega))
  have HB1 : Hid (Below w.heap.size w w1) := hB1.trans (b1.mono (by omega))
  rw [← hw1]
  have hs9 : w1.heap.size = w.heap.size + 1 := by rw [hw1]; exact hsz
  rw [← hs9]
  clear hw1 hs9
  have hle1 : hi ≤ w1.heap.size := by omega
  clear c0 c1 HV hB1 b1 hsz zz
  obtain ⟨W0, hW0⟩ : ∃ W, W = w1.alloc (.cells #[] 3) := ⟨_, rfl⟩
  have hi0 : Hid (OwnI W0 w1.heap.size W0.heap.size (.slice (some ⟨w1.heap.size, 0, none⟩) 0 0) []) := by show OwnI _ _ _ _ _; rw [hW0]; exact Own.mono (ownI_empty w1) (Nat.le_refl _) (by simp)
  have hb0 : Below w1.heap.size w1 W0 := by rw [hW0]; exact (Below.refl _ _).alloc (Nat.le_refl _) _
  try rw [← hW0]
  clear hW0
  have hz0 := hb0.size
  try simp only [hwp]
  go_loopw [7, 13] (fun v i wr => ∃ k : Nat, k ≤ N ∧ i = .int .i64 k ∧ OwnI wr w1.heap.size wr.heap.size v (testsK xss idx kind k) ∧ Below w1.heap.size w1 wr) (fun _ i _ => N - (intOf i).toNat)
  case atStart => exact ⟨0, Nat.zero_le _, rfl, hi0.out, hb0⟩
  case round =>
    obtain ⟨k, hk, rfl, hR, hb⟩ := hrel
    have HR := Lib.hid hR
    obtain ⟨c0, c1, hzr⟩ := boxC hb z1 d0 d1
    have hzz := hb.size
    have hle : hi ≤ wr.heap.size := by omega
    have HVr := Lib.hid (HVb.out.below hb (by omega))
    have HB := Lib.hid (HB1.out.trans (hb.mono (by omega)))
    have HB2 := Lib.hid hb
    have HLN : Hid ((testsK xss idx kind k).length ≤ 100000000) := by show _ ≤ _; have := testsK_le xss idx kind k; omega
    clear d0 d1 hb hR hi0 hb0
    by_cases hlt : k < N
    · have CE := Lib.hid (fun w h1 h2 => CE0.out w k h1 h2 hlt)
      cases hq : findB xss idx kind k
      · have HT := Lib.hid (testsK_miss hq)
        rw [hq] at CE
        clear hq
        go_wp2_with fail
        refine (CE.out wr HVr.out hle).mono ?_
        rintro e w2 ⟨rfl, b2⟩
        have HR2 : Hid (OwnI w2 w1.heap.size w2.heap.size _ (testsK xss idx kind k)) := Own.mono (Own.later HR.out b2) (Nat.le_refl _) b2.size
        go_wp2
        go_roundw
        case rel => exact ⟨k + 1, by omega, by go_num, by rw [HT.out]; exact HR2.out, HB2.out.trans (b2.mono (by omega))⟩
        case measure => simp [intOf]; omega
      · have HT := Lib.hid (testsK_hit hq)
        rw [hq] at CE
        clear hq
        go_wp2_with fail
        refine (CE.out wr HVr.out hle).mono ?_
        rintro e w2 ⟨rfl, b2⟩
        have zw2 := b2.size
        have zw3 : w1.heap.size ≤ w2.heap.size := by omega
        have HR2 : Hid (OwnI w2 w1.heap.size w2.heap.size _ (testsK xss idx kind k)) := Own.mono (Own.later HR.out b2) (Nat.le_refl _) b2.size
        go_wp2_with (at_builtin; refine wpList_app_int rfl (.tmp 21) (.tmp 23) rfl w2 (k : Int) w1.heap.size w2.heap.size _ (testsK xss idx kind k) HR2.out zw3 HLN.out rfl rfl ?_; intro ao5 L5 cap5 w5 hL5 o5 b5 z5; have O5 := Lib.hid o5; clear o5)
        go_roundw
        case rel => exact ⟨k + 1, by omega, by go_num, by rw [HT.out]; exact O5.out, HB2.out.trans ((b2.mono (by omega)).trans b5)⟩
        case measure => simp [intOf]; omega
    · have HE : Hid (k = N) := by show k = N; omega
      go_wp2
      go_ret
      exact ⟨_, rfl, by rw [← HE.out]; exact Own.mono HR.out (by omega) (Nat.le_refl _), HB.out⟩
set_option maxHeartbeats 1000000 in
theorem TestsFor_i_yes (n : Nat) (lo hi : Nat) (v : Value) (vs : List Value) (xss : List (List Int)) (idx : Nat) (kind : Int) (w : World) (hv : OwnR w lo hi v vs xss) (hhi : hi ≤ w.heap.size) (hok : netOk n xss = true) (hf : fltB n xss idx kind = true) (hkd : kind = 0 ∨ kind = 1 ∨ kind = 2) :
    Calls Try.prog 22 #[.agg #[.int .i64 n, v], .int .i64 idx, .int .i64 kind] w (IntC w (testsK xss idx kind (2 ^ n))) := by
  have HC : Hid (∀ w, OwnR w lo hi v vs xss → hi ≤ w.heap.size → Calls Try.prog 102 #[.agg #[.int .i64 n, v], .int .i64 idx, .int .i64 kind] w fun e w' => e = .returned (.bool true) ∧ Below w.heap.size w w') := fun w h1 h2 => by
    have := isFault_c n lo hi v vs xss idx kind w h1 h2
    rwa [hf] at this
  have CT : Hid (∀ w, OwnR w lo hi v vs xss → hi ≤ w.heap.size → Calls Try.prog 97 #[.agg #[.int .i64 n, v], .int .i64 idx, .int .i64 kind] w (IntC w (testsK xss idx kind (2 ^ n)))) := fun w h1 h2 => tests_c n lo hi v vs xss idx kind w h1 h2 hok hf hkd
  obtain ⟨R, hR⟩ : ∃ R, R = testsK xss idx kind (2 ^ n) := ⟨_, rfl⟩
  rw [← hR] at CT ⊢
  obtain ⟨ao, g, cap, rfl, -, -, -⟩ := hv.rows
  have HV := Lib.hid hv
  obtain ⟨L, hlen⟩ : ∃ l, l = xss.length := ⟨_, rfl⟩
  rw [← hlen] at HV HC CT ⊢
  clear hv hlen hok hf hkd hR
  go_enter Try.func22, Try.ntmps22
  go_wp2_with fail
  obtain ⟨W1, hW1, c0, c1, hsz, hB1, -, -⟩ := box2 w (.int .i64 n) (.slice ao L cap) 30
  try rw [hW1]
  clear hW1
  refine (HC.out W1 (HV.out.below hB1 (by omega)) (by omega)).mono ?_
  rintro e w1 ⟨rfl, b1⟩
  obtain ⟨d0, d1, z1⟩ := boxC b1 (by omega) c0 c1
  have zz := b1.size
  have HVb := Lib.hid ((HV.out.below hB1 (by omega)).below b1 (by omega))
  have HB1 : Hid (Below w.heap.size w w1) := hB1.trans (b1.mono (by omega))
  have hle1 : hi ≤ w1.heap.size := by omega
  clear c0 c1 HV HC hB1 b1 hsz zz
  go_wp2_with fail
  refine (CT.out w1 HVb.out hle1).mono ?_
  rintro e w2 ⟨u, rfl, o2, b2⟩
  have O2 := Lib.hid o2
  have z2 := b2.size
  clear o2
  obtain ⟨x2, n2, y2, rfl⟩ := (OwnI.ints O2.out).shape2
  go_wp2
  go_ret
  exact ⟨_, rfl, Own.mono O2.out (by omega) (Nat.le_refl _), HB1.out.trans (b2.mono (by omega))⟩
/-- The masks that tell a fault. -/
def testsR (n : Int) (xss : List (List Int)) (idx kind : Int) : List Int := if fltB n xss idx kind = true then testsK xss idx.toNat kind (2 ^ n.toNat) else []
theorem testsR_small (n : Int) (xss : List (List Int)) (idx kind : Int) : (testsR n xss idx kind).length ≤ 1000000000 := by
  unfold testsR
  split
  · rename_i h
    obtain ⟨a, b, rfl, rfl, hnet, h8, hb, hk⟩ := fltB_of h
    have := testsK_le xss b kind (2 ^ a)
    have := pow_le_256 a h8
    simp only [Int.toNat_natCast]
    omega
  · simp
theorem TestsFor_i_no (n : Int) (lo hi : Nat) (v : Value) (vs : List Value) (xss : List (List Int)) (idx kind : Int) (w : World) (hv : OwnR w lo hi v vs xss) (hhi : hi ≤ w.heap.size) (hno : fltB n xss idx kind = false) :
    Calls Try.prog 22 #[.agg #[.int .i64 n, v], .int .i64 idx, .int .i64 kind] w (IntC w []) := by
  have HC := Lib.hid (isFault_c n lo hi v vs xss idx kind)
  obtain ⟨ao, g, cap, rfl, -, -, -⟩ := hv.rows
  have HV := Lib.hid hv
  obtain ⟨L, hlen⟩ : ∃ l, l = xss.length := ⟨_, rfl⟩
  rw [← hlen] at HV HC ⊢
  rw [hno] at HC
  clear hv hlen hno
  go_enter Try.func22, Try.ntmps22
  go_wp2_with fail
  obtain ⟨W1, hW1, c0, c1, hsz, hB1, -, -⟩ := box2 w (.int .i64 n) (.slice ao L cap) 30
  try rw [hW1]
  clear hW1
  refine (HC.out W1 (HV.out.below hB1 (by omega)) (by omega)).mono ?_
  rintro e w1 ⟨rfl, b1⟩
  go_wp2
  go_ret
  exact ⟨_, rfl, Own.nil _ _ _ _, hB1.trans (b1.mono (by omega))⟩
theorem TestsFor_i_c (n : Int) (lo hi : Nat) (v : Value) (vs : List Value) (xss : List (List Int)) (idx kind : Int) (w : World) (hv : OwnR w lo hi v vs xss) (hhi : hi ≤ w.heap.size) :
    Calls Try.prog 22 #[.agg #[.int .i64 n, v], .int .i64 idx, .int .i64 kind] w (IntC w (testsR n xss idx kind)) := by
  cases hf : fltB n xss idx kind
  · rw [show testsR n xss idx kind = [] by simp [testsR, hf]]
    exact TestsFor_i_no n lo hi v vs xss idx kind w hv hhi hf
  · obtain ⟨a, b, rfl, rfl, hnet, h8, hb, hk⟩ := fltB_of hf
    rw [show testsR a xss b kind = testsK xss b kind (2 ^ a) by simp [testsR, hf]]
    exact TestsFor_i_yes a lo hi v vs xss b kind w hv hhi hnet hf hk
end Go.Proofs.Ytiodolbgapjmkaa
