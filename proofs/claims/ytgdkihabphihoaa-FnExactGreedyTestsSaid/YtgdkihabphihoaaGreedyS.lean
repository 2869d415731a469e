/- GreedyTests of the reference on valid networks with at most 20 comparators. Conditions: the network is valid. -/
import Derived.Test.YtgdkihabphihoaaGreedyI
import Derived.Test.YtgdkihabphihoaaSetB
import Derived.Test.YtgdkihabphihoaaWFound
namespace Go.Proofs.Ytgdkihabphihoaa
open Go.RowKit
set_option maxRecDepth 100000
set_option linter.unusedVariables false

/-- What the mask m tells, by the faults' numbers. -/
def bB (xss : List (List Int)) (m t : Nat) : Bool := findB xss (t / 3) ((t % 3 : Nat) : Int) m
def pB (P : Nat → Nat → Bool) (t : Nat) : Bool := P (t / 3) (t % 3)
def sets (xss : List (List Int)) (L m : Nat) : List Int := (List.range m).map fun m : Nat => ((setB (bB xss m) (3 * L) : Nat) : Int)
theorem sets_succ (xss : List (List Int)) (L m : Nat) : sets xss L (m + 1) = sets xss L m ++ [((setB (bB xss m) (3 * L) : Nat) : Int)] := by simp [sets, List.range_succ]
theorem sets_len (xss : List (List Int)) (L m : Nat) : (sets xss L m).length = m := by simp [sets]
theorem sets_getD (xss : List (List Int)) (L N m : Nat) (h : m < N) : (sets xss L N).getD m 0 = ((setB (bB xss m) (3 * L) : Nat) : Int) := by
  simp [sets, List.getD, h]
theorem bB_at (xss : List (List Int)) (m i k : Nat) (hk : k < 3) : bB xss m (3 * i + k) = findB xss i (k : Int) m := by
  unfold bB
  rw [show (3 * i + k) / 3 = i from by omega, show (3 * i + k) % 3 = k from by omega]
theorem ones_left (xss : List (List Int)) (P : Nat → Nat → Bool) (m L : Nat) (hL : 3 * L ≤ 62) : cntB (setB (bB xss m) (3 * L) &&& setB (pB P) (3 * L)) 62 = cntP xss L P m := by
  rw [setB_and]
  have h := cntB_end (setB (fun t => bB xss m t && pB P t) (3 * L)) (3 * L) (Nat.div_eq_of_lt (setB_lt _ _)) (62 - 3 * L)
  rw [show 3 * L + (62 - 3 * L) = 62 from by omega] at h
  rw [h, cntB_set, cntP, ← cnt3]
  congr 1
  refine List.filter_congr fun t ht => ?_
  simp only [bB, pB]
  rw [Bool.and_comm]
theorem minus_left (xss : List (List Int)) (P : Nat → Nat → Bool) (m L : Nat) (hL : 3 * L ≤ 62) : bits BinOp.andNot IntKind.i64 (setB (pB P) (3 * L) : Int) (setB (bB xss m) (3 * L) : Int) = ((setB (pB (minusP xss P m)) (3 * L) : Nat) : Int) := by
  rw [setB_andNot _ _ _ hL]
  congr 1
theorem left_cnt (P : Nat → Nat → Bool) (L : Nat) (hL : 3 * L ≤ 62) : cntB (setB (pB P) (3 * L)) 62 = (faultsL P L).length := by
  have h := cntB_end (setB (pB P) (3 * L)) (3 * L) (Nat.div_eq_of_lt (setB_lt _ _)) (62 - 3 * L)
  rw [show 3 * L + (62 - 3 * L) = 62 from by omega] at h
  rw [h, cntB_set, ← cnt3]
  rfl
/-- The best mask as the reference keeps it. -/
def bestI (f : Nat → Nat) (k : Nat) : Int := if (bestK f k).2 = 0 then -1 else ((bestK f k).1 : Nat)
theorem bestI_zero (f : Nat → Nat) : bestI f 0 = -1 := rfl
theorem bestI_hit {f : Nat → Nat} {k : Nat} (h : (bestK f k).2 < f k) : bestI f (k + 1) = (k : Int) ∧ (bestK f (k + 1)).2 = f k := by
  unfold bestI
  rw [bestK_succ, bestS, if_pos h]
  refine ⟨?_, rfl⟩
  rw [if_neg (by show ¬ f k = 0; omega)]
theorem bestI_miss {f : Nat → Nat} {k : Nat} (h : ¬ (bestK f k).2 < f k) : bestI f (k + 1) = bestI f k ∧ (bestK f (k + 1)).2 = (bestK f k).2 := by
  unfold bestI
  rw [bestK_succ, bestS, if_neg h]
  exact ⟨rfl, rfl⟩

set_option maxHeartbeats 4000000 in
theorem GreedyTests_s_yes (n : Nat) (lo hi : Nat) (v : Value) (vs : List Value) (xss : List (List Int)) (w : World) (hv : OwnR w lo hi v vs xss) (hhi : hi ≤ w.heap.size) (hok : netOk n xss = true) (h20 : xss.length ≤ 20) :
    Calls Try.prog 20 #[.agg #[.int .i64 n, v]] w (IntC w (greedyL n xss)) := by
  have HC : Hid (∀ w, OwnR w lo hi v vs xss → hi ≤ w.heap.size → Calls Try.prog 101 #[.agg #[.int .i64 n, v]] w fun e w' => e = .returned (.bool true) ∧ Below w.heap.size w w') := fun w h1 h2 => by
    have := SNetworkOk_c n lo hi v vs xss w h1 h2
    rwa [hok] at this
  have hn8 : n ≤ 8 := by have := netOk_n hok; omega
  have h256 := pow_le_256 n hn8
  obtain ⟨ao, g, cap, rfl, -, -, -⟩ := hv.rows
  have HV := Lib.hid hv
  have HFF0 : Hid (∀ w i k m, OwnR w lo hi (.slice ao xss.length cap) vs xss → hi ≤ w.heap.size → i < xss.length → k < 3 → m < 2 ^ n → Calls Try.prog 102 #[.agg #[.int .i64 n, .slice ao xss.length cap], .int .i64 (i : Nat), .int .i64 (k : Nat), .int .i64 (m : Nat)] w fun e w' => e = .returned (.bool (findB xss i k m)) ∧ Below w.heap.size w w') := fun w i k m h1 h2 h3 h4 h5 => by
    have h := FindsFault_spec_c n lo hi _ vs xss i k m w h1 h2
    rwa [show findR n xss i k m = findB xss i k m from by simp only [findR, fltB_mk2 hok h3 (show k ≤ 2 by omega), Int.toNat_natCast, show inB (m : Int) 0 (((2 ^ n : Nat) : Int) - 1) = true from inB_mk (by omega)]; rfl] at h
  obtain ⟨L, hlen⟩ : ∃ l, l = xss.length := ⟨_, rfl⟩
  have HLEN := Lib.hid hlen
  obtain ⟨N, hN⟩ : ∃ N, N = 2 ^ n := ⟨_, rfl⟩
  have hwp := wrap_pow n hn8
  have HN := Lib.hid hN
  have HGL : Hid (greedyL n xss = greedyF xss n L (3 * L + 1) (fun _ _ => true)) := by show _ = _; rw [hlen]; rfl
  obtain ⟨RES, hRES⟩ : ∃ r, r = greedyL n xss := ⟨_, rfl⟩
  rw [← hRES] at HGL ⊢
  rw [← hlen] at HV HC HFF0 h20 ⊢
  rw [← hN] at hwp h256 HFF0
  clear hv hlen hok hN hRES
  go_enter Try.func20, Try.ntmps20
  obtain ⟨W1, hW1, c0, c1, hsz, hB1, -, -⟩ := box2 w (.int .i64 n) (.slice ao L cap) 27
  go_wp2_with fail
  try rw [hW1]
  clear hW1
  refine (HC.out W1 (HV.out.below hB1 (by omega)) (by omega)).mono ?_
  rintro e w1 ⟨rfl, b1⟩
  have zz := b1.size
  obtain ⟨d0, d1, z1⟩ := boxC b1 (by omega) c0 c1
  have HVb := Lib.hid ((HV.out.below hB1 (by omega)).below b1 (by omega))
  have HB1 : Hid (Below w.heap.size w w1) := hB1.trans (b1.mono (by omega))
  have hle1 : hi ≤ w1.heap.size := by omega
  clear c0 c1 HV HC hB1 b1 hsz zz
  have h20' : ¬ (20 : Int) < L := by omega
  go_wp2_with fail
  rw [show decide ((20 : Int) < L) = false from by rw [decide_eq_false_iff_not]; omega]
  obtain ⟨Wo, hWo⟩ : ∃ W, W = w1.alloc (.cells #[] 3) := ⟨_, rfl⟩
  have OO : Hid (OwnI Wo w1.heap.size Wo.heap.size (.slice (some ⟨w1.heap.size, 0, none⟩) 0 0) []) := by show OwnI _ _ _ _ _; rw [hWo]; exact Own.mono (ownI_empty w1) (Nat.le_refl _) (by simp)
  have hbo : Hid (Below w1.heap.size w1 Wo) := by show Below _ _ _; rw [hWo]; exact (Below.refl _ _).alloc (Nat.le_refl _) _
  rw [← hWo]
  clear hWo
  try simp only [hwp]
  go_loopw [3, 4] (fun v i wr => ∃ m : Nat, m ≤ N ∧ i = .int .i64 m ∧ OwnI wr w1.heap.size wr.heap.size v (sets xss L m) ∧ Below w1.heap.size w1 wr) (fun _ i _ => N - (intOf i).toNat)
  case atStart => exact ⟨0, Nat.zero_le _, rfl, OO.out, hbo.out⟩
  obtain ⟨m, hm, rfl, hO, hb⟩ := hrel
  obtain ⟨aof, gf, capf, ef, -, hgf, hcf⟩ := OwnI.view hO
  rw [sets_len] at ef hgf hcf
  subst ef
  obtain ⟨cc0, cc1, hzr⟩ := boxC hb z1 d0 d1
  obtain ⟨wA, rfl⟩ : ∃ wA : World, wA = wr := ⟨_, rfl⟩
  have zA := hb.size
  have HVA := Lib.hid (HVb.out.below hb hle1)
  have hleA : hi ≤ wA.heap.size := by omega
  have HBA := Lib.hid hb
  have HO := Lib.hid hO
  by_cases hlt : m < N
  · clear hgf hcf hO hb
    go_wp2_with fail
    try rw [hwp]
    go_loopw [5, 34] (fun s i wr => ∃ j : Nat, j ≤ L ∧ i = .int .i64 j ∧ s = .int .i64 (setB (bB xss m) (3 * j) : Nat) ∧ Below wA.heap.size wA wr) (fun _ i _ => L - (intOf i).toNat)
    case atStart => exact ⟨0, Nat.zero_le _, rfl, rfl, Below.refl _ _⟩
    obtain ⟨j, hj, rfl, rfl, hb⟩ := hrel
    obtain ⟨S, hS⟩ : ∃ S, S = setB (bB xss m) (3 * j) := ⟨_, rfl⟩
    have hSl := setB_lt (bB xss m) (3 * j)
    have hpw : 2 ^ (3 * j) ≤ 2 ^ 60 := Nat.pow_le_pow_right (by omega) (by omega)
    rw [← hS] at hSl ⊢
    have HSS := Lib.hid hS
    have hS60 : S < 1152921504606846976 := Nat.lt_of_lt_of_le hSl hpw
    obtain ⟨c0, c1, hz⟩ := boxC hb hzr cc0 cc1
    obtain ⟨wB, rfl⟩ : ∃ wB : World, wB = wr := ⟨_, rfl⟩
    have zB := hb.size
    have HB2 := Lib.hid hb
    clear hS hSl hpw hb
    by_cases hlt2 : j < L
    · clear c0 c1 hz
      go_wp2_with fail
      go_loopw [5, 7] (fun s i wr => ∃ k : Nat, k ≤ 3 ∧ i = .int .i64 k ∧ s = .int .i64 (setB (bB xss m) (3 * j + k) : Nat) ∧ Below wA.heap.size wA wr) (fun _ i _ => 3 - (intOf i).toNat)
      case atStart => exact ⟨0, Nat.zero_le _, rfl, by rw [Nat.add_zero, ← HSS.out], HB2.out⟩
      obtain ⟨k, hk, rfl, rfl, hb⟩ := hrel
      obtain ⟨S3, hS⟩ : ∃ S, S = setB (bB xss m) (3 * j + k) := ⟨_, rfl⟩
      have hSl := setB_lt (bB xss m) (3 * j + k)
      have hpw : 2 ^ (3 * j + k) ≤ 2 ^ 60 := Nat.pow_le_pow_right (by omega) (by omega)
      rw [← hS] at hSl ⊢
      have HS3 := Lib.hid hS
      have hS3 : S3 < 1152921504606846976 := Nat.lt_of_lt_of_le hSl hpw
      obtain ⟨c0, c1, hz⟩ := boxC hb hzr cc0 cc1
      have z3 := hb.size
      have HB3 := Lib.hid hb
      have HV3 := Lib.hid (HVA.out.below hb hleA)
      have hle3 : hi ≤ wr.heap.size := by omega
      clear hS hSl hpw hb
      by_cases hk3 : k < 3
      · have hk3' : (k : Int) < 3 := by omega
        have CF := HFF0.out wr j k m HV3.out hle3 hlt2 hk3 hlt
        have hat := bB_at xss m j k hk3
        cases hq : findB xss j k m
        · rw [hq] at CF hat
          have HT := Lib.hid (setB_miss hat)
          have HCF := Lib.hid CF
          clear CF hat hq
          go_wp2_with fail
          refine HCF.out.mono ?_
          rintro e w2 ⟨rfl, b2⟩
          go_wp2
          go_roundw
          case rel => exact ⟨k + 1, by omega, by go_num, by rw [← Nat.add_assoc, HT.out, ← HS3.out], HB3.out.trans (b2.mono (by omega))⟩
          case measure => simp [intOf]; omega
        · rw [hq] at CF hat
          have ht := setB_hit hat
          have hl4 := setB_lt (bB xss m) (3 * j + k + 1)
          have hp4 : 2 ^ (3 * j + k + 1) ≤ 2 ^ 60 := Nat.pow_le_pow_right (by omega) (by omega)
          rw [← HS3.out] at ht
          obtain ⟨X, hX⟩ : ∃ X, X = 2 ^ (3 * j + k) := ⟨_, rfl⟩
          have hX6 : X < 1152921504606846976 := by rw [hX]; exact Nat.pow_lt_pow_right (by omega) (by omega : 3 * j + k < 60)
          have ex : ((2 : Int) ^ (3 * j + k)) = (X : Int) := by rw [hX]; push_cast; rfl
          obtain ⟨S4, hS4⟩ : ∃ S, S = setB (bB xss m) (3 * j + k + 1) := ⟨_, rfl⟩
          have or4 := i64_or S3 X (by omega) (by omega)
          rw [← hX, ← hS4] at ht
          rw [ht] at or4
          rw [← hS4] at hl4
          have hS46 : S4 < 1152921504606846976 := Nat.lt_of_lt_of_le hl4 hp4
          have HS4 := Lib.hid hS4
          have HCF := Lib.hid CF
          clear CF hat hq ht hl4 hp4 hX hS4
          go_wp2_with fail
          refine HCF.out.mono ?_
          rintro e w2 ⟨rfl, b2⟩
          go_wp2
          go_roundw
          case rel => exact ⟨k + 1, by omega, by go_num, by rw [← Nat.add_assoc, ← HS4.out], HB3.out.trans (b2.mono (by omega))⟩
          case measure => simp [intOf]; omega
      · have HE : Hid (S3 = setB (bB xss m) (3 * (j + 1))) := by show _ = _; rw [HS3.out, show 3 * j + k = 3 * (j + 1) from by omega]
        have hk3' : ¬ (k : Int) < 3 := by omega
        go_wp2
        go_roundw
        case rel => exact ⟨j + 1, by omega, by go_num, by rw [← HE.out], HB3.out⟩
        case measure => simp [intOf]; omega
    · have HE : Hid (sets xss L (m + 1) = sets xss L m ++ [(S : Int)]) := by show _ = _; rw [sets_succ, HSS.out, show j = L from by omega]
      have hzB1 : w1.heap.size ≤ wB.heap.size := by omega
      have HO2 : Hid (OwnI wB w1.heap.size wB.heap.size (.slice aof m capf) (sets xss L m)) := Own.mono (Own.below HO.out HB2.out (Nat.le_refl _)) (Nat.le_refl _) zB
      have HLN : Hid ((sets xss L m).length ≤ 100000000) := by show _ ≤ _; rw [sets_len]; omega
      go_wp2_with (at_builtin; refine wpList_app_int rfl (.tmp 54) (.tmp 56) rfl wB (S : Int) w1.heap.size wB.heap.size _ (sets xss L m) HO2.out hzB1 HLN.out rfl rfl ?_; intro ao5 L5 cap5 w5 hL5 o5 b5 z5; have O5 := Lib.hid o5; have B5 := Lib.hid b5; clear o5 b5)
      go_roundw
      case rel => exact ⟨m + 1, by omega, by go_num, by rw [HE.out]; exact O5.out, HBA.out.trans ((HB2.out.mono zA).trans B5.out)⟩
      case measure => simp [intOf]; omega
  · obtain rfl : m = N := by omega
    have hNp : 0 < m := by rw [HN.out]; exact Nat.two_pow_pos n
    obtain ⟨rfl, -, hgfw⟩ := hgf hNp
    have HCF : Hid (∀ t, t < m → wA.cell? ⟨gf, t, none⟩ = some (.int .i64 (setB (bB xss t) (3 * L) : Nat))) := by
      intro t ht
      have := (hcf t ht).1
      rwa [sets_getD xss L m t ht] at this
    obtain ⟨A, hA⟩ : ∃ A, A = setB (pB (fun _ _ => true)) (3 * L) := ⟨_, rfl⟩
    have HAA := Lib.hid hA
    have hX1 : 1 ≤ 2 ^ (3 * L) := Nat.one_le_two_pow
    have hX6 : 2 ^ (3 * L) ≤ 1152921504606846976 := Nat.pow_le_pow_right (by omega) (by omega : 3 * L ≤ 60)
    have eA : A + 1 = 2 ^ (3 * L) := by
      rw [hA, show pB (fun _ _ => true) = fun _ => true from rfl, setB_all]
      omega
    have ex : ((2 : Int) ^ (3 * L)) = (A : Int) + 1 := by
      have : ((2 ^ (3 * L) : Nat) : Int) = (A : Int) + 1 := by rw [← eA]; push_cast; rfl
      rw [← this]; push_cast; rfl
    have hA6 : A < 1152921504606846976 := by omega
    clear hgf hcf hO hb hA hX1 hX6 eA
    go_wp2_with fail
    try rw [hwp]
    obtain ⟨W2, hW2⟩ : ∃ W, W = wA.alloc (.cells #[] 3) := ⟨_, rfl⟩
    have HO0 : Hid (OwnI W2 wA.heap.size W2.heap.size (.slice (some ⟨wA.heap.size, 0, none⟩) 0 0) []) := by show OwnI _ _ _ _ _; rw [hW2]; exact Own.mono (ownI_empty wA) (Nat.le_refl _) (by simp)
    have HBO : Hid (Below wA.heap.size wA W2) := by show Below _ _ _; rw [hW2]; exact (Below.refl _ _).alloc (Nat.le_refl _) _
    rw [← hW2]
    clear hW2
    go_loopw [8, 9] (fun o l wr => ∃ P f outs, ∃ A : Nat, l = .int .i64 A ∧ Hid (A = setB (pB P) (3 * L)) ∧ A < 1152921504606846976 ∧ OwnI wr wA.heap.size wr.heap.size o outs ∧ (faultsL P L).length < f ∧ outs.length + (faultsL P L).length ≤ 60 ∧ Hid (outs ++ greedyF xss n L f P = RES) ∧ Below wA.heap.size wA wr) (fun _ l _ => cntB (intOf l).toNat 62)
    case atStart => exact ⟨fun _ _ => true, 3 * L + 1, [], A, rfl, HAA, hA6, HO0.out, by have := faultsL_le (fun _ _ => true) L; omega, by have := faultsL_le (fun _ _ => true) L; simp; omega, HGL.out.symm, HBO.out⟩
    clear HO0 HBO HAA hA6 ex
    obtain ⟨P, f, outs, A2, rfl, HA2, hA6, hO2, hf, h60, HG, hb⟩ := hrel
    obtain ⟨aoo, go, capo, eo, -, -, -⟩ := OwnI.view hO2
    obtain ⟨M0, hM0⟩ : ∃ M, M = outs.length := ⟨_, rfl⟩
    have HM0 := Lib.hid hM0
    obtain ⟨M, hM⟩ : ∃ M, M = (faultsL P L).length := ⟨_, rfl⟩
    have HMM := Lib.hid hM
    rw [← hM0] at eo h60
    rw [← hM] at hf h60
    subst eo
    obtain ⟨wB, rfl⟩ : ∃ wB : World, wB = wr := ⟨_, rfl⟩
    have zB := hb.size
    have HBB := Lib.hid hb
    have HO2 := Lib.hid hO2
    have HCB : Hid (∀ t, t < m → wB.cell? ⟨gf, t, none⟩ = some (.int .i64 (setB (bB xss t) (3 * L) : Nat))) := fun t ht => (HBB.out.cell (p := ⟨gf, t, none⟩) (by show gf < _; omega)).trans (HCF.out t ht)
    obtain ⟨cn, hcn⟩ : ∃ c, c = cntP xss L P := ⟨_, rfl⟩
    have HCN := Lib.hid hcn
    have HC6 : Hid (∀ t, cn t ≤ 60) := fun t => by rw [hcn]; have := minusP_len xss L P t; omega
    have HBF : Hid (∀ k, (bestK cn k).2 ≤ 60) := by
      intro k
      rcases bestK_facts cn k with h | ⟨h1, h2, h3⟩
      · rw [h.1]; omega
      · rw [← h2]; exact HC6.out _
    clear hM hM0 hO2 hb hcn
    go_wp2_with fail
    go_loopw [10, 11, 67] (fun b s i wr => ∃ t : Nat, t ≤ m ∧ i = .int .i64 t ∧ b = .int .i64 (bestI cn t) ∧ s = .int .i64 ((bestK cn t).2 : Nat) ∧ wB = wr) (fun _ _ i _ => m - (intOf i).toNat)
    case atStart => exact ⟨0, Nat.zero_le _, rfl, rfl, rfl, rfl⟩
    obtain ⟨t, ht, rfl, rfl, rfl, rfl⟩ := hrel
    obtain ⟨b1, hb1⟩ : ∃ b, b = bestI cn t := ⟨_, rfl⟩
    obtain ⟨s1, hs1⟩ : ∃ b, b = (bestK cn t).2 := ⟨_, rfl⟩
    have q1 := HBF.out t
    rw [← hs1] at q1 ⊢
    rw [← hb1]
    have HB1' := Lib.hid hb1
    have HS1 := Lib.hid hs1
    clear hb1 hs1
    by_cases hlt2 : t < m
    · have f1 := HCB.out t hlt2
      obtain ⟨S, hS⟩ : ∃ S, S = setB (bB xss t) (3 * L) := ⟨_, rfl⟩
      have hSl := setB_lt (bB xss t) (3 * L)
      have hpw : 2 ^ (3 * L) ≤ 1152921504606846976 := Nat.pow_le_pow_right (by omega) (by omega : 3 * L ≤ 60)
      rw [← hS] at hSl f1
      have hS6 : S < 1152921504606846976 := Nat.lt_of_lt_of_le hSl hpw
      have e1 := i64_and S A2 (by omega) (by omega)
      obtain ⟨D, hD⟩ : ∃ D, D = S &&& A2 := ⟨_, rfl⟩
      have hD6 : D < 1152921504606846976 := by rw [hD]; exact Nat.lt_of_le_of_lt Nat.and_le_left hS6
      have hones : cntB D 62 = cn t := by rw [hD, hS, HA2.out, ones_left xss P t L (by omega), HCN.out]
      obtain ⟨c, hc⟩ : ∃ c, c = cn t := ⟨_, rfl⟩
      have hc6 := HC6.out t
      have CO : Hid (∀ w, Calls Try.prog 103 #[.int .i64 D] w fun e w' => e = .returned (.int .i64 (c : Nat)) ∧ w = w') := fun w => by
        have := l03Ones_big D w (by omega)
        rwa [hones, ← hc] at this
      rw [← hD] at e1
      rw [← hc] at hc6
      have HCC := Lib.hid hc
      clear hS hSl hpw hD hones hc
      by_cases hgt : s1 < c
      · have HK : Hid (bestI cn (t + 1) = (t : Int) ∧ (bestK cn (t + 1)).2 = c) := by
          have h := bestI_hit (f := cn) (k := t) (by rw [← HS1.out, ← HCC.out]; exact hgt)
          rwa [← HCC.out] at h
        go_wp2_with (go_at_call 103; refine (CO.out _).mono ?_; rintro e w' ⟨rfl, rfl⟩)
        go_roundw
        case rel => exact ⟨t + 1, by omega, by go_num, by rw [HK.out.1], by rw [HK.out.2], by trivial⟩
        case measure => simp [intOf]; omega
      · have HK : Hid (bestI cn (t + 1) = b1 ∧ (bestK cn (t + 1)).2 = s1) := by
          have h := bestI_miss (f := cn) (k := t) (by rw [← HS1.out, ← HCC.out]; exact hgt)
          rwa [← HS1.out, ← HB1'.out] at h
        go_wp2_with (go_at_call 103; refine (CO.out _).mono ?_; rintro e w' ⟨rfl, rfl⟩)
        go_roundw
        case rel => exact ⟨t + 1, by omega, by go_num, by rw [HK.out.1], by rw [HK.out.2], by trivial⟩
        case measure => simp [intOf]; omega
    obtain rfl : t = m := by omega
    have HS1N : Hid (s1 = (bestK (cntP xss L P) (2 ^ n)).2) := by show _ = _; rw [← HCN.out, ← HN.out]; exact HS1.out
    by_cases hs0 : s1 = 0
    · have HFIN : Hid (RES = outs) := by
        show _ = _
        rw [← HG.out, greedyF_stop (by rw [← HS1N.out]; exact hs0), List.append_nil]
      obtain rfl : b1 = -1 := by rw [HB1'.out, bestI, ← HS1.out, if_pos hs0]
      go_wp2
      go_ret
      exact ⟨_, rfl, by rw [HFIN.out]; exact Own.mono HO2.out (by have := HB1.out.size; omega) (Nat.le_refl _), HB1.out.trans ((HBA.out.trans (HBB.out.mono zA)).mono HB1.out.size)⟩
    obtain ⟨b2, hb2⟩ : ∃ b : Nat, b = (bestK cn t).1 := ⟨_, rfl⟩
    obtain rfl : b1 = (b2 : Int) := by rw [HB1'.out, bestI, ← HS1.out, if_neg hs0, hb2]
    obtain ⟨f', hg1, hg2, hg3, hg4⟩ := greedyF_go (xss := xss) (n := n) (L := L) (f := f) (P := P) (by rw [← HS1N.out]; exact hs0) (by rw [← HMM.out]; exact hf)
    have HB2N : Hid (b2 = (bestK (cntP xss L P) (2 ^ n)).1) := by show _ = _; rw [← HCN.out, ← HN.out]; exact hb2
    rw [← HB2N.out] at hg1 hg2 hg3 hg4
    rw [← HMM.out] at hg3
    have HGO := Lib.hid hg1
    have HLF := Lib.hid hg2
    have hb2N : b2 < t := by rw [HN.out]; exact hg4
    have HLT := Lib.hid hg3
    have f1 := HCB.out b2 hb2N
    obtain ⟨S, hS⟩ : ∃ S, S = setB (bB xss b2) (3 * L) := ⟨_, rfl⟩
    have e1 := minus_left xss P b2 L (by omega)
    obtain ⟨A3, hA3⟩ : ∃ A, A = setB (pB (minusP xss P b2)) (3 * L) := ⟨_, rfl⟩
    have hSl := setB_lt (bB xss b2) (3 * L)
    have hAl := setB_lt (pB (minusP xss P b2)) (3 * L)
    have hpw : 2 ^ (3 * L) ≤ 1152921504606846976 := Nat.pow_le_pow_right (by omega) (by omega : 3 * L ≤ 60)
    rw [← hS] at hSl f1 e1
    rw [← HA2.out, ← hA3] at e1
    rw [← hA3] at hAl
    have hS6 : S < 1152921504606846976 := Nat.lt_of_lt_of_le hSl hpw
    have hA36 : A3 < 1152921504606846976 := Nat.lt_of_lt_of_le hAl hpw
    have HA3 := Lib.hid hA3
    have HLN : Hid (outs.length ≤ 100000000) := by show _ ≤ _; rw [← HM0.out]; omega
    have HMEA : Hid (cntB A3 62 < cntB A2 62) := by
      show _ < _
      rw [hA3, HA2.out, left_cnt _ _ (by omega), left_cnt _ _ (by omega), ← HMM.out]
      exact hg3
    have hb2n : ¬ (b2 : Int) < 0 := by omega
    clear hg1 hg2 hg3 hg4 hS hSl hAl hpw hA3 hb2
    go_wp2_with (at_builtin; refine wpList_app_int rfl (.tmp 87) (.tmp 89) rfl wB (b2 : Int) wA.heap.size wB.heap.size _ outs HO2.out zB HLN.out rfl rfl ?_; intro ao5 L5 cap5 w5 hL5 o5 b5 z5; have f5 := (b5.cell (p := ⟨gf, b2, none⟩) (by show gf < wA.heap.size; omega)).trans f1; have O5 := Lib.hid o5; have B5 := Lib.hid b5; clear o5 b5)
    go_roundw
    case rel => exact ⟨minusP xss P b2, f', outs ++ [(b2 : Int)], A3, by go_num, HA3, hA36, O5.out, HLF.out, by rw [List.length_append, ← HM0.out]; have := HLT.out; simp; omega, by show _ = _; rw [List.append_assoc, List.singleton_append, ← HGO.out]; exact HG.out, HBB.out.trans B5.out⟩
    case measure => simp only [intOf, Int.toNat_natCast]; exact HMEA.out
end Go.Proofs.Ytgdkihabphihoaa
