/- GreedyTests of the program on valid networks with at most 20 comparators. Conditions: the network is valid. -/
import Derived.Test.YtiodolbgapjmkaaGreedyI
import Derived.Deep.RegionHeld3
import Derived.Deep.DeepCutAuto
import Derived.Test.YtiodolbgapjmkaaWFound
import Derived.Test.YtiodolbgapjmkaaWHidden
import Derived.Test.YtiodolbgapjmkaaWStill
import Derived.Test.YtiodolbgapjmkaaWLean
import Derived.Test.YtiodolbgapjmkaaNeeded
import Derived.Test.YtiodolbgapjmkaaMkSort
import Derived.Test.YtiodolbgapjmkaaMake
namespace Go.Proofs.Ytiodolbgapjmkaa
open Go.RowKit
set_option maxRecDepth 100000
set_option linter.unusedVariables false

set_option maxHeartbeats 4000000 in
theorem GreedyTests_i_yes (n : Nat) (lo hi : Nat) (v : Value) (vs : List Value) (xss : List (List Int)) (w : World) (hv : OwnR w lo hi v vs xss) (hhi : hi ≤ w.heap.size) (hok : netOk n xss = true) (h20 : xss.length ≤ 20) :
    Calls Try.prog 20 #[.agg #[.int .i64 n, v]] w (IntC w (greedyL n xss)) := by
  have HC : Hid (∀ w, OwnR w lo hi v vs xss → hi ≤ w.heap.size → Calls Try.prog 94 #[.agg #[.int .i64 n, v]] w fun e w' => e = .returned (.bool true) ∧ Below w.heap.size w w') := fun w h1 h2 => by
    have := NetworkOk_c n lo hi v vs xss w h1 h2
    rwa [hok] at this
  have CE0 : Hid (∀ (w : World) (i k m : Nat), OwnR w lo hi v vs xss → hi ≤ w.heap.size → m < 2 ^ n → k < 3 → Calls Try.prog 99 #[.agg #[.int .i64 n, v], .int .i64 i, .int .i64 k, .int .i64 m] w fun e w' => e = .returned (.bool (findB xss i k m)) ∧ Below w.heap.size w w') := fun w i k m h1 h2 h3 h4 => finds_c n lo hi v vs xss i k m w h1 h2 hok h3 (by omega)
  have hn8 : n ≤ 8 := by have := netOk_n hok; omega
  have h256 := pow_le_256 n hn8
  obtain ⟨ao, g, cap, rfl, -, -, -⟩ := hv.rows
  have HV := Lib.hid hv
  obtain ⟨L, hlen⟩ : ∃ l, l = xss.length := ⟨_, rfl⟩
  have HLEN := Lib.hid hlen
  obtain ⟨N, hN⟩ : ∃ N, N = 2 ^ n := ⟨_, rfl⟩
  have hwp := wrap_pow n hn8
  have HN := Lib.hid hN
  have HGL : Hid (greedyL n xss = greedyF xss n L (3 * L + 1) (fun _ _ => true)) := by show _ = _; rw [hlen]; rfl
  obtain ⟨RES, hRES⟩ : ∃ r, r = greedyL n xss := ⟨_, rfl⟩
  rw [← hRES] at HGL ⊢
  rw [← hlen] at HV HC CE0 h20 ⊢
  rw [← hN] at hwp h256 CE0
  clear hv hlen hok hN hRES
  go_enter Try.func20, Try.ntmps20
  obtain ⟨W1, hW1, c0, c1, hsz, hB1, -, -⟩ := box2 w (.int .i64 n) (.slice ao L cap) 30
  go_wp2_with fail
  try rw [hW1]
  clear hW1
  refine (HC.out W1 (HV.out.below hB1 (by omega)) (by omega)).mono ?_
  rintro e w1 ⟨rfl, b1⟩
  have zz := b1.size
  obtain ⟨d0, d1, z1⟩ := boxC b1 (by omega) c0 c1
  have HVb := Lib.hid ((HV.out.below hB1 (by omega)).below b1 (by omega))
  have HB1 : Hid (Below w.heap.size w w1) := hB1.trans (b1.mono (by omega))
  have hle1 : hi ≤ w1.heap.size := by omega
  clear c0 c1 HV HC hB1 b1 hsz zz
  have h20' : ¬ (20 : Int) < L := by omega
  go_wp2_with fail
  rw [show decide ((20 : Int) < L) = false from by rw [decide_eq_false_iff_not]; omega]
  obtain ⟨Wo, hWo⟩ : ∃ W, W = w1.alloc (.cells #[] 3) := ⟨_, rfl⟩
  have OO : Hid (OwnI Wo w1.heap.size Wo.heap.size (.slice (some ⟨w1.heap.size, 0, none⟩) 0 0) []) := by show OwnI _ _ _ _ _; rw [hWo]; exact Own.mono (ownI_empty w1) (Nat.le_refl _) (by simp)
  have hbo : Below w1.heap.size w1 Wo := by rw [hWo]; exact (Below.refl _ _).alloc (Nat.le_refl _) _
  have hso : Wo.heap.size = w1.heap.size + 1 := by rw [hWo]; simp
  rw [← hWo]
  clear hWo
  obtain ⟨e0, e1, ez⟩ := boxC hbo z1 d0 d1
  have HVo := Lib.hid (HVb.out.below hbo hle1)
  refine (faults_all_c (fun _ _ => true) n lo hi _ vs xss Wo HVo.out (by omega) (by rw [← HLEN.out]; omega) (fun w' hb i k hi3 hk => greedy1_c _ _ w')).mono ?_
  rintro e wl ⟨u, us, rfl, ol, bl⟩
  rw [← HLEN.out] at ol
  have zl := bl.size
  have OL := Lib.hid ol
  have BL : Hid (Below w1.heap.size w1 wl) := hbo.trans (bl.mono (by omega))
  have OO2 : Hid (OwnI wl w1.heap.size wl.heap.size (.slice (some ⟨w1.heap.size, 0, none⟩) 0 0) []) := Own.mono (Own.later OO.out bl) (Nat.le_refl _) bl.size
  clear OO hbo e0 e1 ez ol bl
  go_wp2_with fail
  go_loopw [3, 4] (fun o l wr => ∃ P f outs vl, OwnI wr w1.heap.size wr.heap.size o outs ∧ OwnR wr w1.heap.size wr.heap.size l vl (faultsL P L) ∧ SepR o l vl ∧ (faultsL P L).length < f ∧ outs.length + (faultsL P L).length ≤ 60 ∧ Hid (outs ++ greedyF xss n L f P = RES) ∧ Below w1.heap.size w1 wr) (fun _ l _ => lenOf l)
  case atStart => exact ⟨_, 3 * L + 1, [], us, OO2.out, OL.out.mono (by omega) (Nat.le_refl _), SepR.fresh Wo.heap.size (fun k hk => by have e : w1.heap.size = k := Option.some.inj hk; omega) (fun k hk => (OL.out.top.row.lt k hk).1) OL.out.ge_mem, by have := faultsL_le (fun _ _ => true) L; omega, by have := faultsL_le (fun _ _ => true) L; simp; omega, HGL.out.symm, BL.out⟩
  case round =>
    obtain ⟨P, f, outs, vl, hO, hR, hS, hf, h60, HG, hb⟩ := hrel
    obtain ⟨aoo, go, capo, eo, -, -, -⟩ := OwnI.view hO
    obtain ⟨M0, hM0⟩ : ∃ M, M = outs.length := ⟨_, rfl⟩
    have HM0 := Lib.hid hM0
    obtain ⟨aol, gl, capl, el, hgl, hrow⟩ := left_row hR
    obtain ⟨M, hM⟩ : ∃ M, M = (faultsL P L).length := ⟨_, rfl⟩
    have HMM := Lib.hid hM
    rw [← hM0] at eo h60
    rw [← hM] at el hgl hrow hf h60
    subst eo
    subst el
    obtain ⟨cc0, cc1, hzr⟩ := boxC hb z1 d0 d1
    obtain ⟨wA, rfl⟩ : ∃ wA : World, wA = wr := ⟨_, rfl⟩
    have zA := hb.size
    have HVA := Lib.hid (HVb.out.below hb hle1)
    have hleA : hi ≤ wA.heap.size := by omega
    have HBA := Lib.hid hb
    have HO := Lib.hid hO
    have HR := Lib.hid hR
    have HS := Lib.hid hS
    have HROW := Lib.hid hrow
    obtain ⟨cn, hcn⟩ : ∃ c, c = cntP xss L P := ⟨_, rfl⟩
    have HCN := Lib.hid hcn
    have HCB : Hid (∀ m, cn m = cntJ (fndR xss m) (faultsL P L) M) := by
      intro m
      rw [hcn, cntP_filter, cntJ, hM, List.take_of_length_le (Nat.le_refl _)]
    have HBF : Hid (∀ k, (bestK cn k).2 ≤ 60 ∧ (bestK cn k).1 ≤ k) := by
      intro k
      rcases bestK_facts cn k with h | ⟨h1, h2, h3⟩
      · rw [h.1, h.2]; omega
      · have := cntJ_le (fndR xss (bestK cn k).1) (faultsL P L) M
        rw [← HCB.out, h2] at this
        omega
    clear hM hM0 hO hR hS hrow hb hcn OO2 OL BL
    go_wp2_with fail
    try simp only [hwp]
    go_loopw [5, 6, 29] (fun b s i wr => ∃ m : Nat, m ≤ N ∧ i = .int .i64 m ∧ b = .int .i64 ((bestK cn m).1 : Nat) ∧ s = .int .i64 ((bestK cn m).2 : Nat) ∧ Below wA.heap.size wA wr) (fun _ _ i _ => N - (intOf i).toNat)
    case atStart => exact ⟨0, Nat.zero_le _, rfl, rfl, rfl, Below.refl _ _⟩
    case round =>
      obtain ⟨m, hm, rfl, rfl, rfl, hb⟩ := hrel
      obtain ⟨b1, hb1⟩ : ∃ b, b = (bestK cn m).1 := ⟨_, rfl⟩
      obtain ⟨s1, hs1⟩ : ∃ b, b = (bestK cn m).2 := ⟨_, rfl⟩
      have q1 := (HBF.out m).1
      have q2 := (HBF.out m).2
      rw [← hb1] at q2 ⊢
      rw [← hs1] at q1 ⊢
      have HB1' := Lib.hid hb1
      have HS1 := Lib.hid hs1
      have HB := Lib.hid hb
      obtain ⟨c0, c1, hz⟩ := boxC hb hzr cc0 cc1
      have zB := hb.size
      clear hb1 hs1 hb
      obtain ⟨wB, rfl⟩ : ∃ wB : World, wB = wr := ⟨_, rfl⟩
      by_cases hlt : m < N
      · clear c0 c1 hz
        go_wp2_with fail
        go_loopw [8, 34] (fun y j wr => ∃ t : Nat, t ≤ M ∧ j = .int .i64 t ∧ y = .int .i64 (cntJ (fndR xss m) (faultsL P L) t : Nat) ∧ Below wA.heap.size wA wr) (fun _ j _ => M - (intOf j).toNat)
        case atStart => exact ⟨0, Nat.zero_le _, rfl, rfl, HB.out⟩
        case round =>
          obtain ⟨t, ht, rfl, rfl, hb⟩ := hrel
          obtain ⟨c, hc⟩ : ∃ c, c = cntJ (fndR xss m) (faultsL P L) t := ⟨_, rfl⟩
          have hcM := cntJ_le (fndR xss m) (faultsL P L) t
          rw [← hc, ← HMM.out] at hcM
          rw [← hc]
          have HCC := Lib.hid hc
          have HB3 := Lib.hid hb
          obtain ⟨c0, c1, hz⟩ := boxC hb hzr cc0 cc1
          have z3 := hb.size
          have HV3 := Lib.hid (HVA.out.below hb hleA)
          have hle3 : hi ≤ wr.heap.size := by omega
          clear hc
          by_cases hlt3 : t < M
          · obtain ⟨gr, capr, i, k, -, hcell, hgr, hci, hck, hF, hi', hk'⟩ := HROW.out t hlt3
            obtain ⟨rfl, hglw⟩ := hgl (by omega)
            have f1 := (hb.cell (p := ⟨gl, t, none⟩) (by show gl < _; omega)).trans hcell
            have f2 := (hb.cell (p := ⟨gr, 0, none⟩) (by show gr < _; omega)).trans hci
            have f3 := (hb.cell (p := ⟨gr, 1, none⟩) (by show gr < _; omega)).trans hck
            have hsc := cntJ_succ (q := fndR xss m) (F := faultsL P L) (j := t) (by rw [← HMM.out]; exact hlt3)
            rw [hF, ← HCC.out, show fndR xss m [(i : Int), (k : Int)] = findB xss i k m from by simp [fndR]] at hsc
            have bd : Below wr.heap.size wr wr.drew := (Below.refl _ _).drew
            have CE := Lib.hid (CE0.out wr.drew i k m (HV3.out.below bd hle3) hle3 hlt hk')
            have BD := Lib.hid bd
            replace c0 : wr.drew.cell? ⟨w.heap.size, 0, none⟩ = some (.int .i64 n) := c0
            replace c1 : wr.drew.cell? ⟨w.heap.size, 1, none⟩ = some (.slice ao L cap) := c1
            replace f2 : wr.drew.cell? ⟨gr, 0, none⟩ = some (.int .i64 i) := f2
            replace f3 : wr.drew.cell? ⟨gr, 1, none⟩ = some (.int .i64 k) := f3
            clear bd
            cases hq : findB xss i k m
            · rw [hq] at CE hsc
              have HT : Hid (cntJ (fndR xss m) (faultsL P L) (t + 1) = c) := by show _ = _; rw [hsc]; simp
              clear hq hsc hb hcell hci hck hF
              go_upto_region 13 with fail
              go_region_held3 (fun W' => W'.cell? ⟨w.heap.size, 0, none⟩ = some (.int .i64 n) ∧ W'.cell? ⟨w.heap.size, 1, none⟩ = some (.slice ao L cap) ∧ W'.cell? ⟨gr, 0, none⟩ = some (.int .i64 i) ∧ W'.cell? ⟨gr, 1, none⟩ = some (.int .i64 k)) (refine ⟨?_, ?_, ?_, ?_⟩ <;> with_reducible assumption) (first | (go_at_call 99; refine CE.out.mono ?_; rintro e w2 ⟨rfl, b2⟩; have B2 := Lib.hid b2; replace c0 := (b2.cell (p := ⟨w.heap.size, 0, none⟩) (by show w.heap.size < wr.heap.size; omega)).trans c0; replace c1 := (b2.cell (p := ⟨w.heap.size, 1, none⟩) (by show w.heap.size < wr.heap.size; omega)).trans c1; replace f2 := (b2.cell (p := ⟨gr, 0, none⟩) (by show gr < wr.heap.size; omega)).trans f2; replace f3 := (b2.cell (p := ⟨gr, 1, none⟩) (by show gr < wr.heap.size; omega)).trans f3; clear b2) | fail)
              go_wp2
              go_roundw
              case rel => exact ⟨t + 1, by omega, by go_num, by rw [HT.out], HB3.out.trans ((undrew B2.out).mono z3)⟩
              case measure => simp [intOf]; omega
            · rw [hq] at CE hsc
              have HT : Hid (cntJ (fndR xss m) (faultsL P L) (t + 1) = c + 1) := by show _ = _; rw [hsc]; simp
              clear hq hsc hb hcell hci hck hF
              go_upto_region 13 with fail
              go_region_held3 (fun W' => W'.cell? ⟨w.heap.size, 0, none⟩ = some (.int .i64 n) ∧ W'.cell? ⟨w.heap.size, 1, none⟩ = some (.slice ao L cap) ∧ W'.cell? ⟨gr, 0, none⟩ = some (.int .i64 i) ∧ W'.cell? ⟨gr, 1, none⟩ = some (.int .i64 k)) (refine ⟨?_, ?_, ?_, ?_⟩ <;> with_reducible assumption) (first | (go_at_call 99; refine CE.out.mono ?_; rintro e w2 ⟨rfl, b2⟩; have B2 := Lib.hid b2; replace c0 := (b2.cell (p := ⟨w.heap.size, 0, none⟩) (by show w.heap.size < wr.heap.size; omega)).trans c0; replace c1 := (b2.cell (p := ⟨w.heap.size, 1, none⟩) (by show w.heap.size < wr.heap.size; omega)).trans c1; replace f2 := (b2.cell (p := ⟨gr, 0, none⟩) (by show gr < wr.heap.size; omega)).trans f2; replace f3 := (b2.cell (p := ⟨gr, 1, none⟩) (by show gr < wr.heap.size; omega)).trans f3; clear b2) | fail)
              go_wp2
              go_roundw
              case rel => exact ⟨t + 1, by omega, by go_num, by rw [HT.out]; go_num, HB3.out.trans ((undrew B2.out).mono z3)⟩
              case measure => simp [intOf]; omega
          · have HE : Hid (cn m = c) := by show _ = _; rw [HCB.out, HCC.out, show t = M from by omega]
            clear hb c0 c1 hz
            by_cases hgt : s1 < c
            · have HK : Hid ((bestK cn (m + 1)).1 = m ∧ (bestK cn (m + 1)).2 = c) := by
                show _ ∧ _
                rw [bestK_succ, bestS, HE.out, ← HS1.out, if_pos hgt]
                exact ⟨rfl, rfl⟩
              go_wp2
              go_roundw
              case rel => exact ⟨m + 1, by omega, by go_num, by rw [HK.out.1], by rw [HK.out.2], HB3.out⟩
              case measure => simp [intOf]; omega
            · have HK : Hid ((bestK cn (m + 1)).1 = b1 ∧ (bestK cn (m + 1)).2 = s1) := by
                show _ ∧ _
                rw [bestK_succ, bestS, HE.out, ← HS1.out, if_neg hgt]
                exact ⟨HB1'.out.symm, HS1.out.symm⟩
              go_wp2
              go_roundw
              case rel => exact ⟨m + 1, by omega, by go_num, by rw [HK.out.1], by rw [HK.out.2], HB3.out⟩
              case measure => simp [intOf]; omega
      · have HEN : Hid (m = N) := by show m = N; omega
        have HB1N : Hid (b1 = (bestK (cntP xss L P) (2 ^ n)).1) := by show _ = _; rw [← HCN.out, ← HN.out, ← HEN.out]; exact HB1'.out
        have HS1N : Hid (s1 = (bestK (cntP xss L P) (2 ^ n)).2) := by show _ = _; rw [← HCN.out, ← HN.out, ← HEN.out]; exact HS1.out
        clear HROW
        by_cases hs0 : s1 = 0
        · have HFIN : Hid (RES = outs) := by
            show _ = _
            rw [← HG.out, greedyF_stop (by rw [← HS1N.out]; exact hs0), List.append_nil]
          go_wp2
          go_ret
          exact ⟨_, rfl, by rw [HFIN.out]; exact Own.mono (Own.below HO.out HB.out (Nat.le_refl _)) (by have := HB1.out.size; omega) zB, HB1.out.trans ((HBA.out.trans (HB.out.mono zA)).mono HB1.out.size)⟩
        · obtain ⟨f', hg1, hg2, hg3, hg4⟩ := greedyF_go (xss := xss) (n := n) (L := L) (f := f) (P := P) (by rw [← HS1N.out]; exact hs0) (by rw [← HMM.out]; exact hf)
          rw [← HB1N.out] at hg1 hg2 hg3 hg4
          rw [← HMM.out] at hg3
          have HGO := Lib.hid hg1
          have HLF := Lib.hid hg2
          have hb1N : b1 < N := by rw [HN.out]; exact hg4
          have HLT := Lib.hid hg3
          have hlen2 := minusP_filter xss L P b1
          have HFL := Lib.hid hlen2
          have HO2 : Hid (OwnI wB w1.heap.size wB.heap.size (.slice aoo M0 capo) outs) := Own.mono (Own.below HO.out HB.out (Nat.le_refl _)) (Nat.le_refl _) zB
          have HR2 : Hid (OwnR wB w1.heap.size wB.heap.size (.slice aol M capl) vl (faultsL P L)) := (HR.out.below HB.out (Nat.le_refl _)).mono (Nat.le_refl _) zB
          have hzB1 : w1.heap.size ≤ wB.heap.size := by omega
          have HLN : Hid (outs.length ≤ 100000000) := by show _ ≤ _; rw [← HM0.out]; omega
          clear hg1 hg2 hg3 hg4 hlen2
          go_wp2_with (at_builtin; refine wpList_app_int3 rfl (.tmp 59) (.tmp 61) rfl wB (b1 : Int) w1.heap.size wB.heap.size _ outs HO2.out hzB1 HLN.out rfl rfl ?_; intro ao5 L5 cap5 w5 hL5 o5 b5 z5 a5; have O5 := Lib.hid o5; have B5 := Lib.hid b5; have A5 := Lib.hid a5; clear o5 b5 a5)
          have hz5 := A5.out.size
          obtain ⟨r5, s5⟩ := A5.out.ownR HR2.out HS.out
          have S5 := Lib.hid s5
          obtain ⟨aol5, gl5, capl5, el5, hgl5, hrow5⟩ := left_row r5
          have R5 := Lib.hid r5
          rw [← HMM.out] at el5 hgl5 hrow5
          cases el5
          have HROW5 := Lib.hid hrow5
          obtain ⟨k0, k1, kz⟩ := boxC HB.out hzr cc0 cc1
          replace k0 := (B5.out.cell (p := ⟨w.heap.size, 0, none⟩) (by show w.heap.size < w1.heap.size; exact z1)).trans k0
          replace k1 := (B5.out.cell (p := ⟨w.heap.size, 1, none⟩) (by show w.heap.size < w1.heap.size; exact z1)).trans k1
          replace kz : w.heap.size < w5.heap.size := by omega
          have HV5 := Lib.hid ((HVA.out.below HB.out hleA).below B5.out hle1)
          have hle5 : hi ≤ w5.heap.size := by omega
          obtain ⟨wR, hwR⟩ : ∃ W, W = w5.alloc (.cells #[] 22) := ⟨_, rfl⟩
          have HRE : Hid (Own 22 wR w5.heap.size wR.heap.size (.slice (some ⟨w5.heap.size, 0, none⟩) 0 0) []) := by show Own _ _ _ _ _ _; rw [hwR]; exact Own.mono (ownR_empty w5).top (Nat.le_refl _) (by simp)
          have HBR : Hid (Below w5.heap.size w5 wR) := by show Below _ _ _; rw [hwR]; exact (Below.refl _ _).alloc (Nat.le_refl _) _
          rw [← hwR]
          clear hwR r5 s5 hrow5
          go_loopw [11, 66] (fun r j wr => ∃ t : Nat, t ≤ M ∧ j = .int .i64 t ∧ Own 22 wr w5.heap.size wr.heap.size r ((keepZ (fun r => !fndR xss b1 r) vl (faultsL P L) t).map Prod.fst) ∧ Below w5.heap.size w5 wr) (fun _ j _ => M - (intOf j).toNat)
          case atStart => exact ⟨0, Nat.zero_le _, rfl, by simpa [keepZ] using HRE.out, HBR.out⟩
          obtain ⟨t, ht, rfl, hE, hb⟩ := hrel
          obtain ⟨aoe, ge, cape, ee, -, -, -⟩ := Own.view hE
          obtain ⟨E, hEE⟩ : ∃ E, E = ((keepZ (fun r => !fndR xss b1 r) vl (faultsL P L) t).map Prod.fst).length := ⟨_, rfl⟩
          have HEE := Lib.hid hEE
          rw [← hEE] at ee
          subst ee
          have HEO := Lib.hid hE
          have HB4 := Lib.hid hb
          obtain ⟨c0, c1, hz⟩ := boxC hb kz k0 k1
          have z3 := hb.size
          have HV3 := Lib.hid (HV5.out.below hb hle5)
          have hle3 : hi ≤ wr.heap.size := by omega
          have hEl : E ≤ M := by rw [hEE, List.length_map, HMM.out]; exact keepZ_le R5.out.len t
          clear hEE hE
          by_cases hlt3 : t < M
          · obtain ⟨gr, capr, i, k, hvt, hcell, hgr, hci, hck, hF, hi', hk'⟩ := HROW5.out t hlt3
            obtain ⟨rfl, hglw⟩ := hgl5 (by omega)
            have f1 := (hb.cell (p := ⟨gl5, t, none⟩) (by show gl5 < _; omega)).trans hcell
            have f2 := (hb.cell (p := ⟨gr, 0, none⟩) (by show gr < _; omega)).trans hci
            have f3 := (hb.cell (p := ⟨gr, 1, none⟩) (by show gr < _; omega)).trans hck
            have hrow3 := keepZ_succ (q := fun r => !fndR xss b1 r) (vs := vl) (F := faultsL P L) (j := t) R5.out.len (by rw [← HMM.out]; exact hlt3)
            rw [hF, hvt, show fndR xss b1 [(i : Int), (k : Int)] = findB xss i k b1 from by simp [fndR]] at hrow3
            have bd : Below wr.heap.size wr wr.drew := (Below.refl _ _).drew
            have CE := Lib.hid (CE0.out wr.drew i k b1 (HV3.out.below bd hle3) hle3 hb1N hk')
            replace c0 : wr.drew.cell? ⟨w.heap.size, 0, none⟩ = some (.int .i64 n) := c0
            replace c1 : wr.drew.cell? ⟨w.heap.size, 1, none⟩ = some (.slice ao L cap) := c1
            replace f2 : wr.drew.cell? ⟨gr, 0, none⟩ = some (.int .i64 i) := f2
            replace f3 : wr.drew.cell? ⟨gr, 1, none⟩ = some (.int .i64 k) := f3
            clear bd hvt
            cases hq : findB xss i k b1
            · rw [hq] at CE hrow3
              have HT : Hid ((keepZ (fun r => !fndR xss b1 r) vl (faultsL P L) (t + 1)).map Prod.fst = (keepZ (fun r => !fndR xss b1 r) vl (faultsL P L) t).map Prod.fst ++ [.slice (some ⟨gr, 0, none⟩) 2 capr]) := by show _ = _; rw [hrow3]; simp
              have HLN2 : Hid (((keepZ (fun r => !fndR xss b1 r) vl (faultsL P L) t).map Prod.fst).length ≤ 100000) := by show _ ≤ _; rw [← HEE.out]; omega
              clear hq hrow3 hb hcell hci hck hF
              go_upto_region 26 with fail
              go_region_held3 (fun W' => W'.cell? ⟨w.heap.size, 0, none⟩ = some (.int .i64 n) ∧ W'.cell? ⟨w.heap.size, 1, none⟩ = some (.slice ao L cap) ∧ W'.cell? ⟨gr, 0, none⟩ = some (.int .i64 i) ∧ W'.cell? ⟨gr, 1, none⟩ = some (.int .i64 k)) (refine ⟨?_, ?_, ?_, ?_⟩ <;> with_reducible assumption) (first | (go_at_call 99; refine CE.out.mono ?_; rintro e w2 ⟨rfl, b2⟩; have B2 := Lib.hid b2; replace c0 := (b2.cell (p := ⟨w.heap.size, 0, none⟩) (by show w.heap.size < wr.heap.size; omega)).trans c0; replace c1 := (b2.cell (p := ⟨w.heap.size, 1, none⟩) (by show w.heap.size < wr.heap.size; omega)).trans c1; replace f2 := (b2.cell (p := ⟨gr, 0, none⟩) (by show gr < wr.heap.size; omega)).trans f2; replace f3 := (b2.cell (p := ⟨gr, 1, none⟩) (by show gr < wr.heap.size; omega)).trans f3; clear b2) | fail)
              have B2' : Hid (Below wr.heap.size wr w2) := undrew B2.out
              have zw2 := B2'.out.size
              have zw3 : w5.heap.size ≤ w2.heap.size := by omega
              have HE2 : Hid (Own 22 w2 w5.heap.size w2.heap.size (.slice aoe E cape) ((keepZ (fun r => !fndR xss b1 r) vl (faultsL P L) t).map Prod.fst)) := Own.mono (Own.later HEO.out B2'.out) (Nat.le_refl _) zw2
              go_wp2_with (at_builtin; refine wpList_app_cell rfl (.tmp 80) (.tmp 82) rfl w2 (.slice (some ⟨gr, 0, none⟩) 2 capr) w5.heap.size w2.heap.size _ _ HE2.out zw3 rfl HLN2.out rfl rfl ?_; intro ao6 L6 cap6 w6 hL6 o6 b6 z6; have O6 := Lib.hid o6; have B6 := Lib.hid b6; clear o6 b6)
              go_roundw
              case rel => exact ⟨t + 1, by omega, by go_num, by rw [HT.out]; exact O6.out, HB4.out.trans ((B2'.out.mono z3).trans B6.out)⟩
              case measure => simp [intOf]; omega
            · rw [hq] at CE hrow3
              have HT : Hid ((keepZ (fun r => !fndR xss b1 r) vl (faultsL P L) (t + 1)).map Prod.fst = (keepZ (fun r => !fndR xss b1 r) vl (faultsL P L) t).map Prod.fst) := by show _ = _; rw [hrow3]; simp
              clear hq hrow3 hb hcell hci hck hF
              go_upto_region 26 with fail
              go_region_held3 (fun W' => W'.cell? ⟨w.heap.size, 0, none⟩ = some (.int .i64 n) ∧ W'.cell? ⟨w.heap.size, 1, none⟩ = some (.slice ao L cap) ∧ W'.cell? ⟨gr, 0, none⟩ = some (.int .i64 i) ∧ W'.cell? ⟨gr, 1, none⟩ = some (.int .i64 k)) (refine ⟨?_, ?_, ?_, ?_⟩ <;> with_reducible assumption) (first | (go_at_call 99; refine CE.out.mono ?_; rintro e w2 ⟨rfl, b2⟩; have B2 := Lib.hid b2; replace c0 := (b2.cell (p := ⟨w.heap.size, 0, none⟩) (by show w.heap.size < wr.heap.size; omega)).trans c0; replace c1 := (b2.cell (p := ⟨w.heap.size, 1, none⟩) (by show w.heap.size < wr.heap.size; omega)).trans c1; replace f2 := (b2.cell (p := ⟨gr, 0, none⟩) (by show gr < wr.heap.size; omega)).trans f2; replace f3 := (b2.cell (p := ⟨gr, 1, none⟩) (by show gr < wr.heap.size; omega)).trans f3; clear b2) | fail)
              have B2' : Hid (Below wr.heap.size wr w2) := undrew B2.out
              have zw2 := B2'.out.size
              have zw3 : w5.heap.size ≤ w2.heap.size := by omega
              have HE2 : Hid (Own 22 w2 w5.heap.size w2.heap.size (.slice aoe E cape) ((keepZ (fun r => !fndR xss b1 r) vl (faultsL P L) t).map Prod.fst)) := Own.mono (Own.later HEO.out B2'.out) (Nat.le_refl _) zw2
              go_wp2
              go_roundw
              case rel => exact ⟨t + 1, by omega, by go_num, by rw [HT.out]; exact HE2.out, HB4.out.trans (B2'.out.mono z3)⟩
              case measure => simp [intOf]; omega
          · have HTM : Hid (t = M) := by show t = M; omega
            have hEL : E = (faultsL (minusP xss P b1) L).length := by
              have h := keepZ_rows (q := fun r => !fndR xss b1 r) R5.out.len M (by rw [HMM.out]; exact Nat.le_refl _)
              rw [List.take_of_length_le (by rw [HMM.out]; exact Nat.le_refl _), ← HFL.out] at h
              rw [← h, HEE.out, HTM.out]
              simp
            have hEM : E < M := by rw [hEL]; exact HLT.out
            have HEL := Lib.hid hEL
            have HEO2 : Hid (Own 22 wr w5.heap.size wr.heap.size (.slice aoe E cape) ((keepZ (fun r => !fndR xss b1 r) vl (faultsL P L) (faultsL P L).length).map Prod.fst)) := by have h := HEO.out; rw [HTM.out, HMM.out] at h; rw [HMM.out] at *; exact h
            have HKP : Hid (OwnR wr w1.heap.size wr.heap.size (.slice aoe E cape) ((keepZ (fun r => !fndR xss b1 r) vl (faultsL P L) (faultsL P L).length).map Prod.fst) (faultsL (minusP xss P b1) L)) := by
              show OwnR _ _ _ _ _ _
              rw [HFL.out]
              exact ownR_keep (R5.out.below HB4.out (Nat.le_refl _)) z3 (Own.mono HEO2.out z5 (Nat.le_refl _))
            have HSP : Hid (SepR (.slice ao5 L5 cap5) (.slice aoe E cape) ((keepZ (fun r => !fndR xss b1 r) vl (faultsL P L) (faultsL P L).length).map Prod.fst)) :=
              ⟨fun k h1 h2 => by have := Own.lt O5.out k h1; have := (HEO.out.row.lt k h2).1; omega, fun u hu => S5.out.2 u (keepZ_mem hu)⟩
            clear hEL hb c0 c1
            go_wp2
            go_roundw
            case rel =>
              exact ⟨minusP xss P b1, f', outs ++ [(b1 : Int)], _, Own.mono (Own.below O5.out HB4.out (Nat.le_refl _)) (Nat.le_refl _) z3, HKP.out, HSP.out, HLF.out, by rw [← HEL.out, List.length_append, ← HM0.out]; simp; omega, by show _ = _; rw [List.append_assoc, List.singleton_append, ← HGO.out]; exact HG.out, HBA.out.trans ((HB.out.mono zA).trans (B5.out.trans (HB4.out.mono z5)))⟩
            case measure => simp only [lenOf]; omega
end Go.Proofs.Ytiodolbgapjmkaa

namespace Go.Proofs.Ytiodolbgapjmkaa
open Go.RowKit
set_option maxRecDepth 100000
set_option linter.unusedVariables false

def greedyR (n : Int) (xss : List (List Int)) : List Int := if netOk n xss = true ∧ xss.length ≤ 20 then greedyL n.toNat xss else []
theorem greedyR_len (n : Int) (xss : List (List Int)) : (greedyR n xss).length ≤ 60 := by
  unfold greedyR
  split
  · rename_i h
    have h1 := greedyF_len xss n.toNat xss.length (3 * xss.length + 1) (fun _ _ => true)
    have h2 := faultsL_le (fun _ _ => true) xss.length
    have h3 := h.2
    unfold greedyL
    omega
  · simp
theorem GreedyTests_i_no (n : Int) (lo hi : Nat) (v : Value) (vs : List Value) (xss : List (List Int)) (w : World) (hv : OwnR w lo hi v vs xss) (hhi : hi ≤ w.heap.size) (hno : netOk n xss = false) :
    Calls Try.prog 20 #[.agg #[.int .i64 n, v]] w (IntC w []) := by
  have HC := Lib.hid (NetworkOk_c n lo hi v vs xss)
  obtain ⟨ao, g, cap, rfl, -, -, -⟩ := hv.rows
  have HV := Lib.hid hv
  obtain ⟨L, hlen⟩ : ∃ l, l = xss.length := ⟨_, rfl⟩
  rw [← hlen] at HV HC ⊢
  rw [hno] at HC
  clear hv hlen hno
  go_enter Try.func20, Try.ntmps20
  obtain ⟨W1, hW1, c0, c1, hsz, hB1, -, -⟩ := box2 w (.int .i64 n) (.slice ao L cap) 30
  go_wp2_with fail
  try rw [hW1]
  clear hW1
  refine (HC.out W1 (HV.out.below hB1 (by omega)) (by omega)).mono ?_
  rintro e w1 ⟨rfl, b1⟩
  go_wp2
  go_ret
  exact ⟨_, rfl, Own.nil _ _ _ _, hB1.trans (b1.mono (by omega))⟩
theorem GreedyTests_i_long (n : Int) (lo hi : Nat) (v : Value) (vs : List Value) (xss : List (List Int)) (w : World) (hv : OwnR w lo hi v vs xss) (hhi : hi ≤ w.heap.size) (hok : netOk n xss = true) (hl : ¬ xss.length ≤ 20) :
    Calls Try.prog 20 #[.agg #[.int .i64 n, v]] w (IntC w []) := by
  have HC := Lib.hid (NetworkOk_c n lo hi v vs xss)
  obtain ⟨ao, g, cap, rfl, -, -, -⟩ := hv.rows
  have HV := Lib.hid hv
  obtain ⟨L, hlen⟩ : ∃ l, l = xss.length := ⟨_, rfl⟩
  rw [← hlen] at HV HC hl ⊢
  rw [hok] at HC
  clear hv hlen hok
  go_enter Try.func20, Try.ntmps20
  obtain ⟨W1, hW1, c0, c1, hsz, hB1, -, -⟩ := box2 w (.int .i64 n) (.slice ao L cap) 30
  go_wp2_with fail
  try rw [hW1]
  clear hW1
  refine (HC.out W1 (HV.out.below hB1 (by omega)) (by omega)).mono ?_
  rintro e w1 ⟨rfl, b1⟩
  obtain ⟨d0, d1, z1⟩ := boxC b1 (by omega) c0 c1
  have h20 : (20 : Int) < L := by omega
  go_wp2
  go_ret
  exact ⟨_, rfl, Own.nil _ _ _ _, hB1.trans (b1.mono (by omega))⟩
theorem GreedyTests_i_c (n : Int) (lo hi : Nat) (v : Value) (vs : List Value) (xss : List (List Int)) (w : World) (hv : OwnR w lo hi v vs xss) (hhi : hi ≤ w.heap.size) :
    Calls Try.prog 20 #[.agg #[.int .i64 n, v]] w (IntC w (greedyR n xss)) := by
  cases hok : netOk n xss
  · rw [show greedyR n xss = [] by simp [greedyR, hok]]
    exact GreedyTests_i_no n lo hi v vs xss w hv hhi hok
  · by_cases hl : xss.length ≤ 20
    · have h1 := netOk_n hok
      obtain ⟨a, rfl⟩ : ∃ a : Nat, n = a := ⟨n.toNat, by omega⟩
      rw [show greedyR a xss = greedyL a xss by simp [greedyR, hok, hl]]
      exact GreedyTests_i_yes a lo hi v vs xss w hv hhi hok hl
    · rw [show greedyR n xss = [] by simp [greedyR, hl]]
      exact GreedyTests_i_long n lo hi v vs xss w hv hhi hok hl
end Go.Proofs.Ytiodolbgapjmkaa

namespace Go.Proofs.Ytiodolbgapjmkaa
open Go.RowKit
set_option maxRecDepth 100000
set_option linter.unusedVariables false

theorem cnt3S (P : Nat → Nat → Bool) : ∀ L, ((List.range (3 * L)).filter fun t => P (t / 3) (t % 3)).length = (faultsL P L).length
  | 0 => by simp [faultsL]
  | L + 1 => by
    have e : List.range (3 * (L + 1)) = List.range (3 * L) ++ [3 * L, 3 * L + 1, 3 * L + 2] := by
      rw [show 3 * (L + 1) = 3 * L + 1 + 1 + 1 from by omega, List.range_succ, List.range_succ, List.range_succ]
      simp
    rw [e, List.filter_append, List.length_append, cnt3S P L, faultsL_succ, List.length_append]
    congr 1
    have d0 : 3 * L / 3 = L ∧ 3 * L % 3 = 0 := by omega
    have d1 : (3 * L + 1) / 3 = L ∧ (3 * L + 1) % 3 = 1 := by omega
    have d2 : (3 * L + 2) / 3 = L ∧ (3 * L + 2) % 3 = 2 := by omega
    simp only [rowF, List.length_map]
    rw [show List.range 3 = [0, 1, 2] from rfl]
    simp only [List.filter_cons, List.filter_nil, d0.1, d0.2, d1.1, d1.2, d2.1, d2.2]
    split <;> split <;> split <;> rfl
/-- The faults with P and those without are all. -/
theorem faults_two (P : Nat → Nat → Bool) (L : Nat) : (faultsL P L).length + (faultsL (fun i k => !P i k) L).length = 3 * L := by
  rw [← cnt3S, ← cnt3S]
  have := filter_two (fun t => P (t / 3) (t % 3)) (List.range (3 * L))
  rw [List.length_range] at this
  exact this
theorem hid_no {n : Nat} {xss : List (List Int)} {i k : Nat} : hidB n xss i k = true ↔ ∀ m, m < 2 ^ n → findB xss i k m = false := by
  unfold hidB testsK
  rw [decide_eq_true_iff, List.length_map, List.length_eq_zero_iff, List.filter_eq_nil_iff]
  constructor
  · intro h m hm
    exact Bool.eq_false_iff.2 (h m (List.mem_range.2 hm))
  · intro h m hm
    exact Bool.eq_false_iff.1 (h m (List.mem_range.1 hm))
theorem greedy_masks {n : Nat} {xss : List (List Int)} {x : Int} (h : x ∈ greedyL n xss) : ∃ t : Nat, x = t ∧ t < 2 ^ n := greedyF_masks _ _ _ _ _ x h
theorem greedy_ok (n : Nat) (xss : List (List Int)) : okT n (greedyL n xss) = true := by
  unfold okT
  rw [List.all_eq_true]
  intro x hx
  obtain ⟨t, rfl, ht⟩ := greedy_masks hx
  exact inB_mk (by omega)
theorem greedy_tells {n : Nat} {xss : List (List Int)} {i k : Nat} (hi : i < xss.length) (hk : k < 3) : anyT xss (greedyL n xss) i k = !hidB n xss i k := by
  cases hh : hidB n xss i k
  · obtain ⟨m, hm, hf⟩ : ∃ m, m < 2 ^ n ∧ findB xss i k m = true := by
      rcases Classical.em (∃ m, m < 2 ^ n ∧ findB xss i k m = true) with h | h
      · exact h
      · exfalso
        have : hidB n xss i k = true := hid_no.2 fun m hm => by
          cases hq : findB xss i k m
          · rfl
          · exact absurd ⟨m, hm, hq⟩ h
        rw [this] at hh
        cases hh
    obtain ⟨t, h1, h2, h3⟩ := greedyF_all xss n xss.length (3 * xss.length + 1) (fun _ _ => true) (by have := faultsL_le (fun _ _ => true) xss.length; omega) i k m hi hk rfl hm hf
    show _ = true
    rw [anyT, List.any_eq_true]
    exact ⟨t, h1, by rw [Int.toNat_natCast]; exact h3⟩
  · show _ = false
    rw [anyT, List.any_eq_false]
    intro x hx
    obtain ⟨t, rfl, ht⟩ := greedy_masks hx
    rw [Int.toNat_natCast, hid_no.1 hh t ht]
    simp
theorem found_count (n : Nat) (xss : List (List Int)) : (faultsL (hidB n xss) xss.length).length + (faultsL (anyT xss (greedyL n xss)) xss.length).length = 3 * xss.length := by
  rw [faultsL_congr (B := anyT xss (greedyL n xss)) (C := fun i k => !hidB n xss i k) (fun i k hi hk => greedy_tells hi (by omega))]
  exact faults_two _ _
/-- Not more tests than faults that some mask tells. -/
theorem greedyF_less (xss : List (List Int)) (n L : Nat) (T : Nat → Nat → Bool) (hT : ∀ i k m : Nat, m < 2 ^ n → findB xss i k m = true → T i k = true) : ∀ f P, (greedyF xss n L f P).length ≤ (faultsL (fun i k => P i k && T i k) L).length
  | 0, P => by simp [greedyF]
  | f + 1, P => by
    rw [greedyF]
    split
    · simp
    · rename_i h
      have ih := greedyF_less xss n L T hT f (minusP xss P (bestK (cntP xss L P) (2 ^ n)).1)
      rcases bestK_facts (cntP xss L P) (2 ^ n) with h1 | ⟨h1, h2, h3⟩
      · exact absurd h1.1 h
      · generalize (bestK (cntP xss L P) (2 ^ n)).1 = b at ih h1 h2 ⊢
        have e := minusP_len xss L (fun i k => P i k && T i k) b
        have e1 : cntP xss L (fun i k => P i k && T i k) b = cntP xss L P b := by
          unfold cntP
          congr 1
          congr 1
          funext i k
          cases hq : findB xss i k b
          · simp
          · simp [hT i k b h1 hq]
        have e2 : (fun i k => minusP xss P b i k && T i k) = minusP xss (fun i k => P i k && T i k) b := by
          funext i k
          simp only [minusP]
          cases P i k <;> cases T i k <;> simp
        rw [e2] at ih
        rw [List.length_cons]
        omega
theorem greedy_few (n : Nat) (xss : List (List Int)) : (greedyL n xss).length ≤ (faultsL (anyT xss (greedyL n xss)) xss.length).length := by
  rw [faultsL_congr (B := anyT xss (greedyL n xss)) (C := fun i k => true && !hidB n xss i k) (fun i k hi hk => by rw [greedy_tells hi (by omega)]; rfl)]
  refine greedyF_less xss n xss.length (fun i k => !hidB n xss i k) (fun i k m hm hq => ?_) _ _
  cases hh : hidB n xss i k
  · rfl
  · rw [hid_no.1 hh m hm] at hq; cases hq
theorem allB_iffF (f : Nat → Bool) (N : Nat) : allB f N = true ↔ ∀ k, k < N → f k = true := by rw [allB, List.all_eq_true]; exact ⟨fun h k hk => h k (List.mem_range.2 hk), fun h x hx => h x (List.mem_range.1 hx)⟩
theorem sorts_bits {n : Nat} {xss : List (List Int)} (h : sortsR n xss = true) {m : Nat} (hm : m < 2 ^ n) : bitsP xss m = srt n m := by
  unfold sortsR at h
  rw [Bool.and_eq_true, Int.toNat_natCast, allB_iffF] at h
  have := h.2 m hm
  unfold sortB at this
  exact beq_iff_eq.1 this
/-- A network still sorts with a fault exactly if no mask tells it. -/
theorem still_hid {n : Nat} {xss : List (List Int)} (h : sortsR n xss = true) {i k : Nat} (hi : i < xss.length) (hk : k ≤ 2) : stillR n xss i k = hidB n xss i k := by
  have hok := sortsR_ok h
  unfold stillR
  rw [fltB_mk2 hok hi hk, Bool.true_and, Int.toNat_natCast, Int.toNat_natCast, Bool.eq_iff_iff, allB_iffF, hid_no]
  constructor
  · intro H m hm
    have := H m hm
    unfold stillB at this
    unfold findB
    rw [sorts_bits h hm]
    simpa using this
  · intro H m hm
    have := H m hm
    unfold findB at this
    rw [sorts_bits h hm] at this
    unfold stillB
    simpa using this
/-- What comes out of a fault that is told is not sorted. -/
theorem told_not {n : Nat} {xss : List (List Int)} (h : sortsR n xss = true) {i k m : Nat} (hm : m < 2 ^ n) (hf : findB xss i k m = true) : (faultP xss i k m == srt n (faultP xss i k m)) = false := by
  have hp := (faultP_lt (sortsR_ok h) i k hm).2
  have : srt n (faultP xss i k m) = srt n m := by unfold srt; rw [hp]
  rw [this, ← sorts_bits h hm]
  unfold findB at hf
  simpa using hf
/-- A comparator that is off is as if it were not there. -/
theorem faultK_off {n : Nat} {xss : List (List Int)} (hok : netOk n xss = true) (idx : Nat) (m : Nat) : ∀ k, k ≤ xss.length → faultK xss idx 0 m k = bitsP ((xss.take k).eraseIdx idx) m
  | 0, _ => by simp [faultK, bitsP]
  | k + 1, hk => by
    obtain ⟨i, j, hr, hi, hj, hne⟩ := netOk_pair hok k (by omega)
    rw [faultK_succ _ _ _ _ _ hr, faultK_off hok idx m k (by omega), take_snoc_getD [] (by omega), hr]
    have hl : (xss.take k).length = k := by rw [List.length_take]; omega
    by_cases he : k = idx
    · subst he
      rw [if_pos rfl]
      simp only [fstp]
      rw [List.eraseIdx_append_of_length_le (by omega), hl, List.eraseIdx_of_length_le (by omega)]
      simp
    · rw [if_neg he]
      rcases (by omega : idx < k ∨ k < idx) with h1 | h1
      · rw [List.eraseIdx_append_of_lt_length (by omega)]
        simp [bitsP, List.foldl_append]
      · rw [List.eraseIdx_of_length_le (l := xss.take k) (by omega), List.eraseIdx_of_length_le (by rw [List.length_append, hl]; simp; omega)]
        simp [bitsP, List.foldl_append]
theorem off_bits {n : Nat} {xss : List (List Int)} (hok : netOk n xss = true) (idx m : Nat) : faultP xss idx 0 m = bitsP (xss.eraseIdx idx) m := by
  rw [faultP, faultK_off hok idx m _ (Nat.le_refl _), List.take_of_length_le (Nat.le_refl _)]
theorem netOk_subF {n : Nat} {xss yss : List (List Int)} (h : netOk n xss = true) (hs : ∀ r ∈ yss, r ∈ xss) (hl : yss.length ≤ xss.length) : netOk n yss = true := by
  have h1 := netOk_n h
  have h2 := netOk_len h
  exact netOk_of_pairUp (fun r hr => pairUp_of_netOk h r (hs r hr)) (by omega) (by omega) (by omega)
theorem drop_hid {n : Nat} {xss : List (List Int)} (h : sortsR n xss = true) {i : Nat} (hi : i < xss.length) : sortsR n (xss.eraseIdx i) = hidB n xss i 0 := by
  have hok := sortsR_ok h
  have hok2 : netOk n (xss.eraseIdx i) = true := netOk_subF hok (fun r hr => List.mem_of_mem_eraseIdx hr) (List.length_eraseIdx_le _ _)
  have := still_hid (k := 0) h hi (by omega)
  rw [← this]
  unfold stillR sortsR
  have e0 := fltB_mk2 (k := 0) hok hi (by omega)
  rw [show ((0 : Nat) : Int) = 0 from rfl] at e0 ⊢
  rw [e0, hok2, Bool.true_and, Bool.true_and, Int.toNat_natCast, Int.toNat_natCast]
  refine allB_congr fun m _ => ?_
  unfold sortB stillB
  rw [off_bits hok]
theorem need_hid {n : Nat} {xss : List (List Int)} (h : sortsR n xss = true) {i : Nat} (hi : i < xss.length) : needB n xss i = !hidB n xss i 0 := by
  unfold needB
  rw [h, drop_hid h hi, Bool.true_and]
theorem safe_hid {n : Nat} {xss : List (List Int)} (h : sortsR n xss = true) : safeR n xss = allB (fun k => hidB n xss k 0) xss.length := by
  unfold safeR
  rw [sortsR_ok h, Bool.true_and]
  exact allB_congr fun k hk => still_hid (k := 0) h hk (by omega)
theorem lean_hid {n : Nat} {xss : List (List Int)} (h : sortsR n xss = true) : leanB n xss = allB (fun k => !hidB n xss k 0) xss.length := by
  unfold leanB
  rw [h, Bool.true_and]
  refine allB_congr fun k hk => ?_
  unfold needL
  rw [drop_hid h hk]
/-- Safe and lean at once: no comparator at all. -/
theorem safe_lean {n : Nat} {xss : List (List Int)} (h : sortsR n xss = true) : ((leanB n xss == decide (xss.length = 0)) || !(allB (fun k => hidB n xss k 0) xss.length) || !leanB n xss) = true := by
  rw [lean_hid h]
  by_cases h0 : xss.length = 0
  · rw [h0]; rfl
  · cases hh : hidB n xss 0 0
    · rw [allB_no (f := fun k => hidB n xss k 0) (k := 0) (by omega) hh]
      simp
    · rw [allB_no (f := fun k => !hidB n xss k 0) (k := 0) (by omega) (by simp [hh])]
      simp
theorem IsSortedMask_y (n m : Nat) (w : World) (h1 : 1 ≤ n) (h8 : n ≤ 8) (hm : m < 2 ^ n) : Calls Try.prog 26 #[.int .i64 n, .int .i64 m] w fun e w' => e = .returned (.bool (m == srt n m)) ∧ w = w' := by
  have h256 := pow_le_256 n h8
  have hp := popc_lt n m h8 hm
  have CS : Hid (∀ w, Calls Try.prog 104 #[.int .i64 n, .int .i64 m] w fun e w' => e = .returned (.int .i64 (srt n m : Nat)) ∧ w = w') := fun w => sorted_c n m w h8 (by omega) hp
  have t0 : inB (n : Int) 1 8 = true := inB_mk (by omega)
  have t1 : inB (m : Int) 0 ((2 : Int) ^ n - 1) = true := by rw [(mask_tests n h8).1]; exact inB_mk (by omega)
  have t2 : inB (m : Int) 0 (wrap64 (wrap64 (2 ^ n) - 1)) = true := by rw [(mask_tests n h8).2]; exact inB_mk (by omega)
  obtain ⟨S, hS⟩ : ∃ S, S = srt n m := ⟨_, rfl⟩
  rw [← hS] at CS ⊢
  clear hS hp h256 hm
  go_enter Try.func26, Try.ntmps26
  go_wp2_with (first | (go_at_call 100; refine (isMask_c _ _ _ (by omega)).mono ?_; rintro e w' ⟨rfl, rfl⟩) | (go_at_call 105; refine (isWires_c _ _).mono ?_; rintro e w' ⟨rfl, rfl⟩) | (go_at_call 104; refine (CS.out _).mono ?_; rintro e w' ⟨rfl, rfl⟩))
  go_ret
  refine ⟨?_, rfl⟩
  show Ending.returned (.bool ((m : Int) == (S : Int))) = _
  rw [show ((m : Int) == (S : Int)) = (m == S) from by rw [Bool.eq_iff_iff, beq_iff_eq, beq_iff_eq]; omega]
end Go.Proofs.Ytiodolbgapjmkaa

namespace Go.Proofs.Ytiodolbgapjmkaa
open Go.RowKit
set_option maxRecDepth 100000
set_option linter.unusedVariables false
set_option linter.unusedSimpArgs false

set_option maxHeartbeats 4000000 in
theorem FnFaults_core (w : World) (N : Nat) (cv : Value) (hv : BytesV w w.heap.size cv N) : Calls Try.prog 4 #[cv] w fun e w' => e = .returned (.bool true) ∧ Below w.heap.size w w' := by
  have HV := Lib.hid hv
  obtain ⟨cao, cb, coff, ccap, ecv, -, -, -⟩ := id hv
  subst ecv
  clear hv
  by_cases hN : N ≤ 1048576
  rotate_left
  · have hN' : (1048576 : Int) < (N : Int) := by omega
    go_enter Try.func4, Try.ntmps4
    go_wp2_with fail
    go_ret
    exact ⟨rfl, Below.refl _ _⟩
  have hN' : ¬ (1048576 : Int) < (N : Int) := by omega
  go_enter Try.func4, Try.ntmps4
  have BA : Hid (Below w.heap.size w w) := Below.refl _ _
  have ZA : w.heap.size ≤ w.heap.size := Nat.le_refl _
  go_wp2_with fail
  refine (MakeSorting_c w.heap.size N 0 4 _ w (HV.out.kept fun k hk => BA.out.block k hk) ZA hN (by omega) (by omega) (by omega)).mono ?_
  rintro e w1 ⟨v, qx, usx, xx, rfl, ⟨v1, v4, hss, hxl, hx4⟩, ox, b_w1⟩
  obtain ⟨aox, gx, capx, ex, -, -, -⟩ := ox.rows
  obtain ⟨Lx, hLx⟩ : ∃ L, L = xx.length := ⟨_, rfl⟩
  rw [← hLx] at ex
  subst ex
  have HNx := Lib.hid hLx
  clear hLx
  have z_w1 := b_w1.size
  replace BA : Hid (Below w.heap.size w w1) := BA.out.trans (b_w1.mono (by omega))
  replace ZA : w.heap.size ≤ w1.heap.size := (by omega)
  clear b_w1
  have Ox := Lib.hid ox
  clear ox
  go_upto_region 4 with fail
  obtain ⟨w2, hWw2, cx0, cx1, hzw2, b_w2, -, -⟩ := box2 w1 (.int .i64 v) (.slice aox Lx capx) 30
  rw [hWw2]
  clear hWw2
  have zz_w2 : w1.heap.size < w2.heap.size := (by omega)
  clear hzw2
  have z_w2 := b_w2.size
  replace Ox := Lib.hid (Ox.out.later b_w2)
  replace BA : Hid (Below w.heap.size w w2) := BA.out.trans (b_w2.mono (by omega))
  replace ZA : w.heap.size ≤ w2.heap.size := (by omega)
  clear b_w2
  have yx : w1.heap.size < w2.heap.size := zz_w2
  have hs := sortS_sorts hss v1 (by omega) (by omega)
  have HS := Lib.hid hs
  have HOK := Lib.hid (sortsR_ok hs)
  have hLx : Lx ≤ 13 := by rw [HNx.out]; exact hx4 v4
  have hL20 : ¬ (20 : Int) < (Lx : Int) := by omega
  clear hss hxl hx4 hs
  have CH : Hid (∀ w lo hi u us, OwnR w lo hi u us xx → hi ≤ w.heap.size → Calls Try.prog 19 #[.agg #[.int .i64 v, u]] w (RowC w (faultsL (hidB v xx) xx.length))) := fun w lo hi u us h1 h2 => HiddenFaults_i_yes v lo hi u us xx w h1 h2 HOK.out
  have CG : Hid (∀ w lo hi u us, OwnR w lo hi u us xx → hi ≤ w.heap.size → Calls Try.prog 20 #[.agg #[.int .i64 v, u]] w (IntC w (greedyL v xx))) := fun w lo hi u us h1 h2 => GreedyTests_i_yes v lo hi u us xx w h1 h2 HOK.out (by rw [← HNx.out]; omega)
  have CF : Hid (∀ w lo hi u us lo2 hi2 u2, OwnR w lo hi u us xx → hi ≤ w.heap.size → OwnI w lo2 hi2 u2 (greedyL v xx) → hi2 ≤ w.heap.size → Calls Try.prog 21 #[.agg #[.int .i64 v, u], u2] w (RowC w (faultsL (anyT xx (greedyL v xx)) xx.length))) := fun w lo hi u us lo2 hi2 u2 h1 h2 h3 h4 => by
    have h5 := greedy_few v xx
    have h6 := faultsL_le (anyT xx (greedyL v xx)) xx.length
    have h := FoundBy_i_yes v lo hi u us xx lo2 hi2 u2 (greedyL v xx) w h1 h2 h3 h4 (by have := HNx.out; omega) HOK.out
    rwa [if_pos (greedy_ok v xx)] at h
  go_wp2_with fail
  refine (CH.out w2 _ _ _ usx Ox.out (by omega)).mono ?_
  rintro e w3 ⟨qh, ush, rfl, oh, b_w3⟩
  obtain ⟨xh, hxh⟩ : ∃ X, X = faultsL (hidB v xx) xx.length := ⟨_, rfl⟩
  rw [← hxh] at oh
  have HXh := Lib.hid hxh
  clear hxh
  obtain ⟨aoh, gh, caph, eh, -, -, -⟩ := oh.rows
  obtain ⟨Lh, hLh⟩ : ∃ L, L = xh.length := ⟨_, rfl⟩
  rw [← hLh] at eh
  subst eh
  have HNh := Lib.hid hLh
  clear hLh
  have z_w3 := b_w3.size
  replace Ox := Lib.hid (Ox.out.later b_w3)
  replace cx0 := (b_w3.cell (p := ⟨w1.heap.size, 0, none⟩) (by show w1.heap.size < _; omega)).trans cx0
  replace cx1 := (b_w3.cell (p := ⟨w1.heap.size, 1, none⟩) (by show w1.heap.size < _; omega)).trans cx1
  replace BA : Hid (Below w.heap.size w w3) := BA.out.trans (b_w3.mono (by omega))
  replace ZA : w.heap.size ≤ w3.heap.size := (by omega)
  replace yx : w1.heap.size < w3.heap.size := (by omega)
  clear b_w3
  have Oh := Lib.hid oh
  clear oh
  go_wp2_with fail
  refine (CG.out w3 _ _ _ usx Ox.out (by omega)).mono ?_
  rintro e w4 ⟨qt, rfl, ot, b_w4⟩
  obtain ⟨xt, hxt⟩ : ∃ X, X = greedyL v xx := ⟨_, rfl⟩
  rw [← hxt] at ot
  have HXt := Lib.hid hxt
  clear hxt
  obtain ⟨aot, gt, capt, et, -, -, -⟩ := OwnI.view ot
  obtain ⟨Lt, hLt⟩ : ∃ L, L = xt.length := ⟨_, rfl⟩
  rw [← hLt] at et
  subst et
  have HNt := Lib.hid hLt
  clear hLt
  have z_w4 := b_w4.size
  replace Ox := Lib.hid (Ox.out.later b_w4)
  replace Oh := Lib.hid (Oh.out.later b_w4)
  replace cx0 := (b_w4.cell (p := ⟨w1.heap.size, 0, none⟩) (by show w1.heap.size < _; omega)).trans cx0
  replace cx1 := (b_w4.cell (p := ⟨w1.heap.size, 1, none⟩) (by show w1.heap.size < _; omega)).trans cx1
  replace BA : Hid (Below w.heap.size w w4) := BA.out.trans (b_w4.mono (by omega))
  replace ZA : w.heap.size ≤ w4.heap.size := (by omega)
  replace yx : w1.heap.size < w4.heap.size := (by omega)
  clear b_w4
  have Ot := Lib.hid ot
  clear ot
  go_wp2_with fail
  refine (CF.out w4 _ _ _ usx _ _ _ Ox.out (by omega) (by rw [← HXt.out]; exact Ot.out) (by omega)).mono ?_
  rintro e w5 ⟨qf, usf, rfl, of, b_w5⟩
  obtain ⟨xf, hxf⟩ : ∃ X, X = faultsL (anyT xx (greedyL v xx)) xx.length := ⟨_, rfl⟩
  rw [← hxf] at of
  have HXf := Lib.hid hxf
  clear hxf
  obtain ⟨aof, gf, capf, ef, -, -, -⟩ := of.rows
  obtain ⟨Lf, hLf⟩ : ∃ L, L = xf.length := ⟨_, rfl⟩
  rw [← hLf] at ef
  subst ef
  have HNf := Lib.hid hLf
  clear hLf
  have z_w5 := b_w5.size
  replace Ox := Lib.hid (Ox.out.later b_w5)
  replace Oh := Lib.hid (Oh.out.later b_w5)
  replace Ot := Lib.hid (Ot.out.later b_w5)
  replace cx0 := (b_w5.cell (p := ⟨w1.heap.size, 0, none⟩) (by show w1.heap.size < _; omega)).trans cx0
  replace cx1 := (b_w5.cell (p := ⟨w1.heap.size, 1, none⟩) (by show w1.heap.size < _; omega)).trans cx1
  replace BA : Hid (Below w.heap.size w w5) := BA.out.trans (b_w5.mono (by omega))
  replace ZA : w.heap.size ≤ w5.heap.size := (by omega)
  replace yx : w1.heap.size < w5.heap.size := (by omega)
  clear b_w5
  have Of := Lib.hid of
  clear of
  have hcnt : Lh + Lf = 3 * Lx := by rw [HNh.out, HNf.out, HXh.out, HXf.out, HNx.out]; exact found_count v xx
  have hfew : Lt ≤ Lf := by rw [HNt.out, HNf.out, HXt.out, HXf.out]; exact greedy_few v xx
  have hLf : Lf ≤ 39 := by omega
  have t1 : ((Lh : Int) + (Lf : Int) != 3 * (Lx : Int)) = false := by rw [bne_eq_false_iff_eq]; omega
  have t2 : ¬ (Lf : Int) < (Lt : Int) := by omega
  go_wp2_with fail
  try rw [show decide (Lf < Lt) = false from by rw [decide_eq_false_iff_not]; omega]
  try rw [show decide ((Lf : Int) < (Lt : Int)) = false from by rw [decide_eq_false_iff_not]; omega]
  try rw [show decide (20 < Lx) = false from by rw [decide_eq_false_iff_not]; omega]
  try rw [show decide ((20 : Int) < (Lx : Int)) = false from by rw [decide_eq_false_iff_not]; omega]
  clear t1 t2 hcnt hfew CH CG CF
  clear Oh Ot
  have CT : Hid (∀ w lo hi u us (i k : Nat), OwnR w lo hi u us xx → hi ≤ w.heap.size → i < Lx → k ≤ 2 → Calls Try.prog 22 #[.agg #[.int .i64 v, u], .int .i64 i, .int .i64 k] w (IntC w (testsK xx i k (2 ^ v)))) := fun w lo hi u us i k h1 h2 h3 h4 => TestsFor_i_yes v lo hi u us xx i k w h1 h2 HOK.out (fltB_mk2 HOK.out (by rw [← HNx.out]; exact h3) h4) (by omega)
  go_loopw [52] (fun i wr => ∃ j : Nat, j ≤ Lf ∧ i = .int .i64 j ∧ Below w5.heap.size w5 wr) (fun i _ => Lf - (intOf i).toNat)
  case atStart => exact ⟨0, Nat.zero_le _, rfl, Below.refl _ _⟩
  case round =>
    obtain ⟨j, hj, rfl, hb⟩ := hrel
    have R0 : Hid (Below w5.heap.size w5 w5) := Below.refl _ _
    have z_wr := hb.size
    replace Ox := Lib.hid (Ox.out.later hb)
    replace Of := Lib.hid (Of.out.later hb)
    replace cx0 := (hb.cell (p := ⟨w1.heap.size, 0, none⟩) (by show w1.heap.size < _; omega)).trans cx0
    replace cx1 := (hb.cell (p := ⟨w1.heap.size, 1, none⟩) (by show w1.heap.size < _; omega)).trans cx1
    replace BA : Hid (Below w.heap.size w wr) := BA.out.trans (hb.mono (by omega))
    replace ZA : w.heap.size ≤ wr.heap.size := (by omega)
    replace yx : w1.heap.size < wr.heap.size := (by omega)
    replace R0 : Hid (Below w5.heap.size w5 wr) := R0.out.trans (hb.mono (by omega))
    clear hb
    by_cases hlt : j < Lf
    · have Of2 := Of.out
      rw [HXf.out] at Of2
      obtain ⟨af5, gf5, cf5, ef5, hgf5, hrow5⟩ := left_row Of2
      rw [← HXf.out, ← HNf.out] at ef5 hgf5
      cases ef5
      obtain ⟨rfl, hglw⟩ := hgf5 (by omega)
      have hjf : j < (faultsL (anyT xx (greedyL v xx)) xx.length).length := by rw [← HXf.out, ← HNf.out]; exact hlt
      obtain ⟨i, k, hri, hi', hk', hany⟩ := faultsL_at hjf
      obtain ⟨gr, capr, i2, k2, -, f1, hgr, f2, f3, hF, -, -⟩ := hrow5 j hjf
      rw [hri] at hF
      have hii : i2 = i ∧ k2 = k := by simp at hF; omega
      rw [hii.1] at f2
      rw [hii.2] at f3
      have hiL : i < Lx := by rw [HNx.out]; exact hi'
      rw [greedy_tells hi' hk'] at hany
      have HNE : Hid ((testsK xx i k (2 ^ v)).length ≠ 0) := by show _ ≠ _; unfold hidB at hany; simpa using hany
      clear hrow5 Of2 hri hF hii hany hjf i2 k2 hi'
      have hkc : k ≤ 2 := by omega
      have bd : Below wr.heap.size wr wr.drew := (Below.refl _ _).drew
      have CE := Lib.hid (CT.out wr.drew _ _ _ usx i k (Ox.out.later bd) (by show _ ≤ wr.heap.size; omega) hiL hkc)
      have dx0 : wr.drew.cell? ⟨w1.heap.size, 0, none⟩ = some (.int .i64 v) := cx0
      have dx1 : wr.drew.cell? ⟨w1.heap.size, 1, none⟩ = some (.slice aox Lx capx) := cx1
      replace f2 : wr.drew.cell? ⟨gr, 0, none⟩ = some (.int .i64 i) := f2
      replace f3 : wr.drew.cell? ⟨gr, 1, none⟩ = some (.int .i64 k) := f3
      clear bd
      go_upto_region 14 with fail
      go_region_held3 (fun W' => W'.cell? ⟨w1.heap.size, 0, none⟩ = some (.int .i64 v) ∧ W'.cell? ⟨w1.heap.size, 1, none⟩ = some (.slice aox Lx capx) ∧ W'.cell? ⟨gr, 0, none⟩ = some (.int .i64 i) ∧ W'.cell? ⟨gr, 1, none⟩ = some (.int .i64 k)) (refine ⟨?_, ?_, ?_, ?_⟩ <;> with_reducible assumption) (first | (go_at_call 22; refine CE.out.mono ?_; rintro e wt ⟨ut, rfl, ot, bt⟩; obtain ⟨aot, gt, capt, et, -, -, -⟩ := OwnI.view ot; obtain ⟨LT, hLT⟩ : ∃ l, l = (testsK xx i k (2 ^ v)).length := ⟨_, rfl⟩; rw [← hLT] at et; subst et; have hL0 : ((LT : Int) == 0) = false := beq_eq_false_iff_ne.2 (fun e9 => HNE.out (hLT ▸ Int.ofNat_eq_zero.1 e9)); have BT := Lib.hid bt; replace dx0 := (bt.cell (p := ⟨w1.heap.size, 0, none⟩) (by show w1.heap.size < wr.heap.size; omega)).trans dx0; replace dx1 := (bt.cell (p := ⟨w1.heap.size, 1, none⟩) (by show w1.heap.size < wr.heap.size; omega)).trans dx1; replace f2 := (bt.cell (p := ⟨gr, 0, none⟩) (by show gr < wr.heap.size; omega)).trans f2; replace f3 := (bt.cell (p := ⟨gr, 1, none⟩) (by show gr < wr.heap.size; omega)).trans f3; clear bt hLT ot) | fail)
      have b_t : Below wr.heap.size wr wt := undrew BT.out
      clear BT dx0 dx1 f1 f2 f3
      have z_wt := b_t.size
      replace Ox := Lib.hid (Ox.out.later b_t)
      replace Of := Lib.hid (Of.out.later b_t)
      replace cx0 := (b_t.cell (p := ⟨w1.heap.size, 0, none⟩) (by show w1.heap.size < _; omega)).trans cx0
      replace cx1 := (b_t.cell (p := ⟨w1.heap.size, 1, none⟩) (by show w1.heap.size < _; omega)).trans cx1
      replace BA : Hid (Below w.heap.size w wt) := BA.out.trans (b_t.mono (by omega))
      replace ZA : w.heap.size ≤ wt.heap.size := (by omega)
      replace yx : w1.heap.size < wt.heap.size := (by omega)
      replace R0 : Hid (Below w5.heap.size w5 wt) := R0.out.trans (b_t.mono (by omega))
      clear b_t
      go_wp2
      go_roundw
      case rel => exact ⟨j + 1, by omega, by go_num, R0.out⟩
      case measure => simp [intOf]; omega
    · have hlt9 : ¬ (j : Int) < (Lf : Int) := by omega
      clear R0
      clear Of
      have CS : Hid (∀ w lo hi u us (i k : Nat), OwnR w lo hi u us xx → hi ≤ w.heap.size → i < Lx → k ≤ 2 → Calls Try.prog 23 #[.agg #[.int .i64 v, u], .int .i64 i, .int .i64 k] w fun e w' => e = .returned (.bool (hidB v xx i k)) ∧ Below w.heap.size w w') := fun w lo hi u us i k h1 h2 h3 h4 => by
        have h := StillSorts_i_c v lo hi u us xx i k w h1 h2
        rwa [still_hid HS.out (by rw [← HNx.out]; exact h3) h4] at h
      obtain ⟨wq, rfl⟩ : ∃ W : World, W = wr := ⟨_, rfl⟩
      go_wp2_with fail
      go_loopw [9, 75] (fun s i wr => ∃ j : Nat, j ≤ Lx ∧ i = .int .i64 j ∧ s = .bool (allB (fun k => hidB v xx k 0) j) ∧ Below wq.heap.size wq wr) (fun _ i _ => Lx - (intOf i).toNat)
      case atStart => exact ⟨0, Nat.zero_le _, rfl, rfl, Below.refl _ _⟩
      case round =>
        obtain ⟨j, hj, rfl, rfl, hb⟩ := hrel
        have R0 : Hid (Below wq.heap.size wq wq) := Below.refl _ _
        have z_wr := hb.size
        replace Ox := Lib.hid (Ox.out.later hb)
        replace cx0 := (hb.cell (p := ⟨w1.heap.size, 0, none⟩) (by show w1.heap.size < _; omega)).trans cx0
        replace cx1 := (hb.cell (p := ⟨w1.heap.size, 1, none⟩) (by show w1.heap.size < _; omega)).trans cx1
        replace BA : Hid (Below w.heap.size w wr) := BA.out.trans (hb.mono (by omega))
        replace ZA : w.heap.size ≤ wr.heap.size := (by omega)
        replace yx : w1.heap.size < wr.heap.size := (by omega)
        replace R0 : Hid (Below wq.heap.size wq wr) := R0.out.trans (hb.mono (by omega))
        clear hb
        obtain ⟨B, hB⟩ : ∃ b, b = allB (fun k => hidB v xx k 0) j := ⟨_, rfl⟩
        rw [← hB]
        have HB := Lib.hid hB
        clear hB
        by_cases hlt : j < Lx
        · obtain ⟨ao9, g9, cap9, e9, -, hg9, hrow9⟩ := Ox.out.rows
          rw [← HNx.out] at e9 hg9 hrow9
          cases e9
          obtain ⟨rfl, -, hg9w⟩ := hg9 (by omega)
          obtain ⟨c9, o9⟩ := hrow9 j hlt
          obtain ⟨i1, j1, hr9, -, -, -⟩ := netOk_pair HOK.out j (by rw [← HNx.out]; exact hlt)
          obtain ⟨ar9, gr9, cr9, er9, -, -, -⟩ := OwnI.view o9
          rw [hr9] at er9
          rw [er9] at c9
          replace c9 : wr.cell? ⟨g9, j, none⟩ = some (.slice ar9 2 cr9) := c9
          clear hg9 hrow9 o9 hr9 er9
          obtain ⟨wk, rfl⟩ : ∃ W : World, W = wr := ⟨_, rfl⟩
          go_wp2_with fail
          go_loopw [12] (fun t wr => ∃ k : Nat, k ≤ 3 ∧ t = .int .i64 k ∧ Below wk.heap.size wk wr) (fun t _ => 3 - (intOf t).toNat)
          case atStart => exact ⟨0, by omega, rfl, Below.refl _ _⟩
          case round =>
            obtain ⟨k, hk, rfl, hb⟩ := hrel
            have R1 : Hid (Below wk.heap.size wk wk) := Below.refl _ _
            have z_wr := hb.size
            replace Ox := Lib.hid (Ox.out.later hb)
            replace cx0 := (hb.cell (p := ⟨w1.heap.size, 0, none⟩) (by show w1.heap.size < _; omega)).trans cx0
            replace cx1 := (hb.cell (p := ⟨w1.heap.size, 1, none⟩) (by show w1.heap.size < _; omega)).trans cx1
            replace BA : Hid (Below w.heap.size w wr) := BA.out.trans (hb.mono (by omega))
            replace ZA : w.heap.size ≤ wr.heap.size := (by omega)
            replace yx : w1.heap.size < wr.heap.size := (by omega)
            replace R0 : Hid (Below wq.heap.size wq wr) := R0.out.trans (hb.mono (by omega))
            replace R1 : Hid (Below wk.heap.size wk wr) := R1.out.trans (hb.mono (by omega))
            clear hb
            by_cases hk3 : k < 3
            · have hk2 : k ≤ 2 := by omega
              have hk3i : (k : Int) < 3 := by omega
              go_wp2_with fail
              refine (CT.out wr _ _ _ usx j k Ox.out (by omega) hlt hk2).mono ?_
              rintro e w6 ⟨ql, rfl, ol, b_w6⟩
              obtain ⟨xl, hxl⟩ : ∃ X, X = testsK xx j k (2 ^ v) := ⟨_, rfl⟩
              rw [← hxl] at ol
              have HXl := Lib.hid hxl
              clear hxl
              obtain ⟨aol, gl, capl, el, -, -, -⟩ := OwnI.view ol
              obtain ⟨Ll, hLl⟩ : ∃ L, L = xl.length := ⟨_, rfl⟩
              rw [← hLl] at el
              subst el
              have HNl := Lib.hid hLl
              clear hLl
              have z_w6 := b_w6.size
              replace Ox := Lib.hid (Ox.out.later b_w6)
              replace cx0 := (b_w6.cell (p := ⟨w1.heap.size, 0, none⟩) (by show w1.heap.size < _; omega)).trans cx0
              replace cx1 := (b_w6.cell (p := ⟨w1.heap.size, 1, none⟩) (by show w1.heap.size < _; omega)).trans cx1
              replace BA : Hid (Below w.heap.size w w6) := BA.out.trans (b_w6.mono (by omega))
              replace ZA : w.heap.size ≤ w6.heap.size := (by omega)
              replace yx : w1.heap.size < w6.heap.size := (by omega)
              replace R0 : Hid (Below wq.heap.size wq w6) := R0.out.trans (b_w6.mono (by omega))
              replace R1 : Hid (Below wk.heap.size wk w6) := R1.out.trans (b_w6.mono (by omega))
              clear b_w6
              have Ol := Lib.hid ol
              clear ol
              have hLlb : Ll ≤ 16 := by
                have h1 : (testsK xx j k (2 ^ v)).length ≤ 2 ^ v := by
                  rw [testsK, List.length_map]
                  exact Nat.le_trans (List.length_filter_le _ _) (by simp)
                have h2 : 2 ^ v ≤ 2 ^ 4 := Nat.pow_le_pow_right (by omega) v4
                rw [HNl.out, HXl.out]
                exact Nat.le_trans h1 h2
              obtain ⟨H, hH⟩ : ∃ b, b = hidB v xx j k := ⟨_, rfl⟩
              have HH := Lib.hid hH
              have hLl0 : ((Ll : Int) == 0) = H := by rw [hH, hidB, HNl.out, HXl.out, Bool.eq_iff_iff, beq_iff_eq, decide_eq_true_iff]; omega
              clear hH
              go_wp2_with fail
              refine (CS.out w6 _ _ _ usx j k Ox.out (by omega) hlt hk2).mono ?_
              rintro e w7 ⟨rfl, b_w7⟩
              rw [show hidB v xx j k = H from HH.out.symm]
              have z_w7 := b_w7.size
              replace Ox := Lib.hid (Ox.out.later b_w7)
              replace Ol := Lib.hid (Ol.out.later b_w7)
              replace cx0 := (b_w7.cell (p := ⟨w1.heap.size, 0, none⟩) (by show w1.heap.size < _; omega)).trans cx0
              replace cx1 := (b_w7.cell (p := ⟨w1.heap.size, 1, none⟩) (by show w1.heap.size < _; omega)).trans cx1
              replace BA : Hid (Below w.heap.size w w7) := BA.out.trans (b_w7.mono (by omega))
              replace ZA : w.heap.size ≤ w7.heap.size := (by omega)
              replace yx : w1.heap.size < w7.heap.size := (by omega)
              replace R0 : Hid (Below wq.heap.size wq w7) := R0.out.trans (b_w7.mono (by omega))
              replace R1 : Hid (Below wk.heap.size wk w7) := R1.out.trans (b_w7.mono (by omega))
              clear b_w7
              go_wp2_with fail
              go_loopw [98] (fun t wr => ∃ i : Nat, i ≤ Ll ∧ t = .int .i64 i ∧ Below w7.heap.size w7 wr) (fun t _ => Ll - (intOf t).toNat)
              case atStart => exact ⟨0, by omega, rfl, Below.refl _ _⟩
              case round =>
                obtain ⟨i, hi, rfl, hb⟩ := hrel
                have R2 : Hid (Below w7.heap.size w7 w7) := Below.refl _ _
                have z_wr := hb.size
                replace Ox := Lib.hid (Ox.out.later hb)
                replace Ol := Lib.hid (Ol.out.later hb)
                replace cx0 := (hb.cell (p := ⟨w1.heap.size, 0, none⟩) (by show w1.heap.size < _; omega)).trans cx0
                replace cx1 := (hb.cell (p := ⟨w1.heap.size, 1, none⟩) (by show w1.heap.size < _; omega)).trans cx1
                replace BA : Hid (Below w.heap.size w wr) := BA.out.trans (hb.mono (by omega))
                replace ZA : w.heap.size ≤ wr.heap.size := (by omega)
                replace yx : w1.heap.size < wr.heap.size := (by omega)
                replace R0 : Hid (Below wq.heap.size wq wr) := R0.out.trans (hb.mono (by omega))
                replace R1 : Hid (Below wk.heap.size wk wr) := R1.out.trans (hb.mono (by omega))
                replace R2 : Hid (Below w7.heap.size w7 wr) := R2.out.trans (hb.mono (by omega))
                clear hb
                by_cases hi3 : i < Ll
                · obtain ⟨al, gl, cl, el, -, hgl, hcl⟩ := OwnI.view Ol.out
                  rw [← HNl.out] at el hgl hcl
                  cases el
                  obtain ⟨rfl, -, hglw⟩ := hgl (by omega)
                  have c8 := (hcl i hi3).1
                  obtain ⟨m, hm, hmv, hmf⟩ : ∃ m : Nat, xl.getD i 0 = m ∧ m < 2 ^ v ∧ findB xx j k m = true := by
                    have hin : xl.getD i 0 ∈ xl := by rw [List.getD_eq_getElem?_getD, List.getElem?_eq_getElem (by rw [← HNl.out]; exact hi3)]; exact List.getElem_mem _
                    generalize xl.getD i 0 = y at hin ⊢
                    rw [HXl.out, testsK, List.mem_map] at hin
                    obtain ⟨m, hm, rfl⟩ := hin
                    rw [List.mem_filter, List.mem_range] at hm
                    exact ⟨m, rfl, hm.1, hm.2⟩
                  rw [hm] at c8
                  clear hgl hcl hm
                  have HMF := Lib.hid hmf
                  have hflt := fltB_mk2 HOK.out (show j < xx.length by rw [← HNx.out]; exact hlt) hk2
                  have hpl := (faultP_lt HOK.out j k hmv).1
                  have CB : Hid (∀ w lo hi u us, OwnR w lo hi u us xx → hi ≤ w.heap.size → Calls Try.prog 24 #[.agg #[.int .i64 v, u], .int .i64 j, .int .i64 k, .int .i64 m] w fun e w' => e = .returned (.int .i64 (faultP xx j k m : Nat)) ∧ Below w.heap.size w w') := fun w lo hi u us h1 h2 => by
                    have h := FaultyBits_impl_c v lo hi u us xx j k m w h1 h2
                    rwa [show fltyR v xx j k m = ((faultP xx j k m : Nat) : Int) from if_pos ⟨hflt, by rw [Int.toNat_natCast]; exact inB_mk (by omega)⟩] at h
                  have CD : Hid (∀ w lo hi u us, OwnR w lo hi u us xx → hi ≤ w.heap.size → Calls Try.prog 25 #[.agg #[.int .i64 v, u], .int .i64 j, .int .i64 k, .int .i64 m] w fun e w' => e = .returned (.bool true) ∧ Below w.heap.size w w') := fun w lo hi u us h1 h2 => by
                    have h := FindsFault_impl_c v lo hi u us xx j k m w h1 h2
                    rwa [show findR v xx j k m = true from by simp only [findR, hflt, Int.toNat_natCast, show inB (m : Int) 0 (((2 ^ v : Nat) : Int) - 1) = true from inB_mk (by omega), HMF.out]; rfl] at h
                  obtain ⟨b, hb⟩ : ∃ b, b = faultP xx j k m := ⟨_, rfl⟩
                  have CI : Hid (∀ w, Calls Try.prog 26 #[.int .i64 v, .int .i64 b] w fun e w' => e = .returned (.bool false) ∧ w = w') := fun w => by
                    have h := IsSortedMask_y v b w v1 (by omega) (by rw [hb]; exact hpl)
                    rwa [show (b == srt v b) = false from by rw [hb]; exact told_not HS.out hmv HMF.out] at h
                  rw [← hb] at CB
                  clear hb hflt hpl hmf hmv
                  go_wp2_with fail
                  refine (CB.out wr _ _ _ usx Ox.out (by omega)).mono ?_
                  rintro e w8 ⟨rfl, b_w8⟩
                  have z_w8 := b_w8.size
                  replace Ox := Lib.hid (Ox.out.later b_w8)
                  replace Ol := Lib.hid (Ol.out.later b_w8)
                  replace cx0 := (b_w8.cell (p := ⟨w1.heap.size, 0, none⟩) (by show w1.heap.size < _; omega)).trans cx0
                  replace cx1 := (b_w8.cell (p := ⟨w1.heap.size, 1, none⟩) (by show w1.heap.size < _; omega)).trans cx1
                  replace BA : Hid (Below w.heap.size w w8) := BA.out.trans (b_w8.mono (by omega))
                  replace ZA : w.heap.size ≤ w8.heap.size := (by omega)
                  replace yx : w1.heap.size < w8.heap.size := (by omega)
                  replace R0 : Hid (Below wq.heap.size wq w8) := R0.out.trans (b_w8.mono (by omega))
                  replace R1 : Hid (Below wk.heap.size wk w8) := R1.out.trans (b_w8.mono (by omega))
                  replace R2 : Hid (Below w7.heap.size w7 w8) := R2.out.trans (b_w8.mono (by omega))
                  clear b_w8
                  go_wp2_with fail
                  refine (CD.out w8 _ _ _ usx Ox.out (by omega)).mono ?_
                  rintro e w9 ⟨rfl, b_w9⟩
                  have z_w9 := b_w9.size
                  replace Ox := Lib.hid (Ox.out.later b_w9)
                  replace Ol := Lib.hid (Ol.out.later b_w9)
                  replace cx0 := (b_w9.cell (p := ⟨w1.heap.size, 0, none⟩) (by show w1.heap.size < _; omega)).trans cx0
                  replace cx1 := (b_w9.cell (p := ⟨w1.heap.size, 1, none⟩) (by show w1.heap.size < _; omega)).trans cx1
                  replace BA : Hid (Below w.heap.size w w9) := BA.out.trans (b_w9.mono (by omega))
                  replace ZA : w.heap.size ≤ w9.heap.size := (by omega)
                  replace yx : w1.heap.size < w9.heap.size := (by omega)
                  replace R0 : Hid (Below wq.heap.size wq w9) := R0.out.trans (b_w9.mono (by omega))
                  replace R1 : Hid (Below wk.heap.size wk w9) := R1.out.trans (b_w9.mono (by omega))
                  replace R2 : Hid (Below w7.heap.size w7 w9) := R2.out.trans (b_w9.mono (by omega))
                  clear b_w9
                  go_wp2_with fail
                  refine (CI.out _).mono ?_
                  rintro e w' ⟨rfl, rfl⟩
                  go_wp2
                  go_roundw
                  case rel => exact ⟨i + 1, by omega, by go_num, R2.out⟩
                  case measure => simp [intOf]; omega
                · have hi3i : ¬ (i : Int) < (Ll : Int) := by omega
                  clear R2
                  go_wp2
                  go_roundw
                  case rel => exact ⟨k + 1, by omega, by go_num, R1.out⟩
                  case measure => simp [intOf]; omega
            · have hk3i : ¬ (k : Int) < 3 := by omega
              clear R1
              clear hk3 hk
              obtain ⟨H0, hH0⟩ : ∃ b, b = hidB v xx j 0 := ⟨_, rfl⟩
              have HH0 := Lib.hid hH0
              clear hH0
              have HBN : Hid (allB (fun k => hidB v xx k 0) (j + 1) = (B && H0)) := by show _ = _; rw [HB.out, HH0.out]; simp [allB, List.range_succ]
              have HND : Hid (needB v xx j = !H0) := by show _ = _; rw [HH0.out]; exact need_hid HS.out (by rw [← HNx.out]; exact hlt)
              have CS0 : Hid (∀ w lo hi u us, OwnR w lo hi u us xx → hi ≤ w.heap.size → Calls Try.prog 23 #[.agg #[.int .i64 v, u], .int .i64 j, .int .i64 0] w fun e w' => e = .returned (.bool H0) ∧ Below w.heap.size w w') := fun w lo hi u us h1 h2 => by
                rw [HH0.out]
                exact CS.out w lo hi u us j 0 h1 h2 hlt (by omega)
              rcases (by cases B <;> cases H0 <;> simp : (B = true ∧ H0 = true) ∨ (B = true ∧ H0 = false) ∨ (B = false ∧ H0 = true) ∨ (B = false ∧ H0 = false)) with ⟨hb0, hh0⟩ | ⟨hb0, hh0⟩ | ⟨hb0, hh0⟩ | ⟨hb0, hh0⟩
              · subst hb0
                subst hh0
                go_wp2_with fail
                refine (CS0.out wr _ _ _ usx Ox.out (by omega)).mono ?_
                rintro e w10 ⟨rfl, b_w10⟩
                have z_w10 := b_w10.size
                replace Ox := Lib.hid (Ox.out.later b_w10)
                replace cx0 := (b_w10.cell (p := ⟨w1.heap.size, 0, none⟩) (by show w1.heap.size < _; omega)).trans cx0
                replace cx1 := (b_w10.cell (p := ⟨w1.heap.size, 1, none⟩) (by show w1.heap.size < _; omega)).trans cx1
                replace BA : Hid (Below w.heap.size w w10) := BA.out.trans (b_w10.mono (by omega))
                replace ZA : w.heap.size ≤ w10.heap.size := (by omega)
                replace yx : w1.heap.size < w10.heap.size := (by omega)
                replace R0 : Hid (Below wq.heap.size wq w10) := R0.out.trans (b_w10.mono (by omega))
                clear b_w10
                have CW : Hid (∀ w', Below w10.heap.size w10 w' → Calls Try.prog 23 #[.agg #[.int .i64 v, .slice (some ⟨g9, 0, none⟩) Lx capx], .int .i64 j, .int .i64 0] w' fun e w'' => e = .returned (.bool true) ∧ Below w'.heap.size w' w'') := fun w' h1 => CS0.out w' _ _ _ usx (Ox.out.below h1 (by omega)) (by have := h1.size; omega)
                have CN : Hid (∀ w', Below w10.heap.size w10 w' → Calls Try.prog 27 #[.agg #[.int .i64 v, .slice (some ⟨g9, 0, none⟩) Lx capx], .int .i64 j] w' fun e w'' => e = .returned (.bool false) ∧ Below w'.heap.size w' w'') := fun w' h1 => by
                  have := IsNeeded_yes v _ _ _ usx xx w' (Ox.out.below h1 (by omega)) (by have := h1.size; omega) HOK.out j (by rw [← HNx.out]; exact hlt)
                  rwa [HND.out] at this
                go_wp2_with fail
                refine wp_region_later w10.heap.size w10 (by kernel_rfl) (by kernel_rfl) (Below.refl _ _) ?_
                have hLW := LW.cells (B := w10.heap.size) (w0 := w10)
                repeat (go_big_quiet_step ((first | (go_at_call 23; refine LW.call (Nat.le_refl _) (CW.out _ (LW.h _))) | (go_at_call 27; refine LW.call (Nat.le_refl _) (CN.out _ (LW.h _))) | fail)))
                refine wpQuiet_nil ?_
                rintro w11 ⟨⟨w2s, b_w11⟩, rfl⟩
                clear hLW
                have z_w11 := b_w11.size
                replace Ox := Lib.hid (Ox.out.later b_w11)
                replace cx0 := (b_w11.cell (p := ⟨w1.heap.size, 0, none⟩) (by show w1.heap.size < _; omega)).trans cx0
                replace cx1 := (b_w11.cell (p := ⟨w1.heap.size, 1, none⟩) (by show w1.heap.size < _; omega)).trans cx1
                replace BA : Hid (Below w.heap.size w w11) := BA.out.trans (b_w11.mono (by omega))
                replace ZA : w.heap.size ≤ w11.heap.size := (by omega)
                replace yx : w1.heap.size < w11.heap.size := (by omega)
                replace R0 : Hid (Below wq.heap.size wq w11) := R0.out.trans (b_w11.mono (by omega))
                clear b_w11
                clear CW CN CS0
                go_wp2
                go_roundw
                case rel => first | exact ⟨j + 1, by omega, by go_num, by rw [HBN.out]; rfl, R0.out⟩ | ((repeat apply Exists.intro); refine ⟨?_, rfl⟩; exact ⟨j + 1, by omega, by go_num, by rw [HBN.out]; rfl, R0.out⟩)
                case measure => simp [intOf]; omega
              · subst hb0
                subst hh0
                go_wp2_with fail
                refine (CS0.out wr _ _ _ usx Ox.out (by omega)).mono ?_
                rintro e w12 ⟨rfl, b_w12⟩
                have z_w12 := b_w12.size
                replace Ox := Lib.hid (Ox.out.later b_w12)
                replace cx0 := (b_w12.cell (p := ⟨w1.heap.size, 0, none⟩) (by show w1.heap.size < _; omega)).trans cx0
                replace cx1 := (b_w12.cell (p := ⟨w1.heap.size, 1, none⟩) (by show w1.heap.size < _; omega)).trans cx1
                replace BA : Hid (Below w.heap.size w w12) := BA.out.trans (b_w12.mono (by omega))
                replace ZA : w.heap.size ≤ w12.heap.size := (by omega)
                replace yx : w1.heap.size < w12.heap.size := (by omega)
                replace R0 : Hid (Below wq.heap.size wq w12) := R0.out.trans (b_w12.mono (by omega))
                clear b_w12
                have CW : Hid (∀ w', Below w12.heap.size w12 w' → Calls Try.prog 23 #[.agg #[.int .i64 v, .slice (some ⟨g9, 0, none⟩) Lx capx], .int .i64 j, .int .i64 0] w' fun e w'' => e = .returned (.bool false) ∧ Below w'.heap.size w' w'') := fun w' h1 => CS0.out w' _ _ _ usx (Ox.out.below h1 (by omega)) (by have := h1.size; omega)
                have CN : Hid (∀ w', Below w12.heap.size w12 w' → Calls Try.prog 27 #[.agg #[.int .i64 v, .slice (some ⟨g9, 0, none⟩) Lx capx], .int .i64 j] w' fun e w'' => e = .returned (.bool true) ∧ Below w'.heap.size w' w'') := fun w' h1 => by
                  have := IsNeeded_yes v _ _ _ usx xx w' (Ox.out.below h1 (by omega)) (by have := h1.size; omega) HOK.out j (by rw [← HNx.out]; exact hlt)
                  rwa [HND.out] at this
                go_wp2_with fail
                refine wp_region_later w12.heap.size w12 (by kernel_rfl) (by kernel_rfl) (Below.refl _ _) ?_
                have hLW := LW.cells (B := w12.heap.size) (w0 := w12)
                repeat (go_big_quiet_step ((first | (go_at_call 23; refine LW.call (Nat.le_refl _) (CW.out _ (LW.h _))) | (go_at_call 27; refine LW.call (Nat.le_refl _) (CN.out _ (LW.h _))) | fail)))
                refine wpQuiet_nil ?_
                rintro w13 ⟨⟨w2s, b_w13⟩, rfl⟩
                clear hLW
                have z_w13 := b_w13.size
                replace Ox := Lib.hid (Ox.out.later b_w13)
                replace cx0 := (b_w13.cell (p := ⟨w1.heap.size, 0, none⟩) (by show w1.heap.size < _; omega)).trans cx0
                replace cx1 := (b_w13.cell (p := ⟨w1.heap.size, 1, none⟩) (by show w1.heap.size < _; omega)).trans cx1
                replace BA : Hid (Below w.heap.size w w13) := BA.out.trans (b_w13.mono (by omega))
                replace ZA : w.heap.size ≤ w13.heap.size := (by omega)
                replace yx : w1.heap.size < w13.heap.size := (by omega)
                replace R0 : Hid (Below wq.heap.size wq w13) := R0.out.trans (b_w13.mono (by omega))
                clear b_w13
                clear CW CN CS0
                go_wp2
                go_roundw
                case rel => first | exact ⟨j + 1, by omega, by go_num, by rw [HBN.out]; rfl, R0.out⟩ | ((repeat apply Exists.intro); refine ⟨?_, rfl⟩; exact ⟨j + 1, by omega, by go_num, by rw [HBN.out]; rfl, R0.out⟩)
                case measure => simp [intOf]; omega
              · subst hb0
                subst hh0
                have CW : Hid (∀ w', Below wr.heap.size wr w' → Calls Try.prog 23 #[.agg #[.int .i64 v, .slice (some ⟨g9, 0, none⟩) Lx capx], .int .i64 j, .int .i64 0] w' fun e w'' => e = .returned (.bool true) ∧ Below w'.heap.size w' w'') := fun w' h1 => CS0.out w' _ _ _ usx (Ox.out.below h1 (by omega)) (by have := h1.size; omega)
                have CN : Hid (∀ w', Below wr.heap.size wr w' → Calls Try.prog 27 #[.agg #[.int .i64 v, .slice (some ⟨g9, 0, none⟩) Lx capx], .int .i64 j] w' fun e w'' => e = .returned (.bool false) ∧ Below w'.heap.size w' w'') := fun w' h1 => by
                  have := IsNeeded_yes v _ _ _ usx xx w' (Ox.out.below h1 (by omega)) (by have := h1.size; omega) HOK.out j (by rw [← HNx.out]; exact hlt)
                  rwa [HND.out] at this
                go_wp2_with fail
                refine wp_region_later wr.heap.size wr (by kernel_rfl) (by kernel_rfl) (Below.refl _ _) ?_
                have hLW := LW.cells (B := wr.heap.size) (w0 := wr)
                repeat (go_big_quiet_step ((first | (go_at_call 23; refine LW.call (Nat.le_refl _) (CW.out _ (LW.h _))) | (go_at_call 27; refine LW.call (Nat.le_refl _) (CN.out _ (LW.h _))) | fail)))
                refine wpQuiet_nil ?_
                rintro w14 ⟨⟨w2s, b_w14⟩, rfl⟩
                clear hLW
                have z_w14 := b_w14.size
                replace Ox := Lib.hid (Ox.out.later b_w14)
                replace cx0 := (b_w14.cell (p := ⟨w1.heap.size, 0, none⟩) (by show w1.heap.size < _; omega)).trans cx0
                replace cx1 := (b_w14.cell (p := ⟨w1.heap.size, 1, none⟩) (by show w1.heap.size < _; omega)).trans cx1
                replace BA : Hid (Below w.heap.size w w14) := BA.out.trans (b_w14.mono (by omega))
                replace ZA : w.heap.size ≤ w14.heap.size := (by omega)
                replace yx : w1.heap.size < w14.heap.size := (by omega)
                replace R0 : Hid (Below wq.heap.size wq w14) := R0.out.trans (b_w14.mono (by omega))
                clear b_w14
                clear CW CN CS0
                go_wp2
                go_roundw
                case rel => first | exact ⟨j + 1, by omega, by go_num, by rw [HBN.out]; rfl, R0.out⟩ | ((repeat apply Exists.intro); refine ⟨?_, rfl⟩; exact ⟨j + 1, by omega, by go_num, by rw [HBN.out]; rfl, R0.out⟩)
                case measure => simp [intOf]; omega
              · subst hb0
                subst hh0
                have CW : Hid (∀ w', Below wr.heap.size wr w' → Calls Try.prog 23 #[.agg #[.int .i64 v, .slice (some ⟨g9, 0, none⟩) Lx capx], .int .i64 j, .int .i64 0] w' fun e w'' => e = .returned (.bool false) ∧ Below w'.heap.size w' w'') := fun w' h1 => CS0.out w' _ _ _ usx (Ox.out.below h1 (by omega)) (by have := h1.size; omega)
                have CN : Hid (∀ w', Below wr.heap.size wr w' → Calls Try.prog 27 #[.agg #[.int .i64 v, .slice (some ⟨g9, 0, none⟩) Lx capx], .int .i64 j] w' fun e w'' => e = .returned (.bool true) ∧ Below w'.heap.size w' w'') := fun w' h1 => by
                  have := IsNeeded_yes v _ _ _ usx xx w' (Ox.out.below h1 (by omega)) (by have := h1.size; omega) HOK.out j (by rw [← HNx.out]; exact hlt)
                  rwa [HND.out] at this
                go_wp2_with fail
                refine wp_region_later wr.heap.size wr (by kernel_rfl) (by kernel_rfl) (Below.refl _ _) ?_
                have hLW := LW.cells (B := wr.heap.size) (w0 := wr)
                repeat (go_big_quiet_step ((first | (go_at_call 23; refine LW.call (Nat.le_refl _) (CW.out _ (LW.h _))) | (go_at_call 27; refine LW.call (Nat.le_refl _) (CN.out _ (LW.h _))) | fail)))
                refine wpQuiet_nil ?_
                rintro w15 ⟨⟨w2s, b_w15⟩, rfl⟩
                clear hLW
                have z_w15 := b_w15.size
                replace Ox := Lib.hid (Ox.out.later b_w15)
                replace cx0 := (b_w15.cell (p := ⟨w1.heap.size, 0, none⟩) (by show w1.heap.size < _; omega)).trans cx0
                replace cx1 := (b_w15.cell (p := ⟨w1.heap.size, 1, none⟩) (by show w1.heap.size < _; omega)).trans cx1
                replace BA : Hid (Below w.heap.size w w15) := BA.out.trans (b_w15.mono (by omega))
                replace ZA : w.heap.size ≤ w15.heap.size := (by omega)
                replace yx : w1.heap.size < w15.heap.size := (by omega)
                replace R0 : Hid (Below wq.heap.size wq w15) := R0.out.trans (b_w15.mono (by omega))
                clear b_w15
                clear CW CN CS0
                go_wp2
                go_roundw
                case rel => first | exact ⟨j + 1, by omega, by go_num, by rw [HBN.out]; rfl, R0.out⟩ | ((repeat apply Exists.intro); refine ⟨?_, rfl⟩; exact ⟨j + 1, by omega, by go_num, by rw [HBN.out]; rfl, R0.out⟩)
                case measure => simp [intOf]; omega
        · have hlt8 : ¬ (j : Int) < (Lx : Int) := by omega
          have HBE : Hid (B = allB (fun k => hidB v xx k 0) xx.length) := by show _ = _; rw [HB.out, ← HNx.out, show j = Lx by omega]
          clear HB hlt hj
          clear R0
          obtain ⟨E, hE⟩ : ∃ b, ((Lx : Int) == 0) = b := ⟨_, rfl⟩
          obtain ⟨Q, hQ⟩ : ∃ b, b = leanB v xx := ⟨_, rfl⟩
          have HQ := Lib.hid hQ
          have hall : ((Q == E) || !B || !Q) = true := by
            have h := safe_lean HS.out
            rw [← HBE.out, ← hQ] at h
            rw [← hE, show ((Lx : Int) == 0) = decide (xx.length = 0) from by rw [← HNx.out, Bool.eq_iff_iff, beq_iff_eq, decide_eq_true_iff]; omega]
            exact h
          clear hQ
          obtain ⟨wz, rfl⟩ : ∃ W : World, W = wr := ⟨_, rfl⟩
          have CW : Hid (∀ w', Below wz.heap.size wz w' → Calls Try.prog 28 #[.agg #[.int .i64 v, .slice aox Lx capx]] w' fun e w'' => e = .returned (.bool B) ∧ Below w'.heap.size w' w'') := fun w' h1 => by
            have := SafeNetwork_i_c v _ _ _ usx xx w' (Ox.out.below h1 (by omega)) (by have := h1.size; omega)
            rwa [safe_hid HS.out, ← HBE.out] at this
          have CN : Hid (∀ w', Below wz.heap.size wz w' → Calls Try.prog 29 #[.agg #[.int .i64 v, .slice aox Lx capx]] w' fun e w'' => e = .returned (.bool Q) ∧ Below w'.heap.size w' w'') := fun w' h1 => by
            have := IsLean_i_c v _ _ _ usx xx w' (Ox.out.below h1 (by omega)) (by have := h1.size; omega)
            rwa [← HQ.out] at this
          clear HBE HQ
          cases B <;> cases Q <;> cases E <;> simp at hall
          all_goals
            go_wp2_with fail
            refine wp_region_later wz.heap.size wz (by kernel_rfl) (by kernel_rfl) (Below.refl _ _) ?_
            have hLW := LW.cells (B := wz.heap.size) (w0 := wz)
            repeat (go_big_quiet_step ((first | (go_at_call 28; refine LW.call (Nat.le_refl _) (CW.out _ (LW.h _))) | (go_at_call 29; refine LW.call (Nat.le_refl _) (CN.out _ (LW.h _))) | fail)))
            refine wpQuiet_nil ?_
            rintro w16 ⟨⟨w2s, b_w16⟩, rfl⟩
            clear hLW
            have z_w16 := b_w16.size
            replace Ox := Lib.hid (Ox.out.later b_w16)
            replace cx0 := (b_w16.cell (p := ⟨w1.heap.size, 0, none⟩) (by show w1.heap.size < _; omega)).trans cx0
            replace cx1 := (b_w16.cell (p := ⟨w1.heap.size, 1, none⟩) (by show w1.heap.size < _; omega)).trans cx1
            replace BA : Hid (Below w.heap.size w w16) := BA.out.trans (b_w16.mono (by omega))
            replace ZA : w.heap.size ≤ w16.heap.size := (by omega)
            replace yx : w1.heap.size < w16.heap.size := (by omega)
            clear b_w16
            go_wp2
            go_ret
            exact ⟨rfl, BA.out⟩
end Go.Proofs.Ytiodolbgapjmkaa
