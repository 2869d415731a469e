/- GreedyTests of the program on valid networks with at most 20 comparators. Conditions: the network is valid. -/
import Derived.Test.YtgdkihabphihoaaGreedyI
import Derived.Deep.RegionHeld3
import Derived.Deep.DeepCutAuto
namespace Go.Proofs.Ytgdkihabphihoaa
open Go.RowKit
set_option maxRecDepth 100000
set_option linter.unusedVariables false

set_option maxHeartbeats 4000000 in
theorem GreedyTests_i_yes (n : Nat) (lo hi : Nat) (v : Value) (vs : List Value) (xss : List (List Int)) (w : World) (hv : OwnR w lo hi v vs xss) (hhi : hi ≤ w.heap.size) (hok : netOk n xss = true) (h20 : xss.length ≤ 20) :
    Calls Try.prog 21 #[.agg #[.int .i64 n, v]] w (IntC w (greedyL n xss)) := by
  have HC : Hid (∀ w, OwnR w lo hi v vs xss → hi ≤ w.heap.size → Calls Try.prog 104 #[.agg #[.int .i64 n, v]] w fun e w' => e = .returned (.bool true) ∧ Below w.heap.size w w') := fun w h1 h2 => by
    have := NetworkOk_c n lo hi v vs xss w h1 h2
    rwa [hok] at this
  have CE0 : Hid (∀ (w : World) (i k m : Nat), OwnR w lo hi v vs xss → hi ≤ w.heap.size → m < 2 ^ n → k < 3 → Calls Try.prog 107 #[.agg #[.int .i64 n, v], .int .i64 i, .int .i64 k, .int .i64 m] w fun e w' => e = .returned (.bool (findB xss i k m)) ∧ Below w.heap.size w w') := fun w i k m h1 h2 h3 h4 => finds_c n lo hi v vs xss i k m w h1 h2 hok h3 (by omega)
  have hn8 : n ≤ 8 := by have := netOk_n hok; omega
  have h256 := pow_le_256 n hn8
  obtain ⟨ao, g, cap, rfl, -, -, -⟩ := hv.rows
  have HV := Lib.hid hv
  obtain ⟨L, hlen⟩ : ∃ l, l = xss.length := ⟨_, rfl⟩
  have HLEN := Lib.hid hlen
  obtain ⟨N, hN⟩ : ∃ N, N = 2 ^ n := ⟨_, rfl⟩
  have hwp := wrap_pow n hn8
  have HN := Lib.hid hN
  have HGL : Hid (greedyL n xss = greedyF xss n L (3 * L + 1) (fun _ _ => true)) := by show _ = _; rw [hlen]; rfl
  obtain ⟨RES, hRES⟩ : ∃ r, r = greedyL n xss := ⟨_, rfl⟩
  rw [← hRES] at HGL ⊢
  rw [← hlen] at HV HC CE0 h20 ⊢
  rw [← hN] at hwp h256 CE0
  clear hv hlen hok hN hRES
  go_enter Try.func21, Try.ntmps21
  obtain ⟨W1, hW1, c0, c1, hsz, hB1, -, -⟩ := box2 w (.int .i64 n) (.slice ao L cap) 27
  go_wp2_with fail
  try rw [hW1]
  clear hW1
  refine (HC.out W1 (HV.out.below hB1 (by omega)) (by omega)).mono ?_
  rintro e w1 ⟨rfl, b1⟩
  have zz := b1.size
  obtain ⟨d0, d1, z1⟩ := boxC b1 (by omega) c0 c1
  have HVb := Lib.hid ((HV.out.below hB1 (by omega)).below b1 (by omega))
  have HB1 : Hid (Below w.heap.size w w1) := hB1.trans (b1.mono (by omega))
  have hle1 : hi ≤ w1.heap.size := by omega
  clear c0 c1 HV HC hB1 b1 hsz zz
  have h20' : ¬ (20 : Int) < L := by omega
  go_wp2_with fail
  rw [show decide ((20 : Int) < L) = false from by rw [decide_eq_false_iff_not]; omega]
  obtain ⟨Wo, hWo⟩ : ∃ W, W = w1.alloc (.cells #[] 3) := ⟨_, rfl⟩
  have OO : Hid (OwnI Wo w1.heap.size Wo.heap.size (.slice (some ⟨w1.heap.size, 0, none⟩) 0 0) []) := by show OwnI _ _ _ _ _; rw [hWo]; exact Own.mono (ownI_empty w1) (Nat.le_refl _) (by simp)
  have hbo : Below w1.heap.size w1 Wo := by rw [hWo]; exact (Below.refl _ _).alloc (Nat.le_refl _) _
  have hso : Wo.heap.size = w1.heap.size + 1 := by rw [hWo]; simp
  rw [← hWo]
  clear hWo
  obtain ⟨e0, e1, ez⟩ := boxC hbo z1 d0 d1
  have HVo := Lib.hid (HVb.out.below hbo hle1)
  refine (faults_all_c (fun _ _ => true) n lo hi _ vs xss Wo HVo.out (by omega) (by rw [← HLEN.out]; omega) (fun w' hb i k hi3 hk => greedy1_c _ _ w')).mono ?_
  rintro e wl ⟨u, us, rfl, ol, bl⟩
  rw [← HLEN.out] at ol
  have zl := bl.size
  have OL := Lib.hid ol
  have BL : Hid (Below w1.heap.size w1 wl) := hbo.trans (bl.mono (by omega))
  have OO2 : Hid (OwnI wl w1.heap.size wl.heap.size (.slice (some ⟨w1.heap.size, 0, none⟩) 0 0) []) := Own.mono (Own.later OO.out bl) (Nat.le_refl _) bl.size
  clear OO hbo e0 e1 ez ol bl
  go_wp2_with fail
  go_loopw [3, 4] (fun o l wr => ∃ P f outs vl, OwnI wr w1.heap.size wr.heap.size o outs ∧ OwnR wr w1.heap.size wr.heap.size l vl (faultsL P L) ∧ SepR o l vl ∧ (faultsL P L).length < f ∧ outs.length + (faultsL P L).length ≤ 60 ∧ Hid (outs ++ greedyF xss n L f P = RES) ∧ Below w1.heap.size w1 wr) (fun _ l _ => lenOf l)
  case atStart => exact ⟨_, 3 * L + 1, [], us, OO2.out, OL.out.mono (by omega) (Nat.le_refl _), SepR.fresh Wo.heap.size (fun k hk => by have e : w1.heap.size = k := Option.some.inj hk; omega) (fun k hk => (OL.out.top.row.lt k hk).1) OL.out.ge_mem, by have := faultsL_le (fun _ _ => true) L; omega, by have := faultsL_le (fun _ _ => true) L; simp; omega, HGL.out.symm, BL.out⟩
  case round =>
    obtain ⟨P, f, outs, vl, hO, hR, hS, hf, h60, HG, hb⟩ := hrel
    obtain ⟨aoo, go, capo, eo, -, -, -⟩ := OwnI.view hO
    obtain ⟨M0, hM0⟩ : ∃ M, M = outs.length := ⟨_, rfl⟩
    have HM0 := Lib.hid hM0
    obtain ⟨aol, gl, capl, el, hgl, hrow⟩ := left_row hR
    obtain ⟨M, hM⟩ : ∃ M, M = (faultsL P L).length := ⟨_, rfl⟩
    have HMM := Lib.hid hM
    rw [← hM0] at eo h60
    rw [← hM] at el hgl hrow hf h60
    subst eo
    subst el
    obtain ⟨cc0, cc1, hzr⟩ := boxC hb z1 d0 d1
    obtain ⟨wA, rfl⟩ : ∃ wA : World, wA = wr := ⟨_, rfl⟩
    have zA := hb.size
    have HVA := Lib.hid (HVb.out.below hb hle1)
    have hleA : hi ≤ wA.heap.size := by omega
    have HBA := Lib.hid hb
    have HO := Lib.hid hO
    have HR := Lib.hid hR
    have HS := Lib.hid hS
    have HROW := Lib.hid hrow
    obtain ⟨cn, hcn⟩ : ∃ c, c = cntP xss L P := ⟨_, rfl⟩
    have HCN := Lib.hid hcn
    have HCB : Hid (∀ m, cn m = cntJ (fndR xss m) (faultsL P L) M) := by
      intro m
      rw [hcn, cntP_filter, cntJ, hM, List.take_of_length_le (Nat.le_refl _)]
    have HBF : Hid (∀ k, (bestK cn k).2 ≤ 60 ∧ (bestK cn k).1 ≤ k) := by
      intro k
      rcases bestK_facts cn k with h | ⟨h1, h2, h3⟩
      · rw [h.1, h.2]; omega
      · have := cntJ_le (fndR xss (bestK cn k).1) (faultsL P L) M
        rw [← HCB.out, h2] at this
        omega
    clear hM hM0 hO hR hS hrow hb hcn OO2 OL BL
    go_wp2_with fail
    try simp only [hwp]
    go_loopw [5, 6, 29] (fun b s i wr => ∃ m : Nat, m ≤ N ∧ i = .int .i64 m ∧ b = .int .i64 ((bestK cn m).1 : Nat) ∧ s = .int .i64 ((bestK cn m).2 : Nat) ∧ Below wA.heap.size wA wr) (fun _ _ i _ => N - (intOf i).toNat)
    case atStart => exact ⟨0, Nat.zero_le _, rfl, rfl, rfl, Below.refl _ _⟩
    case round =>
      obtain ⟨m, hm, rfl, rfl, rfl, hb⟩ := hrel
      obtain ⟨b1, hb1⟩ : ∃ b, b = (bestK cn m).1 := ⟨_, rfl⟩
      obtain ⟨s1, hs1⟩ : ∃ b, b = (bestK cn m).2 := ⟨_, rfl⟩
      have q1 := (HBF.out m).1
      have q2 := (HBF.out m).2
      rw [← hb1] at q2 ⊢
      rw [← hs1] at q1 ⊢
      have HB1' := Lib.hid hb1
      have HS1 := Lib.hid hs1
      have HB := Lib.hid hb
      obtain ⟨c0, c1, hz⟩ := boxC hb hzr cc0 cc1
      have zB := hb.size
      clear hb1 hs1 hb
      obtain ⟨wB, rfl⟩ : ∃ wB : World, wB = wr := ⟨_, rfl⟩
      by_cases hlt : m < N
      · clear c0 c1 hz
        go_wp2_with fail
        go_loopw [8, 34] (fun y j wr => ∃ t : Nat, t ≤ M ∧ j = .int .i64 t ∧ y = .int .i64 (cntJ (fndR xss m) (faultsL P L) t : Nat) ∧ Below wA.heap.size wA wr) (fun _ j _ => M - (intOf j).toNat)
        case atStart => exact ⟨0, Nat.zero_le _, rfl, rfl, HB.out⟩
        case round =>
          obtain ⟨t, ht, rfl, rfl, hb⟩ := hrel
          obtain ⟨c, hc⟩ : ∃ c, c = cntJ (fndR xss m) (faultsL P L) t := ⟨_, rfl⟩
          have hcM := cntJ_le (fndR xss m) (faultsL P L) t
          rw [← hc, ← HMM.out] at hcM
          rw [← hc]
          have HCC := Lib.hid hc
          have HB3 := Lib.hid hb
          obtain ⟨c0, c1, hz⟩ := boxC hb hzr cc0 cc1
          have z3 := hb.size
          have HV3 := Lib.hid (HVA.out.below hb hleA)
          have hle3 : hi ≤ wr.heap.size := by omega
          clear hc
          by_cases hlt3 : t < M
          · obtain ⟨gr, capr, i, k, -, hcell, hgr, hci, hck, hF, hi', hk'⟩ := HROW.out t hlt3
            obtain ⟨rfl, hglw⟩ := hgl (by omega)
            have f1 := (hb.cell (p := ⟨gl, t, none⟩) (by show gl < _; omega)).trans hcell
            have f2 := (hb.cell (p := ⟨gr, 0, none⟩) (by show gr < _; omega)).trans hci
            have f3 := (hb.cell (p := ⟨gr, 1, none⟩) (by show gr < _; omega)).trans hck
            have hsc := cntJ_succ (q := fndR xss m) (F := faultsL P L) (j := t) (by rw [← HMM.out]; exact hlt3)
            rw [hF, ← HCC.out, show fndR xss m [(i : Int), (k : Int)] = findB xss i k m from by simp [fndR]] at hsc
            have bd : Below wr.heap.size wr wr.drew := (Below.refl _ _).drew
            have CE := Lib.hid (CE0.out wr.drew i k m (HV3.out.below bd hle3) hle3 hlt hk')
            have BD := Lib.hid bd
            replace c0 : wr.drew.cell? ⟨w.heap.size, 0, none⟩ = some (.int .i64 n) := c0
            replace c1 : wr.drew.cell? ⟨w.heap.size, 1, none⟩ = some (.slice ao L cap) := c1
            replace f2 : wr.drew.cell? ⟨gr, 0, none⟩ = some (.int .i64 i) := f2
            replace f3 : wr.drew.cell? ⟨gr, 1, none⟩ = some (.int .i64 k) := f3
            clear bd
            cases hq : findB xss i k m
            · rw [hq] at CE hsc
              have HT : Hid (cntJ (fndR xss m) (faultsL P L) (t + 1) = c) := by show _ = _; rw [hsc]; simp
              clear hq hsc hb hcell hci hck hF
              go_upto_region 13 with fail
              go_region_held3 (fun W' => W'.cell? ⟨w.heap.size, 0, none⟩ = some (.int .i64 n) ∧ W'.cell? ⟨w.heap.size, 1, none⟩ = some (.slice ao L cap) ∧ W'.cell? ⟨gr, 0, none⟩ = some (.int .i64 i) ∧ W'.cell? ⟨gr, 1, none⟩ = some (.int .i64 k)) (refine ⟨?_, ?_, ?_, ?_⟩ <;> with_reducible assumption) (first | (go_at_call 107; refine CE.out.mono ?_; rintro e w2 ⟨rfl, b2⟩; have B2 := Lib.hid b2; replace c0 := (b2.cell (p := ⟨w.heap.size, 0, none⟩) (by show w.heap.size < wr.heap.size; omega)).trans c0; replace c1 := (b2.cell (p := ⟨w.heap.size, 1, none⟩) (by show w.heap.size < wr.heap.size; omega)).trans c1; replace f2 := (b2.cell (p := ⟨gr, 0, none⟩) (by show gr < wr.heap.size; omega)).trans f2; replace f3 := (b2.cell (p := ⟨gr, 1, none⟩) (by show gr < wr.heap.size; omega)).trans f3; clear b2) | fail)
              go_wp2
              go_roundw
              case rel => exact ⟨t + 1, by omega, by go_num, by rw [HT.out], HB3.out.trans ((undrew B2.out).mono z3)⟩
              case measure => simp [intOf]; omega
            · rw [hq] at CE hsc
              have HT : Hid (cntJ (fndR xss m) (faultsL P L) (t + 1) = c + 1) := by show _ = _; rw [hsc]; simp
              clear hq hsc hb hcell hci hck hF
              go_upto_region 13 with fail
              go_region_held3 (fun W' => W'.cell? ⟨w.heap.size, 0, none⟩ = some (.int .i64 n) ∧ W'.cell? ⟨w.heap.size, 1, none⟩ = some (.slice ao L cap) ∧ W'.cell? ⟨gr, 0, none⟩ = some (.int .i64 i) ∧ W'.cell? ⟨gr, 1, none⟩ = some (.int .i64 k)) (refine ⟨?_, ?_, ?_, ?_⟩ <;> with_reducible assumption) (first | (go_at_call 107; refine CE.out.mono ?_; rintro e w2 ⟨rfl, b2⟩; have B2 := Lib.hid b2; replace c0 := (b2.cell (p := ⟨w.heap.size, 0, none⟩) (by show w.heap.size < wr.heap.size; omega)).trans c0; replace c1 := (b2.cell (p := ⟨w.heap.size, 1, none⟩) (by show w.heap.size < wr.heap.size; omega)).trans c1; replace f2 := (b2.cell (p := ⟨gr, 0, none⟩) (by show gr < wr.heap.size; omega)).trans f2; replace f3 := (b2.cell (p := ⟨gr, 1, none⟩) (by show gr < wr.heap.size; omega)).trans f3; clear b2) | fail)
              go_wp2
              go_roundw
              case rel => exact ⟨t + 1, by omega, by go_num, by rw [HT.out]; go_num, HB3.out.trans ((undrew B2.out).mono z3)⟩
              case measure => simp [intOf]; omega
          · have HE : Hid (cn m = c) := by show _ = _; rw [HCB.out, HCC.out, show t = M from by omega]
            clear hb c0 c1 hz
            by_cases hgt : s1 < c
            · have HK : Hid ((bestK cn (m + 1)).1 = m ∧ (bestK cn (m + 1)).2 = c) := by
                show _ ∧ _
                rw [bestK_succ, bestS, HE.out, ← HS1.out, if_pos hgt]
                exact ⟨rfl, rfl⟩
              go_wp2
              go_roundw
              case rel => exact ⟨m + 1, by omega, by go_num, by rw [HK.out.1], by rw [HK.out.2], HB3.out⟩
              case measure => simp [intOf]; omega
            · have HK : Hid ((bestK cn (m + 1)).1 = b1 ∧ (bestK cn (m + 1)).2 = s1) := by
                show _ ∧ _
                rw [bestK_succ, bestS, HE.out, ← HS1.out, if_neg hgt]
                exact ⟨HB1'.out.symm, HS1.out.symm⟩
              go_wp2
              go_roundw
              case rel => exact ⟨m + 1, by omega, by go_num, by rw [HK.out.1], by rw [HK.out.2], HB3.out⟩
              case measure => simp [intOf]; omega
      · have HEN : Hid (m = N) := by show m = N; omega
        have HB1N : Hid (b1 = (bestK (cntP xss L P) (2 ^ n)).1) := by show _ = _; rw [← HCN.out, ← HN.out, ← HEN.out]; exact HB1'.out
        have HS1N : Hid (s1 = (bestK (cntP xss L P) (2 ^ n)).2) := by show _ = _; rw [← HCN.out, ← HN.out, ← HEN.out]; exact HS1.out
        clear HROW
        by_cases hs0 : s1 = 0
        · have HFIN : Hid (RES = outs) := by
            show _ = _
            rw [← HG.out, greedyF_stop (by rw [← HS1N.out]; exact hs0), List.append_nil]
          go_wp2
          go_ret
          exact ⟨_, rfl, by rw [HFIN.out]; exact Own.mono (Own.below HO.out HB.out (Nat.le_refl _)) (by have := HB1.out.size; omega) zB, HB1.out.trans ((HBA.out.trans (HB.out.mono zA)).mono HB1.out.size)⟩
        · obtain ⟨f', hg1, hg2, hg3, hg4⟩ := greedyF_go (xss := xss) (n := n) (L := L) (f := f) (P := P) (by rw [← HS1N.out]; exact hs0) (by rw [← HMM.out]; exact hf)
          rw [← HB1N.out] at hg1 hg2 hg3 hg4
          rw [← HMM.out] at hg3
          have HGO := Lib.hid hg1
          have HLF := Lib.hid hg2
          have hb1N : b1 < N := by rw [HN.out]; exact hg4
          have HLT := Lib.hid hg3
          have hlen2 := minusP_filter xss L P b1
          have HFL := Lib.hid hlen2
          have HO2 : Hid (OwnI wB w1.heap.size wB.heap.size (.slice aoo M0 capo) outs) := Own.mono (Own.below HO.out HB.out (Nat.le_refl _)) (Nat.le_refl _) zB
          have HR2 : Hid (OwnR wB w1.heap.size wB.heap.size (.slice aol M capl) vl (faultsL P L)) := (HR.out.below HB.out (Nat.le_refl _)).mono (Nat.le_refl _) zB
          have hzB1 : w1.heap.size ≤ wB.heap.size := by omega
          have HLN : Hid (outs.length ≤ 100000000) := by show _ ≤ _; rw [← HM0.out]; omega
          clear hg1 hg2 hg3 hg4 hlen2
          go_wp2_with (at_builtin; refine wpList_app_int3 rfl (.tmp 59) (.tmp 61) rfl wB (b1 : Int) w1.heap.size wB.heap.size _ outs HO2.out hzB1 HLN.out rfl rfl ?_; intro ao5 L5 cap5 w5 hL5 o5 b5 z5 a5; have O5 := Lib.hid o5; have B5 := Lib.hid b5; have A5 := Lib.hid a5; clear o5 b5 a5)
          have hz5 := A5.out.size
          obtain ⟨r5, s5⟩ := A5.out.ownR HR2.out HS.out
          have S5 := Lib.hid s5
          obtain ⟨aol5, gl5, capl5, el5, hgl5, hrow5⟩ := left_row r5
          have R5 := Lib.hid r5
          rw [← HMM.out] at el5 hgl5 hrow5
          cases el5
          have HROW5 := Lib.hid hrow5
          obtain ⟨k0, k1, kz⟩ := boxC HB.out hzr cc0 cc1
          replace k0 := (B5.out.cell (p := ⟨w.heap.size, 0, none⟩) (by show w.heap.size < w1.heap.size; exact z1)).trans k0
          replace k1 := (B5.out.cell (p := ⟨w.heap.size, 1, none⟩) (by show w.heap.size < w1.heap.size; exact z1)).trans k1
          replace kz : w.heap.size < w5.heap.size := by omega
          have HV5 := Lib.hid ((HVA.out.below HB.out hleA).below B5.out hle1)
          have hle5 : hi ≤ w5.heap.size := by omega
          obtain ⟨wR, hwR⟩ : ∃ W, W = w5.alloc (.cells #[] 31) := ⟨_, rfl⟩
          have HRE : Hid (Own 31 wR w5.heap.size wR.heap.size (.slice (some ⟨w5.heap.size, 0, none⟩) 0 0) []) := by show Own _ _ _ _ _ _; rw [hwR]; exact Own.mono (ownR_empty w5).top (Nat.le_refl _) (by simp)
          have HBR : Hid (Below w5.heap.size w5 wR) := by show Below _ _ _; rw [hwR]; exact (Below.refl _ _).alloc (Nat.le_refl _) _
          rw [← hwR]
          clear hwR r5 s5 hrow5
          go_loopw [11, 66] (fun r j wr => ∃ t : Nat, t ≤ M ∧ j = .int .i64 t ∧ Own 31 wr w5.heap.size wr.heap.size r ((keepZ (fun r => !fndR xss b1 r) vl (faultsL P L) t).map Prod.fst) ∧ Below w5.heap.size w5 wr) (fun _ j _ => M - (intOf j).toNat)
          case atStart => exact ⟨0, Nat.zero_le _, rfl, by simpa [keepZ] using HRE.out, HBR.out⟩
          obtain ⟨t, ht, rfl, hE, hb⟩ := hrel
          obtain ⟨aoe, ge, cape, ee, -, -, -⟩ := Own.view hE
          obtain ⟨E, hEE⟩ : ∃ E, E = ((keepZ (fun r => !fndR xss b1 r) vl (faultsL P L) t).map Prod.fst).length := ⟨_, rfl⟩
          have HEE := Lib.hid hEE
          rw [← hEE] at ee
          subst ee
          have HEO := Lib.hid hE
          have HB4 := Lib.hid hb
          obtain ⟨c0, c1, hz⟩ := boxC hb kz k0 k1
          have z3 := hb.size
          have HV3 := Lib.hid (HV5.out.below hb hle5)
          have hle3 : hi ≤ wr.heap.size := by omega
          have hEl : E ≤ M := by rw [hEE, List.length_map, HMM.out]; exact keepZ_le R5.out.len t
          clear hEE hE
          by_cases hlt3 : t < M
          · obtain ⟨gr, capr, i, k, hvt, hcell, hgr, hci, hck, hF, hi', hk'⟩ := HROW5.out t hlt3
            obtain ⟨rfl, hglw⟩ := hgl5 (by omega)
            have f1 := (hb.cell (p := ⟨gl5, t, none⟩) (by show gl5 < _; omega)).trans hcell
            have f2 := (hb.cell (p := ⟨gr, 0, none⟩) (by show gr < _; omega)).trans hci
            have f3 := (hb.cell (p := ⟨gr, 1, none⟩) (by show gr < _; omega)).trans hck
            have hrow3 := keepZ_succ (q := fun r => !fndR xss b1 r) (vs := vl) (F := faultsL P L) (j := t) R5.out.len (by rw [← HMM.out]; exact hlt3)
            rw [hF, hvt, show fndR xss b1 [(i : Int), (k : Int)] = findB xss i k b1 from by simp [fndR]] at hrow3
            have bd : Below wr.heap.size wr wr.drew := (Below.refl _ _).drew
            have CE := Lib.hid (CE0.out wr.drew i k b1 (HV3.out.below bd hle3) hle3 hb1N hk')
            replace c0 : wr.drew.cell? ⟨w.heap.size, 0, none⟩ = some (.int .i64 n) := c0
            replace c1 : wr.drew.cell? ⟨w.heap.size, 1, none⟩ = some (.slice ao L cap) := c1
            replace f2 : wr.drew.cell? ⟨gr, 0, none⟩ = some (.int .i64 i) := f2
            replace f3 : wr.drew.cell? ⟨gr, 1, none⟩ = some (.int .i64 k) := f3
            clear bd hvt
            cases hq : findB xss i k b1
            · rw [hq] at CE hrow3
              have HT : Hid ((keepZ (fun r => !fndR xss b1 r) vl (faultsL P L) (t + 1)).map Prod.fst = (keepZ (fun r => !fndR xss b1 r) vl (faultsL P L) t).map Prod.fst ++ [.slice (some ⟨gr, 0, none⟩) 2 capr]) := by show _ = _; rw [hrow3]; simp
              have HLN2 : Hid (((keepZ (fun r => !fndR xss b1 r) vl (faultsL P L) t).map Prod.fst).length ≤ 100000) := by show _ ≤ _; rw [← HEE.out]; omega
              clear hq hrow3 hb hcell hci hck hF
              go_upto_region 26 with fail
              go_region_held3 (fun W' => W'.cell? ⟨w.heap.size, 0, none⟩ = some (.int .i64 n) ∧ W'.cell? ⟨w.heap.size, 1, none⟩ = some (.slice ao L cap) ∧ W'.cell? ⟨gr, 0, none⟩ = some (.int .i64 i) ∧ W'.cell? ⟨gr, 1, none⟩ = some (.int .i64 k)) (refine ⟨?_, ?_, ?_, ?_⟩ <;> with_reducible assumption) (first | (go_at_call 107; refine CE.out.mono ?_; rintro e w2 ⟨rfl, b2⟩; have B2 := Lib.hid b2; replace c0 := (b2.cell (p := ⟨w.heap.size, 0, none⟩) (by show w.heap.size < wr.heap.size; omega)).trans c0; replace c1 := (b2.cell (p := ⟨w.heap.size, 1, none⟩) (by show w.heap.size < wr.heap.size; omega)).trans c1; replace f2 := (b2.cell (p := ⟨gr, 0, none⟩) (by show gr < wr.heap.size; omega)).trans f2; replace f3 := (b2.cell (p := ⟨gr, 1, none⟩) (by show gr < wr.heap.size; omega)).trans f3; clear b2) | fail)
              have B2' : Hid (Below wr.heap.size wr w2) := undrew B2.out
              have zw2 := B2'.out.size
              have zw3 : w5.heap.size ≤ w2.heap.size := by omega
              have HE2 : Hid (Own 31 w2 w5.heap.size w2.heap.size (.slice aoe E cape) ((keepZ (fun r => !fndR xss b1 r) vl (faultsL P L) t).map Prod.fst)) := Own.mono (Own.later HEO.out B2'.out) (Nat.le_refl _) zw2
              go_wp2_with (at_builtin; refine wpList_app_cell rfl (.tmp 80) (.tmp 82) rfl w2 (.slice (some ⟨gr, 0, none⟩) 2 capr) w5.heap.size w2.heap.size _ _ HE2.out zw3 rfl HLN2.out rfl rfl ?_; intro ao6 L6 cap6 w6 hL6 o6 b6 z6; have O6 := Lib.hid o6; have B6 := Lib.hid b6; clear o6 b6)
              go_roundw
              case rel => exact ⟨t + 1, by omega, by go_num, by rw [HT.out]; exact O6.out, HB4.out.trans ((B2'.out.mono z3).trans B6.out)⟩
              case measure => simp [intOf]; omega
            · rw [hq] at CE hrow3
              have HT : Hid ((keepZ (fun r => !fndR xss b1 r) vl (faultsL P L) (t + 1)).map Prod.fst = (keepZ (fun r => !fndR xss b1 r) vl (faultsL P L) t).map Prod.fst) := by show _ = _; rw [hrow3]; simp
              clear hq hrow3 hb hcell hci hck hF
              go_upto_region 26 with fail
              go_region_held3 (fun W' => W'.cell? ⟨w.heap.size, 0, none⟩ = some (.int .i64 n) ∧ W'.cell? ⟨w.heap.size, 1, none⟩ = some (.slice ao L cap) ∧ W'.cell? ⟨gr, 0, none⟩ = some (.int .i64 i) ∧ W'.cell? ⟨gr, 1, none⟩ = some (.int .i64 k)) (refine ⟨?_, ?_, ?_, ?_⟩ <;> with_reducible assumption) (first | (go_at_call 107; refine CE.out.mono ?_; rintro e w2 ⟨rfl, b2⟩; have B2 := Lib.hid b2; replace c0 := (b2.cell (p := ⟨w.heap.size, 0, none⟩) (by show w.heap.size < wr.heap.size; omega)).trans c0; replace c1 := (b2.cell (p := ⟨w.heap.size, 1, none⟩) (by show w.heap.size < wr.heap.size; omega)).trans c1; replace f2 := (b2.cell (p := ⟨gr, 0, none⟩) (by show gr < wr.heap.size; omega)).trans f2; replace f3 := (b2.cell (p := ⟨gr, 1, none⟩) (by show gr < wr.heap.size; omega)).trans f3; clear b2) | fail)
              have B2' : Hid (Below wr.heap.size wr w2) := undrew B2.out
              have zw2 := B2'.out.size
              have zw3 : w5.heap.size ≤ w2.heap.size := by omega
              have HE2 : Hid (Own 31 w2 w5.heap.size w2.heap.size (.slice aoe E cape) ((keepZ (fun r => !fndR xss b1 r) vl (faultsL P L) t).map Prod.fst)) := Own.mono (Own.later HEO.out B2'.out) (Nat.le_refl _) zw2
              go_wp2
              go_roundw
              case rel => exact ⟨t + 1, by omega, by go_num, by rw [HT.out]; exact HE2.out, HB4.out.trans (B2'.out.mono z3)⟩
              case measure => simp [intOf]; omega
          · have HTM : Hid (t = M) := by show t = M; omega
            have hEL : E = (faultsL (minusP xss P b1) L).length := by
              have h := keepZ_rows (q := fun r => !fndR xss b1 r) R5.out.len M (by rw [HMM.out]; exact Nat.le_refl _)
              rw [List.take_of_length_le (by rw [HMM.out]; exact Nat.le_refl _), ← HFL.out] at h
              rw [← h, HEE.out, HTM.out]
              simp
            have hEM : E < M := by rw [hEL]; exact HLT.out
            have HEL := Lib.hid hEL
            have HEO2 : Hid (Own 31 wr w5.heap.size wr.heap.size (.slice aoe E cape) ((keepZ (fun r => !fndR xss b1 r) vl (faultsL P L) (faultsL P L).length).map Prod.fst)) := by have h := HEO.out; rw [HTM.out, HMM.out] at h; rw [HMM.out] at *; exact h
            have HKP : Hid (OwnR wr w1.heap.size wr.heap.size (.slice aoe E cape) ((keepZ (fun r => !fndR xss b1 r) vl (faultsL P L) (faultsL P L).length).map Prod.fst) (faultsL (minusP xss P b1) L)) := by
              show OwnR _ _ _ _ _ _
              rw [HFL.out]
              exact ownR_keep (R5.out.below HB4.out (Nat.le_refl _)) z3 (Own.mono HEO2.out z5 (Nat.le_refl _))
            have HSP : Hid (SepR (.slice ao5 L5 cap5) (.slice aoe E cape) ((keepZ (fun r => !fndR xss b1 r) vl (faultsL P L) (faultsL P L).length).map Prod.fst)) :=
              ⟨fun k h1 h2 => by have := Own.lt O5.out k h1; have := (HEO.out.row.lt k h2).1; omega, fun u hu => S5.out.2 u (keepZ_mem hu)⟩
            clear hEL hb c0 c1
            go_wp2
            go_roundw
            case rel =>
              exact ⟨minusP xss P b1, f', outs ++ [(b1 : Int)], _, Own.mono (Own.below O5.out HB4.out (Nat.le_refl _)) (Nat.le_refl _) z3, HKP.out, HSP.out, HLF.out, by rw [← HEL.out, List.length_append, ← HM0.out]; simp; omega, by show _ = _; rw [List.append_assoc, List.singleton_append, ← HGO.out]; exact HG.out, HBA.out.trans ((HB.out.mono zA).trans (B5.out.trans (HB4.out.mono z5)))⟩
            case measure => simp only [lenOf]; omega
end Go.Proofs.Ytgdkihabphihoaa
