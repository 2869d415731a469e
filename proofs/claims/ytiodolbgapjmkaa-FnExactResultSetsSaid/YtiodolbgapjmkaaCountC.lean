/- The reference's count of sorting networks by its contract. Conditions: at most eight wires. -/
import Derived.Test.YtiodolbgapjmkaaCountP
namespace Go.Proofs.Ytiodolbgapjmkaa
open Go.RowKit Go.Sort
set_option maxRecDepth 100000
set_option linter.unusedVariables false
set_option linter.unusedSimpArgs false
set_option maxHeartbeats 1000000 in
theorem l12Count_0 (n lo hi : Nat) (v : Value) (S : List Int) (w : World) (hn : n ≤ 8) (hv : IntsV w lo hi v S) (hl : S.length ≤ 256) :
    Calls Try.prog 152 #[.int .i64 n, .int .i64 (0 : Nat), v] w fun e w' => e = .returned (.int .i64 (cntL n 0 S : Nat)) ∧ Below w.heap.size w w' := by
  obtain ⟨ao, g, off, cap, rfl, hcap, hao, hc⟩ := hv
  clear hc hao
  obtain ⟨L, hL⟩ : ∃ L, L = S.length := ⟨_, rfl⟩
  have HR : Hid (cntL n 0 S = if L = n + 1 then 1 else 0) := by show _ = _; rw [hL]; rfl
  rw [← hL] at hcap hl ⊢
  clear hL
  obtain ⟨R, hR⟩ : ∃ R, R = cntL n 0 S := ⟨_, rfl⟩
  rw [← hR] at HR ⊢
  clear hR
  by_cases hq : L = n + 1
  · have hqi : (L : Int) = (n : Int) + 1 := by omega
    have HE : Hid (R = 1) := by show _ = _; rw [HR.out, if_pos hq]
    have HQ := Lib.hid hq
    clear HR hq
    go_enter Try.func152, Try.ntmps152
    go_wp2
    go_ret
    exact ⟨by rw [HE.out]; rfl, Below.refl _ _⟩
  · have hqi : ¬ (L : Int) = (n : Int) + 1 := by omega
    have HE : Hid (R = 0) := by show _ = _; rw [HR.out, if_neg hq]
    clear HR
    go_enter Try.func152, Try.ntmps152
    go_wp2
    go_ret
    exact ⟨by rw [HE.out]; rfl, Below.refl _ _⟩
set_option maxHeartbeats 1000000 in
theorem l12Count_c (n : Nat) (hn : n ≤ 8) : ∀ p : Nat, p ≤ 5 → ∀ (S : List Int) (v : Value) (lo hi : Nat) (w : World), IntsV w lo hi v S → hi ≤ w.heap.size → masksP n S → 0 < S.length → S.length ≤ 256 →
    Calls Try.prog 152 #[.int .i64 n, .int .i64 p, v] w fun e w' => e = .returned (.int .i64 (cntL n p S : Nat)) ∧ Below w.heap.size w w'
  | 0, _, S, v, lo, hi, w, hv, hhi, hS, h0, hl => l12Count_0 n lo hi v S w hn hv hl
  | p + 1, hp, S, v, lo, hi, w, hv, hhi, hS, h0, hl => by
    have IH := Lib.hid (l12Count_c n hn p (by omega))
    have HV := Lib.hid hv
    obtain ⟨ao, g, off, cap, rfl, hcap, hao, hc⟩ := hv
    clear hc hao
    obtain ⟨L, hL⟩ : ∃ L, L = S.length := ⟨_, rfl⟩
    have HL := Lib.hid hL
    rw [← hL] at HV hcap h0 hl ⊢
    obtain ⟨R, hR⟩ : ∃ R, R = cntL n (p + 1) S := ⟨_, rfl⟩
    have HR := Lib.hid hR
    rw [← hR]
    clear hR hL
    obtain ⟨q, hq⟩ : ∃ q, q = p + 1 := ⟨_, rfl⟩
    have HQ := Lib.hid hq
    rw [← hq]
    have hq0 : ¬ (q : Int) = 0 := by omega
    have hq1 : (q : Int) - 1 = (p : Int) := by omega
    have hq5 : q ≤ 5 := by omega
    clear hq
    have CL : Hid (Calls Try.prog 187 #[.int .i64 n] w (RowC w (prs n))) := l12All_c n w hn
    go_enter Try.func152, Try.ntmps152
    go_wp2_with fail
    refine CL.out.mono ?_
    rintro e w1 ⟨u1, us1, rfl, o1, b1⟩
    obtain ⟨ao1, g1, cap1, rfl, hcap1, hao1, hrow1⟩ := o1.rows
    have HROW := Lib.hid hrow1
    have B1 := Lib.hid b1
    have hzw := b1.size
    obtain ⟨K, hK⟩ : ∃ K, K = (prs n).length := ⟨_, rfl⟩
    have HK := Lib.hid hK
    have hK64 : K ≤ 64 := by rw [hK]; exact prs_len hn
    rw [← hK] at HROW hcap1 hao1 ⊢
    clear hrow1 o1 b1 hK
    obtain ⟨F, hF⟩ : ∃ F : List Int → Nat, F = fun r => cntL n p (nxt n S (r.getD 0 0).toNat (r.getD 1 0).toNat) := ⟨_, rfl⟩
    have HF := Lib.hid hF
    obtain ⟨PS, hPS⟩ : ∃ f : Nat → Nat, f = fun j => (((prs n).take j).map F).sum := ⟨_, rfl⟩
    have HPS := Lib.hid hPS
    clear hF hPS
    go_wp2_with fail
    go_loopw [7, 20] (fun o t wr => ∃ j : Nat, j ≤ K ∧ t = .int .i64 j ∧ o = .int .i64 (PS j) ∧ Below w1.heap.size w1 wr) (fun _ t _ => K - (intOf t).toNat)
    case atStart => exact ⟨0, Nat.zero_le _, rfl, by rw [HPS.out]; rfl, Below.refl _ _⟩
    case round =>
      obtain ⟨j, hj, rfl, rfl, hb⟩ := hrel
      have hz := hb.size
      have HB : Hid (Below w.heap.size w wr) := B1.out.trans (hb.mono hzw)
      by_cases hlt : j < K
      · have hji : (j : Int) < (K : Int) := by omega
        obtain ⟨a, b, hab, ha, hbn⟩ := prs_pair (n := n) (j := j) (by rw [← HK.out]; exact hlt)
        obtain ⟨h2, h3⟩ := HROW.out j hlt
        rw [hab] at h3
        obtain ⟨ha1, hg0, hg1⟩ := hao1 (by omega)
        subst ha1
        have c1 := (hb.cell (p := ⟨g1, j, none⟩) (by show g1 < _; exact hg1)).trans h2
        obtain ⟨ao2, g2, cap2, e2, -, -, -⟩ := OwnI.view h3
        rw [e2] at c1 h3
        have O3 : Hid (OwnI wr w.heap.size wr.heap.size (.slice ao2 2 cap2) [(a : Int), (b : Int)]) := Own.mono (h3.later hb) (Nat.le_refl _) hz
        obtain ⟨W2, hW2⟩ : ∃ W, W = wr.alloc (.cells #[.slice ao2 2 cap2] 22) := ⟨_, rfl⟩
        have HW2 := Lib.hid hW2
        have O4 := Lib.hid (ownR_one O3.out (by omega))
        rw [← hW2] at O4
        have B2 : Hid (Below wr.heap.size wr W2) := by show Below _ _ _; rw [hW2]; exact (Below.refl _ _).alloc (Nat.le_refl _) _
        have HB2 : Hid (Below w.heap.size w W2) := HB.out.trans (B2.out.mono (by omega))
        have hz2 := HB2.out.size
        have CA := Lib.hid (l04All_c n _ _ lo hi _ _ _ S a b W2 hn O4.out (Nat.le_refl _) (HV.out.below HB2.out hhi) (by omega) hS (by rw [← HL.out]; exact h0) (by rw [← HL.out]; exact hl) (by omega) hbn (by omega))
        clear hW2 h2 h3 e2
        go_wp2_with fail
        try rw [← HW2.out]
        refine CA.out.mono ?_
        rintro e w3 ⟨u3, rfl, o3, b3⟩
        have hz3 := b3.size
        have hlt8 : ∀ m, m < 2 ^ n → stp m a b < 2 ^ n := by
          intro m hm
          have := (bitsP_lt' (netOk_one hn (show a < n by omega) hbn (by omega)) hm).1
          simpa [bitsP] using this
        have CB := Lib.hid (IH.out _ u3 _ _ w3 o3.ints (Nat.le_refl _) (nxt_masks n S a b) (nxt_pos hS (by rw [← HL.out]; exact h0) hlt8) (nxt_len hn S a b))
        obtain ⟨z, hz9⟩ : ∃ z, z = cntL n p (nxt n S a b) := ⟨_, rfl⟩
        rw [← hz9] at CB
        have HZ := Lib.hid hz9
        have HB3 : Hid (Below w1.heap.size w1 w3) := hb.trans ((B2.out.trans (b3.mono B2.out.size)).mono hz)
        clear hlt8 hz9 o3 b3
        go_wp2_with fail
        refine CB.out.mono ?_
        rintro e w4 ⟨rfl, b4⟩
        have HB4 : Hid (Below w1.heap.size w1 w4) := HB3.out.trans (b4.mono HB3.out.size)
        have hjl : j < (prs n).length := by rw [← HK.out]; exact hlt
        have HT : Hid (PS (j + 1) = PS j + z) := by
          show _ = _
          rw [HPS.out]
          show (((prs n).take (j + 1)).map F).sum = (((prs n).take j).map F).sum + z
          rw [take_snoc_getD [] hjl, List.map_append, List.sum_append, hab, HZ.out, HF.out]
          simp
        have HU : Hid (PS (j + 1) < 4611686018427387904) := by
          show _ < _
          have h1 : PS (j + 1) ≤ ((prs n).take (j + 1)).length * 64 ^ 5 := by
            rw [HPS.out]
            refine sum_le_mul _ _ _ fun x _ => ?_
            rw [HF.out]
            refine Nat.le_trans (cntL_le n p _) (Nat.le_trans (Nat.pow_le_pow_left (prs_len hn) p) (Nat.pow_le_pow_right (by omega) (by omega)))
          have h2 : ((prs n).take (j + 1)).length ≤ 64 := by rw [List.length_take]; have := prs_len hn; omega
          have h3 := Nat.mul_le_mul_right (64 ^ 5) h2
          omega
        have HWR : Hid (wrap64 ((PS j : Int) + (z : Int)) = ((PS (j + 1) : Nat) : Int)) := by
          show _ = _
          have h1 := HT.out
          have h2 := HU.out
          rw [h1] at h2 ⊢
          unfold wrap64
          omega
        clear b4
        go_wp2_with fail
        go_roundw
        case rel => exact ⟨j + 1, by omega, by go_num, by rw [HWR.out], HB4.out⟩
        case measure => simp [intOf]; omega
      · have hji : ¬ (j : Int) < (K : Int) := by omega
        have HE : Hid (PS j = R) := by
          show _ = _
          rw [HPS.out, HR.out, show j = K by omega, HK.out]
          show (((prs n).take (prs n).length).map F).sum = _
          rw [List.take_length, HF.out]
          rfl
        go_wp2
        go_ret
        exact ⟨by rw [HE.out]; rfl, HB.out⟩
end Go.Proofs.Ytiodolbgapjmkaa
