/- The reference's tests on lists of masks, by their contracts. Conditions: none but lengths. -/
import Derived.Test.YtiodolbgapjmkaaLater
import Derived.Test.YtiodolbgapjmkaaRowApp
namespace Go.Proofs.Ytiodolbgapjmkaa
open Go.RowKit
set_option maxRecDepth 100000
set_option linter.unusedVariables false
set_option linter.unusedSimpArgs false

def hasX (ys : List Int) (x : Int) : Bool := ys.any fun y => x == y
def withinB (xs ys : List Int) : Bool := xs.all (hasX ys)
theorem hasX_snoc (ys : List Int) (x : Int) (j : Nat) (hj : j < ys.length) : hasX (ys.take (j + 1)) x = (hasX (ys.take j) x || (x == ys.getD j 0)) := by
  unfold hasX
  rw [take_snoc_getD 0 hj, List.any_append]
  simp
theorem within_snoc (xs ys : List Int) (k : Nat) (hk : k < xs.length) : withinB (xs.take (k + 1)) ys = (withinB (xs.take k) ys && hasX ys (xs.getD k 0)) := by
  unfold withinB
  rw [take_snoc_getD 0 hk, List.all_append]
  simp
set_option maxHeartbeats 4000000 in
theorem IsWithin_c (lo hi lo2 hi2 : Nat) (v u : Value) (xs ys : List Int) (w : World) (hv : IntsV w lo hi v xs) (hu : IntsV w lo2 hi2 u ys) (hlx : xs.length ≤ 100000) (hly : ys.length ≤ 100000) :
    Calls Try.prog 214 #[v, u] w fun e w' => e = .returned (.bool (withinB xs ys)) ∧ w' = w := by
  obtain ⟨ao, b, off, cap, rfl, hcap, hao, hc⟩ := hv
  obtain ⟨ao2, b2, off2, cap2, rfl, hcap2, hao2, hc2⟩ := hu
  have HC := Lib.hid hc
  have HAO := Lib.hid hao
  have HC2 := Lib.hid hc2
  have HAO2 := Lib.hid hao2
  obtain ⟨L, hL⟩ : ∃ L, L = xs.length := ⟨_, rfl⟩
  obtain ⟨M, hM⟩ : ∃ M, M = ys.length := ⟨_, rfl⟩
  have HL := Lib.hid hL
  have HM := Lib.hid hM
  rw [← hL] at HC hcap hlx ⊢
  rw [← hM] at HC2 hcap2 hly ⊢
  clear hL hM hc hao hc2 hao2
  go_enter Try.func214, Try.ntmps214
  go_wp2_with fail
  go_loopw [12] (fun i wr => ∃ k : Nat, k ≤ L ∧ i = .int .i64 k ∧ Hid (withinB (xs.take k) ys = true) ∧ w = wr) (fun i _ => L - (intOf i).toNat)
  case atStart => exact ⟨0, Nat.zero_le _, rfl, by show withinB [] ys = true; rfl, rfl⟩
  case round =>
    obtain ⟨k, hk, rfl, HW, rfl⟩ := hrel
    by_cases hlt : k < L
    · have hki : (k : Int) < (L : Int) := by omega
      have hAo := (HAO.out (by omega)).1
      subst hAo
      have c1 := HC.out k (by omega)
      obtain ⟨x, hx⟩ : ∃ x, x = xs.getD k 0 := ⟨_, rfl⟩
      rw [← hx] at c1
      have HX := Lib.hid hx
      clear hx
      go_wp2_with fail
      go_loopw [7, 18] (fun f j wr => ∃ q : Nat, q ≤ M ∧ j = .int .i64 q ∧ f = .bool (hasX (ys.take q) x) ∧ w = wr) (fun _ j _ => M - (intOf j).toNat)
      case atStart => exact ⟨0, Nat.zero_le _, rfl, rfl, rfl⟩
      case round =>
        obtain ⟨q, hq, rfl, rfl, rfl⟩ := hrel
        obtain ⟨f, hf⟩ : ∃ f, f = hasX (ys.take q) x := ⟨_, rfl⟩
        rw [← hf]
        have HF := Lib.hid hf
        clear hf
        by_cases hlt2 : q < M
        · have hqi : (q : Int) < (M : Int) := by omega
          have hAo2 := (HAO2.out (by omega)).1
          subst hAo2
          have c2 := HC2.out q (by omega)
          have hs := hasX_snoc ys x q (by rw [← HM.out]; exact hlt2)
          obtain ⟨y, hy⟩ : ∃ y, y = ys.getD q 0 := ⟨_, rfl⟩
          rw [← hy] at c2 hs
          rw [← HF.out] at hs
          have HS := Lib.hid hs
          clear hy hs
          cases hxy : (x == y)
          · have hne : ¬ x = y := by simpa using hxy
            have HXY := Lib.hid hxy
            cases f
            · go_wp2_with fail
              go_roundw
              case rel => exact ⟨q + 1, by omega, by go_num, by rw [HS.out, HXY.out]; rfl, trivial⟩
              case measure => simp [intOf]; omega
            · go_wp2_with fail
              go_roundw
              case rel => exact ⟨q + 1, by omega, by go_num, by rw [HS.out, HXY.out]; rfl, trivial⟩
              case measure => simp [intOf]; omega
          · have he : x = y := by simpa using hxy
            have HXY := Lib.hid hxy
            cases f
            · go_wp2_with fail
              go_roundw
              case rel => exact ⟨q + 1, by omega, by go_num, by rw [HS.out, HXY.out]; rfl, trivial⟩
              case measure => simp [intOf]; omega
            · go_wp2_with fail
              go_roundw
              case rel => exact ⟨q + 1, by omega, by go_num, by rw [HS.out, HXY.out]; rfl, trivial⟩
              case measure => simp [intOf]; omega
        · have hqi : ¬ (q : Int) < (M : Int) := by omega
          have HT : Hid (f = hasX ys x) := by show _ = _; rw [HF.out, List.take_of_length_le (by rw [← HM.out]; omega)]
          have HN := Lib.hid (within_snoc xs ys k (by rw [← HL.out]; exact hlt))
          cases f
          · go_wp2
            go_ret
            refine ⟨?_, rfl⟩
            have : withinB xs ys = false := by
              unfold withinB
              rw [List.all_eq_false]
              refine ⟨x, ?_, by rw [← HT.out]; simp⟩
              rw [HX.out, List.getD_eq_getElem?_getD, List.getElem?_eq_getElem (by rw [← HL.out]; exact hlt)]
              exact List.getElem_mem _
            rw [this]; rfl
          · go_wp2_with fail
            go_roundw
            case rel => exact ⟨k + 1, by omega, by go_num, by show _ = true; rw [HN.out, HW.out, ← HX.out, ← HT.out]; rfl, trivial⟩
            case measure => simp [intOf]; omega
    · have hki : ¬ (k : Int) < (L : Int) := by omega
      have HT : Hid (withinB xs ys = true) := by
        show _ = _
        have := HW.out
        rwa [List.take_of_length_le (by rw [← HL.out]; omega)] at this
      go_wp2
      go_ret
      exact ⟨by rw [HT.out]; rfl, rfl⟩
/-- One list of masks is another, as the reference tells it. -/
def sameL (xs ys : List Int) : Bool := decide (xs.length = ys.length) && withinB xs ys
set_option maxHeartbeats 4000000 in
theorem l12Has_c (lo hi lo2 hi2 : Nat) (v : Value) (vs : List Value) (xss : List (List Int)) (u : Value) (ys : List Int) (w : World) (hv : RowsV w lo hi v vs xss) (hu : IntsV w lo2 hi2 u ys) (hlx : xss.length ≤ 100000) (hrl : ∀ r ∈ xss, r.length ≤ 100000) (hly : ys.length ≤ 100000) :
    Calls Try.prog 192 #[v, u] w fun e w' => e = .returned (.bool (xss.any fun r => sameL r ys)) ∧ w' = w := by
  have HU := Lib.hid hu
  obtain ⟨ao2, b2, off2, cap2, rfl, hcap2, hao2, hc2⟩ := hu
  obtain ⟨ao, b, off, cap, rfl, hcap, hvl, hao, hc⟩ := hv
  have HC := Lib.hid hc
  have HAO := Lib.hid hao
  have HRL := Lib.hid hrl
  obtain ⟨L, hL⟩ : ∃ L, L = xss.length := ⟨_, rfl⟩
  obtain ⟨M, hM⟩ : ∃ M, M = ys.length := ⟨_, rfl⟩
  have HL := Lib.hid hL
  have HM := Lib.hid hM
  rw [← hL] at HC HAO hcap hlx ⊢
  rw [← hM] at HU hcap2 hly ⊢
  clear hL hM hc hao hc2 hao2 hrl
  go_enter Try.func192, Try.ntmps192
  go_wp2_with fail
  go_loopw [9] (fun i wr => ∃ k : Nat, k ≤ L ∧ i = .int .i64 k ∧ Hid ((xss.take k).any (fun r => sameL r ys) = false) ∧ w = wr) (fun i _ => L - (intOf i).toNat)
  case atStart => exact ⟨0, Nat.zero_le _, rfl, rfl, rfl⟩
  case round =>
    obtain ⟨k, hk, rfl, HW, rfl⟩ := hrel
    by_cases hlt : k < L
    · have hki : (k : Int) < (L : Int) := by omega
      have hAo := (HAO.out (by omega)).1
      subst hAo
      obtain ⟨c1, r1⟩ := HC.out k hlt
      have hmem : xss.getD k [] ∈ xss := by rw [List.getD_eq_getElem?_getD, List.getElem?_eq_getElem (by rw [← HL.out]; exact hlt)]; exact List.getElem_mem _
      obtain ⟨r, hr⟩ : ∃ r, r = xss.getD k [] := ⟨_, rfl⟩
      have hstep : (xss.take (k + 1)).any (fun r => sameL r ys) = sameL r ys := by
        rw [take_snoc_getD [] (by rw [← HL.out]; exact hlt), List.any_append, HW.out, hr]
        simp
      have HST := Lib.hid hstep
      rw [← hr] at r1 hmem
      have HMEM := Lib.hid hmem
      have hrl2 := HRL.out r hmem
      have HCW : Hid (Calls Try.prog 214 #[vs.getD k undef, .slice ao2 M cap2] w fun e w' => e = .returned (.bool (withinB r ys)) ∧ w' = w) := IsWithin_c lo hi lo2 hi2 _ _ r ys w r1 HU.out hrl2 (by rw [← HM.out]; exact hly)
      obtain ⟨ao3, b3, off3, cap3, e3, -, -, -⟩ := r1
      obtain ⟨N, hN⟩ : ∃ N, N = r.length := ⟨_, rfl⟩
      rw [← hN] at e3
      rw [e3] at c1 HCW
      obtain ⟨z, hz⟩ : ∃ z, z = withinB r ys := ⟨_, rfl⟩
      have HZ := Lib.hid hz
      rw [← hz] at HCW
      have HN := Lib.hid hN
      clear hz hN hr hstep hmem e3
      have hnext : Hid (sameL r ys = true → xss.any (fun r => sameL r ys) = true) := fun h => List.any_eq_true.2 ⟨r, HMEM.out, h⟩
      by_cases hl : N = M
      · have t1 : ((N : Int) == (M : Int)) = true := by simp [hl]
        have HS : Hid (sameL r ys = z) := by show _ = _; unfold sameL; rw [← HN.out, ← HM.out, decide_eq_true hl, Bool.true_and, HZ.out]
        clear hl
        cases z
        · go_wp2_with (refine HCW.out.mono ?_; rintro e w' ⟨rfl, rfl⟩)
          go_roundw
          case rel => exact ⟨k + 1, by omega, by go_num, by show _ = _; rw [HST.out, HS.out], trivial⟩
          case measure => simp [intOf]; omega
        · go_wp2_with (refine HCW.out.mono ?_; rintro e w' ⟨rfl, rfl⟩)
          go_ret
          exact ⟨by rw [hnext.out HS.out]; rfl, rfl⟩
      · have t1 : ((N : Int) == (M : Int)) = false := by simp; omega
        have HS : Hid (sameL r ys = false) := by show _ = _; unfold sameL; rw [← HN.out, ← HM.out, decide_eq_false hl, Bool.false_and]
        clear hl
        go_wp2_with fail
        go_roundw
        case rel => exact ⟨k + 1, by omega, by go_num, by show _ = _; rw [HST.out, HS.out], trivial⟩
        case measure => simp [intOf]; omega
    · have hki : ¬ (k : Int) < (L : Int) := by omega
      have HT : Hid (xss.any (fun r => sameL r ys) = false) := by
        show _ = _
        have := HW.out
        rwa [List.take_of_length_le (by rw [← HL.out]; omega)] at this
      go_wp2
      go_ret
      exact ⟨by rw [HT.out]; rfl, rfl⟩
/-- A call that tells something and leaves memory. -/
def TellC (w : World) (e : Ending) (w' : World) : Prop := ∃ b, e = .returned (.bool b) ∧ w' = w
set_option maxHeartbeats 4000000 in
/-- It tells something, and leaves memory. -/
theorem l12Less_c (lo hi lo2 hi2 : Nat) (v u : Value) (xs ys : List Int) (w : World) (hv : IntsV w lo hi v xs) (hu : IntsV w lo2 hi2 u ys) (hlx : xs.length ≤ 100000) (hly : ys.length ≤ 100000) :
    Calls Try.prog 193 #[v, u] w (TellC w) := by
  obtain ⟨ao, b, off, cap, rfl, hcap, hao, hc⟩ := hv
  obtain ⟨ao2, b2, off2, cap2, rfl, hcap2, hao2, hc2⟩ := hu
  have HC := Lib.hid hc
  have HAO := Lib.hid hao
  have HC2 := Lib.hid hc2
  have HAO2 := Lib.hid hao2
  obtain ⟨L, hL⟩ : ∃ L, L = xs.length := ⟨_, rfl⟩
  obtain ⟨M, hM⟩ : ∃ M, M = ys.length := ⟨_, rfl⟩
  rw [← hL] at HC hcap hlx ⊢
  rw [← hM] at HC2 hcap2 hly ⊢
  clear hL hM hc hao hc2 hao2
  go_enter Try.func193, Try.ntmps193
  go_wp2_with fail
  go_loopw [9] (fun i wr => ∃ k : Nat, k ≤ L ∧ i = .int .i64 k ∧ w = wr) (fun i _ => L - (intOf i).toNat)
  case atStart => exact ⟨0, Nat.zero_le _, rfl, rfl⟩
  case round =>
    obtain ⟨k, hk, rfl, rfl⟩ := hrel
    by_cases hlt : k < L
    · have hki : (k : Int) < (L : Int) := by omega
      have hAo := (HAO.out (by omega)).1
      subst hAo
      have c1 := HC.out k (by omega)
      obtain ⟨x, hx⟩ : ∃ x, x = xs.getD k 0 := ⟨_, rfl⟩
      rw [← hx] at c1
      clear hx
      by_cases hlm : k < M
      · have hkm : ¬ (M : Int) ≤ (k : Int) := by omega
        have hkm2 : (k : Int) < (M : Int) := by omega
        have hAo2 := (HAO2.out (by omega)).1
        subst hAo2
        have c2 := HC2.out k (by omega)
        obtain ⟨y, hy⟩ : ∃ y, y = ys.getD k 0 := ⟨_, rfl⟩
        rw [← hy] at c2
        clear hy
        cases hxy : (x != y)
        · go_wp2_with fail
          go_roundw
          case rel => exact ⟨k + 1, by omega, by go_num, trivial⟩
          case measure => simp [intOf]; omega
        · go_wp2
          go_ret
          exact ⟨_, rfl, rfl⟩
      · have hkm : (M : Int) ≤ (k : Int) := by omega
        go_wp2
        go_ret
        exact ⟨_, rfl, rfl⟩
    · have hki : ¬ (k : Int) < (L : Int) := by omega
      go_wp2
      go_ret
      exact ⟨_, rfl, rfl⟩
end Go.Proofs.Ytiodolbgapjmkaa
