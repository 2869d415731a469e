/- slices.Compare of two lists of ints, and the order that it tells. Conditions: lengths. -/
import Derived.Test.YtiodolbgapjmkaaLater
import Derived.Test.YtiodolbgapjmkaaRowApp
import Derived.Test.YtiodolbgapjmkaaShelf
import Derived.Shelf.SlSortCmp.Whole1
namespace Go.Proofs.Ytiodolbgapjmkaa
open Go.RowKit Go.Lib Go.Sort
set_option maxRecDepth 100000
set_option linter.unusedVariables false
set_option linter.unusedSimpArgs false

/-- The order of lists, number by number. -/
def cmpL : List Int → List Int → Int
  | [], [] => 0
  | [], _ :: _ => -1
  | _ :: _, [] => 1
  | x :: xs, y :: ys => if compareInt x y = 0 then cmpL xs ys else compareInt x y
theorem cmpInt_lt (x y : Int) : compareInt x y < 0 ↔ x < y := by
  unfold compareInt
  by_cases h1 : x < y
  · simp [h1]
  · by_cases h2 : y < x <;> simp [h1, h2]
theorem cmpInt_eq (x y : Int) : compareInt x y = 0 ↔ x = y := by
  unfold compareInt
  by_cases h1 : x < y
  · simp [h1]; omega
  · by_cases h2 : y < x
    · simp [h1, h2]; omega
    · simp [h1, h2]; omega
def ltL : List Int → List Int → Prop
  | [], [] => False
  | [], _ :: _ => True
  | _ :: _, [] => False
  | x :: xs, y :: ys => x < y ∨ (x = y ∧ ltL xs ys)
theorem cmpL_lt : ∀ xs ys : List Int, cmpL xs ys < 0 ↔ ltL xs ys
  | [], [] => by simp [cmpL, ltL]
  | [], _ :: _ => by simp [cmpL, ltL]
  | _ :: _, [] => by simp [cmpL, ltL]
  | x :: xs, y :: ys => by
    unfold cmpL ltL
    by_cases h : compareInt x y = 0
    · rw [if_pos h, cmpL_lt xs ys]
      have := (cmpInt_eq x y).1 h
      subst this
      simp
    · rw [if_neg h, cmpInt_lt]
      have h2 : ¬ x = y := fun e => h ((cmpInt_eq x y).2 e)
      simp [h2]
theorem ltL_irrefl : ∀ xs : List Int, ¬ ltL xs xs
  | [], h => h
  | x :: xs, h => h.elim (by omega) fun q => ltL_irrefl xs q.2
theorem ltL_trans : ∀ xs ys zs : List Int, ltL xs ys → ltL ys zs → ltL xs zs
  | [], [], _, h, _ => h.elim
  | [], _ :: _, [], _, h => h.elim
  | [], _ :: _, _ :: _, _, _ => trivial
  | _ :: _, [], _, h, _ => h.elim
  | _ :: _, _ :: _, [], _, h => h.elim
  | x :: xs, y :: ys, z :: zs, h, k => by
    rcases h with h | ⟨rfl, h⟩
    · rcases k with k | ⟨rfl, k⟩
      · exact .inl (by omega)
      · exact .inl h
    · rcases k with k | ⟨rfl, k⟩
      · exact .inl k
      · exact .inr ⟨rfl, ltL_trans xs ys zs h k⟩
theorem ltL_tri : ∀ xs ys : List Int, ltL xs ys ∨ xs = ys ∨ ltL ys xs
  | [], [] => .inr (.inl rfl)
  | [], _ :: _ => .inl trivial
  | _ :: _, [] => .inr (.inr trivial)
  | x :: xs, y :: ys => by
    rcases (by omega : x < y ∨ x = y ∨ y < x) with h | h | h
    · exact .inl (.inl h)
    · subst h
      rcases ltL_tri xs ys with h | h | h
      · exact .inl (.inr ⟨rfl, h⟩)
      · exact .inr (.inl (by rw [h]))
      · exact .inr (.inr (.inr ⟨rfl, h⟩))
    · exact .inr (.inr (.inl h))
/-- Numbered lists, in the order of the lists, are a strict weak order. -/
theorem swoL (f : Nat → List Int) : SWO (ltOf fun i j => cmpL (f i) (f j)) where
  irrefl x := by
    unfold ltOf
    have := ltL_irrefl (f x)
    rw [decide_eq_false_iff_not, cmpL_lt]
    exact this
  trans x y z h1 h2 := by
    unfold ltOf at *
    rw [decide_eq_true_eq, cmpL_lt] at *
    exact ltL_trans _ _ _ h1 h2
  ntrans x y z h1 h2 := by
    unfold ltOf at *
    rw [decide_eq_false_iff_not, cmpL_lt] at *
    intro h
    rcases ltL_tri (f x) (f y) with q | q | q
    · exact h1 q
    · rw [q] at h; exact h2 h
    · exact h2 (ltL_trans _ _ _ q h)
set_option maxHeartbeats 4000000 in
theorem Compare_c (lo hi lo2 hi2 : Nat) (v u : Value) (xs ys : List Int) (w : World) (hv : IntsV w lo hi v xs) (hu : IntsV w lo2 hi2 u ys) (hlx : xs.length ≤ 100000) (hly : ys.length ≤ 100000) :
    Calls Try.prog 196 #[v, u] w fun e w' => e = .returned (.int .i64 (cmpL xs ys)) ∧ w' = w := by
  obtain ⟨ao, b, off, cap, rfl, hcap, hao, hc⟩ := hv
  obtain ⟨ao2, b2, off2, cap2, rfl, hcap2, hao2, hc2⟩ := hu
  have HC := Lib.hid hc
  have HAO := Lib.hid hao
  have HC2 := Lib.hid hc2
  have HAO2 := Lib.hid hao2
  obtain ⟨R, hR⟩ : ∃ R, R = cmpL xs ys := ⟨_, rfl⟩
  have HR : Hid (cmpL (xs.drop 0) (ys.drop 0) = R) := by show _ = _; rw [hR]; rfl
  rw [← hR]
  obtain ⟨L, hL⟩ : ∃ L, L = xs.length := ⟨_, rfl⟩
  obtain ⟨M, hM⟩ : ∃ M, M = ys.length := ⟨_, rfl⟩
  have HL := Lib.hid hL
  have HM := Lib.hid hM
  rw [← hL] at HC hcap hlx ⊢
  rw [← hM] at HC2 hcap2 hly ⊢
  clear hL hM hc hao hc2 hao2 hR
  go_enter Try.func196, Try.ntmps196
  go_wp2_with fail
  go_loopw [11] (fun i wr => ∃ k : Nat, k ≤ L ∧ k ≤ M ∧ i = .int .i64 k ∧ Hid (cmpL (xs.drop k) (ys.drop k) = R) ∧ w = wr) (fun i _ => L - (intOf i).toNat)
  case atStart => exact ⟨0, Nat.zero_le _, Nat.zero_le _, rfl, HR, rfl⟩
  case round =>
    obtain ⟨k, hk, hkm, rfl, HK, rfl⟩ := hrel
    by_cases hlt : k < L
    · have hki : (k : Int) < (L : Int) := by omega
      have hAo := (HAO.out (by omega)).1
      subst hAo
      have c1 := HC.out k (by omega)
      have hdx : xs.drop k = xs.getD k 0 :: xs.drop (k + 1) := by
        rw [List.getD_eq_getElem?_getD, List.getElem?_eq_getElem (by rw [← HL.out]; exact hlt)]
        exact List.drop_eq_getElem_cons (by rw [← HL.out]; exact hlt)
      obtain ⟨x, hx⟩ : ∃ x, x = xs.getD k 0 := ⟨_, rfl⟩
      rw [← hx] at c1 hdx
      have HDX := Lib.hid hdx
      clear hx hdx
      by_cases hlm : k < M
      · have hkm1 : ¬ (M : Int) ≤ (k : Int) := by omega
        have hkm2 : (k : Int) < (M : Int) := by omega
        have hAo2 := (HAO2.out (by omega)).1
        subst hAo2
        have c2 := HC2.out k (by omega)
        have hdy : ys.drop k = ys.getD k 0 :: ys.drop (k + 1) := by
          rw [List.getD_eq_getElem?_getD, List.getElem?_eq_getElem (by rw [← HM.out]; exact hlm)]
          exact List.drop_eq_getElem_cons (by rw [← HM.out]; exact hlm)
        obtain ⟨y, hy⟩ : ∃ y, y = ys.getD k 0 := ⟨_, rfl⟩
        rw [← hy] at c2 hdy
        have HST : Hid ((if compareInt x y = 0 then cmpL (xs.drop (k + 1)) (ys.drop (k + 1)) else compareInt x y) = R) := by
          show _ = _
          rw [← HK.out, HDX.out, hdy]
          rfl
        have HCC := Lib.hid (Try.cmp_Compare_int x y w)
        obtain ⟨z, hz⟩ : ∃ z, z = compareInt x y := ⟨_, rfl⟩
        rw [← hz] at HST HCC
        clear hy hdy hz HK
        by_cases h0 : z = 0
        · have HSA : Hid (cmpL (xs.drop (k + 1)) (ys.drop (k + 1)) = R) := by
            have := HST.out
            rwa [if_pos h0] at this
          subst h0
          go_wp2_with ((with_reducible refine HCC.out.mono ?_); rintro e w' ⟨rfl, hw⟩; obtain rfl := hw.symm)
          go_roundw
          case rel => exact ⟨k + 1, by omega, by omega, by go_num, HSA, trivial⟩
          case measure => simp [intOf]; omega
        · have t0 : (z != 0) = true := by simp [h0]
          have HSA : Hid (z = R) := by
            have := HST.out
            rwa [if_neg h0] at this
          go_wp2_with ((with_reducible refine HCC.out.mono ?_); rintro e w' ⟨rfl, hw⟩; obtain rfl := hw.symm)
          go_ret
          exact ⟨by rw [HSA.out]; rfl, rfl⟩
      · have hkm1 : (M : Int) ≤ (k : Int) := by omega
        have HE : Hid (R = 1) := by
          show _ = _
          rw [← HK.out, HDX.out, show ys.drop k = [] from List.drop_of_length_le (by rw [← HM.out]; omega)]
          rfl
        go_wp2
        go_ret
        exact ⟨by rw [HE.out]; rfl, rfl⟩
    · have hki : ¬ (k : Int) < (L : Int) := by omega
      by_cases hlm : k < M
      · have hLM : (L : Int) < (M : Int) := by omega
        have HE : Hid (R = -1) := by
          show _ = _
          rw [← HK.out, show xs.drop k = [] from List.drop_of_length_le (by rw [← HL.out]; omega), List.drop_eq_getElem_cons (by rw [← HM.out]; exact hlm)]
          rfl
        go_wp2
        go_ret
        exact ⟨by rw [HE.out]; rfl, rfl⟩
      · have hLM : ¬ (L : Int) < (M : Int) := by omega
        have HE : Hid (R = 0) := by
          show _ = _
          rw [← HK.out, show xs.drop k = [] from List.drop_of_length_le (by rw [← HL.out]; omega), show ys.drop k = [] from List.drop_of_length_le (by rw [← HM.out]; omega)]
          rfl
        go_wp2
        go_ret
        exact ⟨by rw [HE.out]; rfl, rfl⟩
end Go.Proofs.Ytiodolbgapjmkaa
