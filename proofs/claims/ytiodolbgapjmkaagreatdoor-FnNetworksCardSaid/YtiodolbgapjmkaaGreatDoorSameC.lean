/- Whether two networks are the same: the program's test, by its contract. Conditions: both networks are valid. -/
import Derived.Test.YtiodolbgapjmkaaGreatDoorNetOk
import Derived.Test.YtiodolbgapjmkaaGreatDoorNetBits
import Derived.Test.YtiodolbgapjmkaaGreatDoorMaskL
import Derived.Test.YtiodolbgapjmkaaGreatDoorLater
import Derived.Test.YtiodolbgapjmkaaGreatDoorShelf
namespace Go.Proofs.YtiodolbgapjmkaaGreatDoor
open Go.RowKit
set_option maxRecDepth 100000
set_option linter.unusedVariables false
set_option linter.unusedSimpArgs false

theorem take_eq_succ {α : Type} [DecidableEq α] {xs ys : List α} {k : Nat} (d : α) (h : xs.take k = ys.take k) (hx : k < xs.length) (hy : k < ys.length) (he : xs.getD k d = ys.getD k d) : xs.take (k + 1) = ys.take (k + 1) := by
  rw [take_snoc_getD d hx, take_snoc_getD d hy, h, he]
theorem below_drewN {B : Nat} {w0 w : World} (h : Below B w0 w) (q : Nat) : Below B w0 (w.drewN q) := ⟨h.os, h.tape, h.output, h.size, h.block⟩
set_option maxHeartbeats 1000000 in
theorem EqualFunc_c (n m : Nat) (lo hi lo2 hi2 : Nat) (v u : Value) (vs us : List Value) (xss yss : List (List Int)) (w : World) (hv : OwnR w lo hi v vs xss) (hhi : hi ≤ w.heap.size) (hx : netOk n xss = true) (hu : OwnR w lo2 hi2 u us yss) (hhi2 : hi2 ≤ w.heap.size) (hy : netOk m yss = true) :
    Calls Tryz.prog 45 #[v, u, .func (.func 46) #[] #[]] w fun e w' => e = .returned (.bool (decide (xss = yss))) ∧ Below w.heap.size w w' := by
  have HPX := Lib.hid (netOk_pair hx)
  have HPY := Lib.hid (netOk_pair hy)
  have hlx := netOk_len hx
  have hly := netOk_len hy
  obtain ⟨ao, g, cap, A, G, C, rfl, hcap, hao, hrow⟩ := hv.view
  obtain ⟨bo, h, cap2, B, H, D, rfl, hcap2, hbo, hrow2⟩ := hu.view
  have HRX := Lib.hid hrow
  have HRY := Lib.hid hrow2
  obtain ⟨L, hL⟩ : ∃ L, L = xss.length := ⟨_, rfl⟩
  obtain ⟨M, hM⟩ : ∃ M, M = yss.length := ⟨_, rfl⟩
  have HL := Lib.hid hL
  have HM := Lib.hid hM
  rw [← hL] at hlx hcap hao HRX HPX ⊢
  rw [← hM] at hly hcap2 hbo HRY HPY ⊢
  obtain ⟨RES, hRES⟩ : ∃ R, R = decide (xss = yss) := ⟨_, rfl⟩
  have HRES := Lib.hid hRES
  rw [← hRES]
  have eg : ∀ (args : Array Value) (w : World), (callFunc 46 args).run Tryz.prog w = .ok (.enter 46 args) w := fun args w => by kernel_rfl
  clear hv hu hrow hrow2 hL hM hRES
  by_cases hLM : L = M
  · subst hLM
    have hne : ((L : Int) != (L : Int)) = false := by simp
    go_enter Tryz.func45, Tryz.ntmps45
    go_wp2_with fail
    go_loopw [17] (fun t wr => ∃ k : Nat, k ≤ L ∧ t = .int .i64 k ∧ Hid (xss.take k = yss.take k) ∧ Below w.heap.size w wr) (fun t _ => L - (intOf t).toNat)
    case atStart => exact ⟨0, Nat.zero_le _, rfl, by show _ = _; simp, Below.refl _ _⟩
    case round =>
      obtain ⟨k, hk, rfl, HT, hb⟩ := hrel
      have HB := Lib.hid hb
      have hz := hb.size
      by_cases hlt : k < L
      · have hki : (k : Int) < (L : Int) := by omega
        obtain ⟨i, j, hr, -, -, -⟩ := HPX.out k hlt
        obtain ⟨i2, j2, hr2, -, -, -⟩ := HPY.out k hlt
        obtain ⟨p1, p2, p3, p4⟩ := HRX.out k hlt
        obtain ⟨q1, q2, q3, q4⟩ := HRY.out k hlt
        obtain ⟨ha0, hg1, hg2⟩ := hao (by omega)
        obtain ⟨hb0, hh1, hh2⟩ := hbo (by omega)
        subst ha0
        subst hb0
        rw [hr] at p1 p2 p3 p4
        rw [hr2] at q1 q2 q3 q4
        obtain ⟨ea, p5, p6⟩ := p3 (by simp)
        obtain ⟨eb, q5, q6⟩ := q3 (by simp)
        rw [ea] at p1
        rw [eb] at q1
        have e2 : ∀ a b : Int, ([a, b] : List Int).length = 2 := fun _ _ => rfl
        rw [e2] at p1 q1
        have c1 := (hb.cell (p := ⟨g, k, none⟩) (by show g < _; omega)).trans p1
        have c2 := (hb.cell (p := ⟨h, k, none⟩) (by show h < _; omega)).trans q1
        have HE := Lib.hid (Tryz.slices_Equal_int (G k) 0 2 (C k) (H k) 0 2 (D k) [(i : Int), (j : Int)] [(i2 : Int), (j2 : Int)] wr (by simp) (by simp) (by omega) (by omega)
          (fun t ht => by rw [Nat.zero_add]; exact (hb.cell (p := ⟨G k, t, none⟩) (by show G k < _; omega)).trans (p4 t ht))
          (fun t ht => by rw [Nat.zero_add]; exact (hb.cell (p := ⟨H k, t, none⟩) (by show H k < _; omega)).trans (q4 t ht)))
        have hkx : k < xss.length := by rw [← HL.out]; exact hlt
        have hky : k < yss.length := by rw [← HM.out]; exact hlt
        have eb2 : (([(i : Int), (j : Int)].take 2) == ([(i2 : Int), (j2 : Int)].take 2)) = decide (xss.getD k [] = yss.getD k []) := by rw [hr, hr2, Bool.eq_iff_iff]; simp
        rw [eb2] at HE
        clear p1 p2 p3 p4 q1 q2 q3 q4 ea eb hr hr2 eb2 hb
        by_cases heq : xss.getD k [] = yss.getD k []
        · rw [decide_eq_true heq] at HE
          have HT2 : Hid (xss.take (k + 1) = yss.take (k + 1)) := take_eq_succ [] HT.out hkx hky heq
          go_wp2_with (go_at_call 46; refine HE.out.mono ?_; rintro e w' ⟨rfl, q, rfl⟩)
          go_roundw
          case rel => exact ⟨k + 1, by omega, by go_num, HT2, below_drewN HB.out q⟩
          case measure => simp [intOf]; omega
        · rw [decide_eq_false heq] at HE
          have HR : Hid (RES = false) := by
            show _ = _
            rw [HRES.out]
            exact decide_eq_false fun e => heq (by rw [e])
          go_wp2_with (go_at_call 46; refine HE.out.mono ?_; rintro e w' ⟨rfl, q, rfl⟩)
          go_ret
          exact ⟨by rw [HR.out]; rfl, below_drewN HB.out q⟩
      · have hki : ¬ (k : Int) < (L : Int) := by omega
        have HR : Hid (RES = true) := by
          show _ = _
          rw [HRES.out]
          have h := HT.out
          rw [List.take_of_length_le (by rw [← HL.out]; omega), List.take_of_length_le (by rw [← HM.out]; omega)] at h
          exact decide_eq_true h
        go_wp2
        go_ret
        exact ⟨by rw [HR.out]; rfl, HB.out⟩
  · have hne : ((L : Int) != (M : Int)) = true := by simp; omega
    have HR : Hid (RES = false) := by
      show _ = _
      rw [HRES.out]
      exact decide_eq_false fun e => hLM (by rw [HL.out, HM.out, e])
    go_enter Tryz.func45, Tryz.ntmps45
    go_wp2
    go_ret
    exact ⟨by rw [HR.out]; rfl, Below.refl _ _⟩
set_option maxHeartbeats 1000000 in
theorem SameNetwork_y (n m : Nat) (lo hi lo2 hi2 : Nat) (v u : Value) (vs us : List Value) (xss yss : List (List Int)) (w : World) (hv : OwnR w lo hi v vs xss) (hhi : hi ≤ w.heap.size) (hx : netOk n xss = true) (hu : OwnR w lo2 hi2 u us yss) (hhi2 : hi2 ≤ w.heap.size) (hy : netOk m yss = true) :
    Calls Tryz.prog 19 #[.agg #[.int .i64 n, v], .agg #[.int .i64 m, u]] w fun e w' => e = .returned (.bool (decide (n = m) && decide (xss = yss))) ∧ Below w.heap.size w w' := by
  have HC : Hid (∀ w1, Below w.heap.size w w1 → Calls Tryz.prog 22 #[.agg #[.int .i64 n, v]] w1 fun e w' => e = .returned (.bool true) ∧ Below w1.heap.size w1 w') := fun w1 h1 => by
    have := NetworkOk_c n lo hi v vs xss w1 (hv.below h1 hhi) (by have := h1.size; omega)
    rwa [hx] at this
  have HD : Hid (∀ w1, Below w.heap.size w w1 → Calls Tryz.prog 22 #[.agg #[.int .i64 m, u]] w1 fun e w' => e = .returned (.bool true) ∧ Below w1.heap.size w1 w') := fun w1 h1 => by
    have := NetworkOk_c m lo2 hi2 u us yss w1 (hu.below h1 hhi2) (by have := h1.size; omega)
    rwa [hy] at this
  have HE : Hid (∀ w1, Below w.heap.size w w1 → Calls Tryz.prog 45 #[v, u, .func (.func 46) #[] #[]] w1 fun e w' => e = .returned (.bool (decide (xss = yss))) ∧ Below w1.heap.size w1 w') := fun w1 h1 =>
    EqualFunc_c n m lo hi lo2 hi2 v u vs us xss yss w1 (hv.below h1 hhi) (by have := h1.size; omega) hx (hu.below h1 hhi2) (by have := h1.size; omega) hy
  obtain ⟨ao, g, cap, rfl, -, -, -⟩ := hv.rows
  obtain ⟨bo, h, cap2, rfl, -, -, -⟩ := hu.rows
  obtain ⟨L, hL⟩ : ∃ L, L = xss.length := ⟨_, rfl⟩
  obtain ⟨M, hM⟩ : ∃ M, M = yss.length := ⟨_, rfl⟩
  rw [← hL] at HC HE ⊢
  rw [← hM] at HD HE ⊢
  obtain ⟨RES, hRES⟩ : ∃ R, R = decide (xss = yss) := ⟨_, rfl⟩
  rw [← hRES] at HE ⊢
  clear hv hu hL hM hRES hx hy
  by_cases hnm : n = m
  · subst hnm
    have hne : ((n : Int) == (n : Int)) = true := by simp
    have HF : Hid ((decide (n = n) && RES) = RES) := by show _ = _; simp
    go_enter Tryz.func19, Tryz.ntmps19
    go_wp2_with fail
    obtain ⟨W1, hW1, c0, c1, hsz, hB1, -, -⟩ := box2 w (.int .i64 n) (.slice ao L cap) 25
    rw [hW1]
    clear hW1
    obtain ⟨W2, hW2, d0, d1, hsz2, hB2, -, -⟩ := box2 W1 (.int .i64 n) (.slice bo M cap2) 25
    rw [hW2]
    clear hW2
    obtain ⟨c0, c1, hz0⟩ := boxC hB2 (by omega) c0 c1
    rw [hsz] at d0 d1
    have hB3 : Below w.heap.size w W2 := hB1.trans (hB2.mono (by omega))
    refine (HC.out W2 hB3).mono ?_
    rintro e w3 ⟨rfl, b3⟩
    obtain ⟨c0, c1, hz0⟩ := boxC b3 (by omega) c0 c1
    obtain ⟨d0, d1, hz1⟩ := boxC b3 (by omega) d0 d1
    have hB4 := hB3.trans (b3.mono (by omega))
    clear b3 hB3 hB2 hB1
    go_wp2_with fail
    refine (HD.out w3 hB4).mono ?_
    rintro e w4 ⟨rfl, b4⟩
    obtain ⟨c0, c1, hz0⟩ := boxC b4 hz0 c0 c1
    obtain ⟨d0, d1, hz1⟩ := boxC b4 hz1 d0 d1
    have hB5 := hB4.trans (b4.mono hB4.size)
    clear b4 hB4
    go_wp2_with fail
    refine (HE.out w4 hB5).mono ?_
    rintro e w5 ⟨rfl, b5⟩
    have B5 := Lib.hid (hB5.trans (b5.mono hB5.size))
    clear b5 hB5 c0 c1 d0 d1
    go_wp2
    go_ret
    exact ⟨by rw [HF.out]; rfl, B5.out⟩
  · have hne : ((n : Int) == (m : Int)) = false := by simp; omega
    have HF : Hid ((decide (n = m) && RES) = false) := by show _ = _; simp [hnm]
    go_enter Tryz.func19, Tryz.ntmps19
    go_wp2_with fail
    obtain ⟨W1, hW1, c0, c1, hsz, hB1, -, -⟩ := box2 w (.int .i64 n) (.slice ao L cap) 25
    rw [hW1]
    clear hW1
    obtain ⟨W2, hW2, d0, d1, hsz2, hB2, -, -⟩ := box2 W1 (.int .i64 m) (.slice bo M cap2) 25
    rw [hW2]
    clear hW2
    obtain ⟨c0, c1, hz0⟩ := boxC hB2 (by omega) c0 c1
    rw [hsz] at d0 d1
    have hB3 : Below w.heap.size w W2 := hB1.trans (hB2.mono (by omega))
    refine (HC.out W2 hB3).mono ?_
    rintro e w3 ⟨rfl, b3⟩
    obtain ⟨c0, c1, hz0⟩ := boxC b3 (by omega) c0 c1
    obtain ⟨d0, d1, hz1⟩ := boxC b3 (by omega) d0 d1
    have hB4 := hB3.trans (b3.mono (by omega))
    clear b3 hB3 hB2 hB1
    go_wp2_with fail
    refine (HD.out w3 hB4).mono ?_
    rintro e w4 ⟨rfl, b4⟩
    obtain ⟨c0, c1, hz0⟩ := boxC b4 hz0 c0 c1
    obtain ⟨d0, d1, hz1⟩ := boxC b4 hz1 d0 d1
    have B5 := Lib.hid (hB4.trans (b4.mono hB4.size))
    clear b4 hB4
    go_wp2
    go_ret
    exact ⟨by rw [HF.out]; rfl, B5.out⟩
end Go.Proofs.YtiodolbgapjmkaaGreatDoor
