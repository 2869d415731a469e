/- A network with a fault on a mask: the functions on all arguments. Conditions: none. -/
import Derived.Test.YtiodolbgapjmkaaFaultC
namespace Go.Proofs.Ytiodolbgapjmkaa
open Go.RowKit
set_option maxRecDepth 100000

/-- Whether a fault is one. -/
def fltB (n : Int) (xss : List (List Int)) (idx kind : Int) : Bool := netOk n xss && inB idx 0 ((xss.length : Int) - 1) && inB kind 0 2
theorem box_carry {W w1 : World} {b : Nat} {x y : Value} (hb : Below W.heap.size W w1) (h : b < W.heap.size) (c0 : W.cell? ⟨b, 0, none⟩ = some x) (c1 : W.cell? ⟨b, 1, none⟩ = some y) : w1.cell? ⟨b, 0, none⟩ = some x ∧ w1.cell? ⟨b, 1, none⟩ = some y ∧ b < w1.heap.size :=
  ⟨(hb.cell (p := ⟨b, 0, none⟩) h).trans c0, (hb.cell (p := ⟨b, 1, none⟩) h).trans c1, by have := hb.size; omega⟩

set_option maxHeartbeats 1000000 in
theorem isFault_c (n : Int) (lo hi : Nat) (v : Value) (vs : List Value) (xss : List (List Int)) (idx kind : Int) (w : World) (hv : OwnR w lo hi v vs xss) (hhi : hi ≤ w.heap.size) :
    Calls Try.prog 102 #[.agg #[.int .i64 n, v], .int .i64 idx, .int .i64 kind] w fun e w' => e = .returned (.bool (fltB n xss idx kind)) ∧ Below w.heap.size w w' := by
  have HC := Lib.hid (NetworkOk_c n lo hi v vs xss)
  obtain ⟨ao, g, cap, rfl, -, -, -⟩ := hv.rows
  have HV := Lib.hid hv
  clear hv
  obtain ⟨RES, hRES⟩ : ∃ r, r = fltB n xss idx kind := ⟨_, rfl⟩
  have HRES := Lib.hid hRES
  rw [← hRES]
  obtain ⟨L, hlen⟩ : ∃ l, l = xss.length := ⟨_, rfl⟩
  have HL := Lib.hid hlen
  rw [← hlen] at HV HC
  have hres : RES = (netOk n xss && inB idx 0 ((L : Int) - 1) && inB kind 0 2) := by rw [hRES, hlen]; rfl
  rw [← hlen]
  clear hlen hRES
  cases hok : netOk n xss
  · obtain rfl : RES = false := by rw [hres, hok]; rfl
    rw [hok] at HC
    clear hok hres
    go_enter Try.func102, Try.ntmps102
    go_wp2_with fail
    obtain ⟨W1, hW1, c0, c1, hsz, hB1, -, -⟩ := box2 w (.int .i64 n) (.slice ao L cap) 30
    try rw [hW1]
    clear hW1
    refine (HC.out W1 (HV.out.below hB1 (by omega)) (by omega)).mono ?_
    rintro e w1 ⟨rfl, b1⟩
    go_wp2
    go_ret
    exact ⟨rfl, hB1.trans (b1.mono (by omega))⟩
  · rw [hok] at HC
    simp only [hok, Bool.true_and] at hres
    clear hok
    have cases5 : (RES = false ∧ idx < 0) ∨ (RES = false ∧ 0 ≤ idx ∧ (L : Int) ≤ idx) ∨ (RES = false ∧ 0 ≤ idx ∧ idx < (L : Int) ∧ kind < 0) ∨ (RES = false ∧ 0 ≤ idx ∧ idx < (L : Int) ∧ 0 ≤ kind ∧ 2 < kind) ∨ (RES = true ∧ 0 ≤ idx ∧ idx < (L : Int) ∧ 0 ≤ kind ∧ kind ≤ 2) := by
      rw [hres]
      simp only [inB, Bool.and_eq_true, Bool.and_eq_false_iff, decide_eq_true_eq, decide_eq_false_iff_not]
      omega
    clear hres HRES
    rcases cases5 with ⟨rfl, h1⟩ | ⟨rfl, h1, h2⟩ | ⟨rfl, h1, h2, h3⟩ | ⟨rfl, h1, h2, h3, h4⟩ | ⟨rfl, h1, h2, h3, h4⟩
    all_goals
      go_enter Try.func102, Try.ntmps102
      go_wp2_with fail
      obtain ⟨W1, hW1, c0, c1, hsz, hB1, -, -⟩ := box2 w (.int .i64 n) (.slice ao L cap) 30
      try rw [hW1]
      clear hW1
      refine (HC.out W1 (HV.out.below hB1 (by omega)) (by omega)).mono ?_
      rintro e w1 ⟨rfl, b1⟩
      obtain ⟨d0, d1, -⟩ := box_carry b1 (by omega) c0 c1
      clear c0 c1
      go_wp2
      go_ret
      exact ⟨by first | rfl | (show Ending.returned (.bool (decide (kind ≤ 2))) = _; first | rw [decide_eq_false (by omega)] | rw [decide_eq_true (by omega)]), hB1.trans (b1.mono (by omega))⟩
/-- The mask behind the network with the fault, or -1. -/
def fltyR (n : Int) (xss : List (List Int)) (idx kind m : Int) : Int := if fltB n xss idx kind = true ∧ inB m 0 ((2 ^ n.toNat : Nat) - 1) = true then (faultP xss idx.toNat kind m.toNat : Nat) else -1
theorem fltB_of {n : Int} {xss : List (List Int)} {idx kind : Int} (h : fltB n xss idx kind = true) : ∃ (a b : Nat), n = a ∧ idx = b ∧ netOk n xss = true ∧ a ≤ 8 ∧ b < xss.length ∧ (kind = 0 ∨ kind = 1 ∨ kind = 2) := by
  simp only [fltB, Bool.and_eq_true] at h
  have h1 := netOk_n h.1.1
  have h2 := inB_of h.1.2
  have h3 := inB_of h.2
  exact ⟨n.toNat, idx.toNat, by omega, by omega, h.1.1, by omega, by omega, by omega⟩
theorem mask_tests (a : Nat) (h : a ≤ 8) : ((2 : Int) ^ a - 1 = ((2 ^ a : Nat) : Int) - 1) ∧ wrap64 (wrap64 (2 ^ a) - 1) = ((2 ^ a : Nat) : Int) - 1 := by
  have : ∀ a ≤ 8, ((2 : Int) ^ a - 1 = ((2 ^ a : Nat) : Int) - 1) ∧ wrap64 (wrap64 (2 ^ a) - 1) = ((2 ^ a : Nat) : Int) - 1 := by decide +kernel
  exact this a h
set_option maxHeartbeats 1000000 in
theorem FaultyBits_impl_c (n : Int) (lo hi : Nat) (v : Value) (vs : List Value) (xss : List (List Int)) (idx kind m : Int) (w : World) (hv : OwnR w lo hi v vs xss) (hhi : hi ≤ w.heap.size) :
    Calls Try.prog 24 #[.agg #[.int .i64 n, v], .int .i64 idx, .int .i64 kind, .int .i64 m] w fun e w' => e = .returned (.int .i64 (fltyR n xss idx kind m)) ∧ Below w.heap.size w w' := by
  have HC := Lib.hid (isFault_c n lo hi v vs xss idx kind)
  have hr := hv
  obtain ⟨ao, g, cap, rfl, -, -, -⟩ := hv.rows
  have HV := Lib.hid hv
  obtain ⟨L, hlen⟩ : ∃ l, l = xss.length := ⟨_, rfl⟩
  rw [← hlen] at HV HC hr ⊢
  clear hv hlen
  cases hok : fltB n xss idx kind
  · have HR : Hid (fltyR n xss idx kind m = -1) := if_neg (by simp [hok])
    rw [hok] at HC
    clear hok hr
    go_enter Try.func24, Try.ntmps24
    go_wp2_with fail
    obtain ⟨W1, hW1, c0, c1, hsz, hB1, -, -⟩ := box2 w (.int .i64 n) (.slice ao L cap) 30
    try rw [hW1]
    clear hW1
    refine (HC.out W1 (HV.out.below hB1 (by omega)) (by omega)).mono ?_
    rintro e w1 ⟨rfl, b1⟩
    go_wp2
    go_ret
    exact ⟨by rw [HR.out]; rfl, hB1.trans (b1.mono (by omega))⟩
  · obtain ⟨a, b, rfl, rfl, hnet, h8, hb, hk⟩ := fltB_of hok
    by_cases hm : inB m 0 ((2 ^ a : Nat) - 1) = true
    · have hm2 := inB_of hm
      obtain ⟨x, rfl⟩ : ∃ x : Nat, m = x := ⟨m.toNat, by omega⟩
      have HR : Hid (fltyR a xss b kind x = (faultP xss b kind x : Nat)) := if_pos ⟨hok, by simpa using hm⟩
      have CF : Hid (∀ w, OwnR w lo hi (.slice ao L cap) vs xss → hi ≤ w.heap.size → Calls Try.prog 103 #[.agg #[.int .i64 a, .slice ao L cap], .int .i64 b, .int .i64 kind, .int .i64 x] w fun e w' => e = .returned (.int .i64 (faultP xss b kind x : Nat)) ∧ Below w.heap.size w w') :=
        fun w h1 h2 => faulty_c a lo hi _ vs xss b kind x w h1 h2 hnet (by omega) hk
      have t1 : inB (x : Int) 0 ((2 : Int) ^ a - 1) = true := by rw [(mask_tests a h8).1]; exact hm
      have t2 : inB (x : Int) 0 (wrap64 (wrap64 (2 ^ a) - 1)) = true := by rw [(mask_tests a h8).2]; exact hm
      clear hm hm2
      rw [hok] at HC
      clear hok hr hnet hk hb
      go_enter Try.func24, Try.ntmps24
      go_wp2_with fail
      obtain ⟨W1, hW1, c0, c1, hsz, hB1, -, -⟩ := box2 w (.int .i64 a) (.slice ao L cap) 30
      try rw [hW1]
      clear hW1
      refine (HC.out W1 (HV.out.below hB1 (by omega)) (by omega)).mono ?_
      rintro e w1 ⟨rfl, b1⟩
      obtain ⟨d0, d1, z1⟩ := box_carry b1 (by omega) c0 c1
      have zz := b1.size
      clear c0 c1
      go_wp2_with (go_at_call 100; refine (isMask_c _ _ _ (by omega)).mono ?_; rintro e w' ⟨rfl, rfl⟩)
      refine (CF.out w1 ((HV.out.below hB1 (by omega)).below b1 (by omega)) (by omega)).mono ?_
      rintro e w2 ⟨rfl, b2⟩
      go_wp2
      go_ret
      exact ⟨by rw [HR.out]; rfl, hB1.trans ((b1.trans (b2.mono (by omega))).mono (by omega))⟩
    · have HR : Hid (fltyR a xss b kind m = -1) := if_neg (fun h => hm (by simpa using h.2))
      have t1 : inB m 0 ((2 : Int) ^ a - 1) = false := by rw [(mask_tests a h8).1]; exact Bool.eq_false_iff.2 hm
      have t2 : inB m 0 (wrap64 (wrap64 (2 ^ a) - 1)) = false := by rw [(mask_tests a h8).2]; exact Bool.eq_false_iff.2 hm
      clear hm
      rw [hok] at HC
      clear hok hr hnet hk hb
      go_enter Try.func24, Try.ntmps24
      go_wp2_with fail
      obtain ⟨W1, hW1, c0, c1, hsz, hB1, -, -⟩ := box2 w (.int .i64 a) (.slice ao L cap) 30
      try rw [hW1]
      clear hW1
      refine (HC.out W1 (HV.out.below hB1 (by omega)) (by omega)).mono ?_
      rintro e w1 ⟨rfl, b1⟩
      obtain ⟨d0, d1, z1⟩ := box_carry b1 (by omega) c0 c1
      clear c0 c1
      go_wp2_with (go_at_call 100; refine (isMask_c _ _ _ (by omega)).mono ?_; rintro e w' ⟨rfl, rfl⟩)
      go_ret
      exact ⟨by rw [HR.out]; rfl, hB1.trans (b1.mono (by omega))⟩

/-- Whether the mask tells the fault. -/
def findB (xss : List (List Int)) (idx : Nat) (kind : Int) (m : Nat) : Bool := faultP xss idx kind m != bitsP xss m
def findR (n : Int) (xss : List (List Int)) (idx kind m : Int) : Bool := fltB n xss idx kind && inB m 0 ((2 ^ n.toNat : Nat) - 1) && findB xss idx.toNat kind m.toNat
set_option maxHeartbeats 1000000 in
theorem finds_c (n : Nat) (lo hi : Nat) (v : Value) (vs : List Value) (xss : List (List Int)) (idx : Nat) (kind : Int) (m : Nat) (w : World) (hv : OwnR w lo hi v vs xss) (hhi : hi ≤ w.heap.size) (hok : netOk n xss = true) (hm : m < 2 ^ n) (hkd : kind = 0 ∨ kind = 1 ∨ kind = 2) :
    Calls Try.prog 99 #[.agg #[.int .i64 n, v], .int .i64 idx, .int .i64 kind, .int .i64 m] w fun e w' => e = .returned (.bool (findB xss idx kind m)) ∧ Below w.heap.size w w' := by
  have CF : Hid (∀ w, OwnR w lo hi v vs xss → hi ≤ w.heap.size → Calls Try.prog 103 #[.agg #[.int .i64 n, v], .int .i64 idx, .int .i64 kind, .int .i64 m] w fun e w' => e = .returned (.int .i64 (faultP xss idx kind m : Nat)) ∧ Below w.heap.size w w') :=
    fun w h1 h2 => faulty_c n lo hi v vs xss idx kind m w h1 h2 hok hm hkd
  have CB : Hid (∀ w, OwnR w lo hi v vs xss → hi ≤ w.heap.size → Calls Try.prog 116 #[.agg #[.int .i64 n, v], .int .i64 m] w fun e w' => e = .returned (.int .i64 (bitsP xss m : Nat)) ∧ Below w.heap.size w w') :=
    fun w h1 h2 => bits_c n lo hi v vs xss m w h1 h2 hok hm
  obtain ⟨F, hF⟩ : ∃ F, F = faultP xss idx kind m := ⟨_, rfl⟩
  obtain ⟨B, hB⟩ : ∃ B, B = bitsP xss m := ⟨_, rfl⟩
  have hr : ((F : Int) != (B : Int)) = findB xss idx kind m := by
    rw [hF, hB, findB, Bool.eq_iff_iff, bne_iff_ne, bne_iff_ne]
    omega
  rw [← hF] at CF
  rw [← hB] at CB
  obtain ⟨r, hr2⟩ : ∃ r, r = findB xss idx kind m := ⟨_, rfl⟩
  rw [← hr2] at hr ⊢
  obtain ⟨ao, g, cap, rfl, -, -, -⟩ := hv.rows
  have HV := Lib.hid hv
  obtain ⟨L, hlen⟩ : ∃ l, l = xss.length := ⟨_, rfl⟩
  rw [← hlen] at HV CF CB ⊢
  clear hv hlen hr2 hF hB hok hm hkd
  go_enter Try.func99, Try.ntmps99
  go_wp2_with fail
  obtain ⟨W1, hW1, c0, c1, hsz, hB1, -, -⟩ := box2 w (.int .i64 n) (.slice ao L cap) 30
  try rw [hW1]
  clear hW1
  have hlt : w.heap.size < W1.heap.size := by omega
  have hle : hi ≤ W1.heap.size := by omega
  have HV1 := Lib.hid (HV.out.below hB1 hhi)
  clear HV hsz
  refine wp_region_later W1.heap.size W1 (by kernel_rfl) (by kernel_rfl) (Below.refl _ _) ?_
  have hLW := LW.cells (B := W1.heap.size) (w0 := W1)
  repeat (go_big_quiet_step ((first | (go_at_call 116; refine LW.call (Nat.le_refl _) (CB.out _ (HV1.out.below (LW.h _) hle) (Nat.le_trans hle (LW.h _).size))) | (go_at_call 103; refine LW.call (Nat.le_refl _) (CF.out _ (HV1.out.below (LW.h _) hle) (Nat.le_trans hle (LW.h _).size))) | fail)))
  refine wpQuiet_nil ?_
  rintro w2 ⟨⟨w2s, hb2⟩, rfl⟩
  clear hLW
  go_wp2
  go_ret
  exact ⟨rfl, hB1.trans (hb2.mono (by omega))⟩

theorem findB_eq {F B : Nat} {xss : List (List Int)} {idx : Nat} {kind : Int} {m : Nat} (hF : F = faultP xss idx kind m) (hB : B = bitsP xss m) : ((F : Int) != (B : Int)) = findB xss idx kind m := by
  rw [hF, hB, findB, Bool.eq_iff_iff, bne_iff_ne, bne_iff_ne]
  omega
set_option maxHeartbeats 1000000 in
theorem FindsFault_impl_c (n : Int) (lo hi : Nat) (v : Value) (vs : List Value) (xss : List (List Int)) (idx kind m : Int) (w : World) (hv : OwnR w lo hi v vs xss) (hhi : hi ≤ w.heap.size) :
    Calls Try.prog 25 #[.agg #[.int .i64 n, v], .int .i64 idx, .int .i64 kind, .int .i64 m] w fun e w' => e = .returned (.bool (findR n xss idx kind m)) ∧ Below w.heap.size w w' := by
  have HC := Lib.hid (isFault_c n lo hi v vs xss idx kind)
  obtain ⟨ao, g, cap, rfl, -, -, -⟩ := hv.rows
  have HV := Lib.hid hv
  obtain ⟨L, hlen⟩ : ∃ l, l = xss.length := ⟨_, rfl⟩
  rw [← hlen] at HV HC ⊢
  clear hv hlen
  cases hok : fltB n xss idx kind
  · have HR : Hid (findR n xss idx kind m = false) := by show _ = _; simp [findR, hok]
    rw [hok] at HC
    clear hok
    go_enter Try.func25, Try.ntmps25
    go_wp2_with fail
    obtain ⟨W1, hW1, c0, c1, hsz, hB1, -, -⟩ := box2 w (.int .i64 n) (.slice ao L cap) 30
    try rw [hW1]
    clear hW1
    refine (HC.out W1 (HV.out.below hB1 (by omega)) (by omega)).mono ?_
    rintro e w1 ⟨rfl, b1⟩
    go_wp2
    go_ret
    exact ⟨by rw [HR.out]; rfl, hB1.trans (b1.mono (by omega))⟩
  · obtain ⟨a, b, rfl, rfl, hnet, h8, hb, hk⟩ := fltB_of hok
    by_cases hm : inB m 0 ((2 ^ a : Nat) - 1) = true
    · have hm2 := inB_of hm
      obtain ⟨x, rfl⟩ : ∃ x : Nat, m = x := ⟨m.toNat, by omega⟩
      have HR : Hid (findR a xss b kind x = findB xss b kind x) := by show _ = _; simp [findR, hok]; intro _; simpa using hm
      have CF : Hid (∀ w, OwnR w lo hi (.slice ao L cap) vs xss → hi ≤ w.heap.size → Calls Try.prog 99 #[.agg #[.int .i64 a, .slice ao L cap], .int .i64 b, .int .i64 kind, .int .i64 x] w fun e w' => e = .returned (.bool (findB xss b kind x)) ∧ Below w.heap.size w w') :=
        fun w h1 h2 => finds_c a lo hi _ vs xss b kind x w h1 h2 hnet (by omega) hk
      have t1 : inB (x : Int) 0 ((2 : Int) ^ a - 1) = true := by rw [(mask_tests a h8).1]; exact hm
      clear hm hm2
      rw [hok] at HC
      clear hok hnet hk hb
      go_enter Try.func25, Try.ntmps25
      go_wp2_with fail
      obtain ⟨W1, hW1, c0, c1, hsz, hB1, -, -⟩ := box2 w (.int .i64 a) (.slice ao L cap) 30
      try rw [hW1]
      clear hW1
      refine (HC.out W1 (HV.out.below hB1 (by omega)) (by omega)).mono ?_
      rintro e w1 ⟨rfl, b1⟩
      obtain ⟨d0, d1, z1⟩ := box_carry b1 (by omega) c0 c1
      have zz := b1.size
      clear c0 c1
      go_wp2_with (go_at_call 100; refine (isMask_c _ _ _ (by omega)).mono ?_; rintro e w' ⟨rfl, rfl⟩)
      refine (CF.out w1 ((HV.out.below hB1 (by omega)).below b1 (by omega)) (by omega)).mono ?_
      rintro e w2 ⟨rfl, b2⟩
      go_wp2
      go_ret
      exact ⟨by rw [HR.out]; rfl, hB1.trans ((b1.trans (b2.mono (by omega))).mono (by omega))⟩
    · have HR : Hid (findR a xss b kind m = false) := by show _ = _; simp only [findR, Int.toNat_natCast, Bool.eq_false_iff.2 hm]; simp
      have t1 : inB m 0 ((2 : Int) ^ a - 1) = false := by rw [(mask_tests a h8).1]; exact Bool.eq_false_iff.2 hm
      clear hm
      rw [hok] at HC
      clear hok hnet hk hb
      go_enter Try.func25, Try.ntmps25
      go_wp2_with fail
      obtain ⟨W1, hW1, c0, c1, hsz, hB1, -, -⟩ := box2 w (.int .i64 a) (.slice ao L cap) 30
      try rw [hW1]
      clear hW1
      refine (HC.out W1 (HV.out.below hB1 (by omega)) (by omega)).mono ?_
      rintro e w1 ⟨rfl, b1⟩
      obtain ⟨d0, d1, z1⟩ := box_carry b1 (by omega) c0 c1
      clear c0 c1
      go_wp2_with (go_at_call 100; refine (isMask_c _ _ _ (by omega)).mono ?_; rintro e w' ⟨rfl, rfl⟩)
      go_ret
      exact ⟨by rw [HR.out]; rfl, hB1.trans (b1.mono (by omega))⟩
end Go.Proofs.Ytiodolbgapjmkaa
