/- The program's levels, sameness, names of wires and places of a network, by their contracts. Conditions: the networks are valid. -/
import Derived.Test.YtiodolbgapjmkaaGreatDoorPNet
import Derived.Test.YtiodolbgapjmkaaGreatDoorBitsC
import Derived.Test.YtiodolbgapjmkaaGreatDoorPast
namespace Go.Proofs.YtiodolbgapjmkaaGreatDoor
open Go.RowKit
set_option maxRecDepth 100000
set_option linter.unusedVariables false
set_option linter.unusedSimpArgs false

set_option maxHeartbeats 1000000 in
theorem LevelsOf_y (n : Nat) (lo hi : Nat) (v : Value) (vs : List Value) (xss : List (List Int)) (w : World) (hv : OwnR w lo hi v vs xss) (hhi : hi ≤ w.heap.size) (hok : netOk n xss = true) :
    Calls Tryz.prog 5 #[.agg #[.int .i64 n, v]] w (IntC w (levelsP xss xss.length)) := by
  have HC : Hid (∀ w1, Below w.heap.size w w1 → Calls Tryz.prog 22 #[.agg #[.int .i64 n, v]] w1 fun e w' => e = .returned (.bool true) ∧ Below w1.heap.size w1 w') := fun w1 h1 => by
    have := NetworkOk_c n lo hi v vs xss w1 (hv.below h1 hhi) (by have := h1.size; omega)
    rwa [hok] at this
  have HD : Hid (∀ w1, Below w.heap.size w w1 → Calls Tryz.prog 23 #[.agg #[.int .i64 n, v]] w1 (IntC w1 (levelsP xss xss.length))) := fun w1 h1 => levels_c n lo hi v vs xss w1 (hv.below h1 hhi) (by have := h1.size; omega) hok
  obtain ⟨ao, g, cap, rfl, -, -, -⟩ := hv.rows
  obtain ⟨L, hL⟩ : ∃ L, L = xss.length := ⟨_, rfl⟩
  obtain ⟨RS, hRS⟩ : ∃ R, R = levelsP xss xss.length := ⟨_, rfl⟩
  rw [← hRS] at HD ⊢
  rw [← hL] at HD HC ⊢
  clear hv hL hok hRS
  go_enter Tryz.func5, Tryz.ntmps5
  go_wp2_with fail
  obtain ⟨W1, hW1, c0, c1, hsz, hB1, -, -⟩ := box2 w (.int .i64 n) (.slice ao L cap) 25
  rw [hW1]
  clear hW1
  refine (HC.out W1 hB1).mono ?_
  rintro e w2 ⟨rfl, b2⟩
  obtain ⟨d0, d1, z2⟩ := boxC b2 (by omega) c0 c1
  have hB2 := hB1.trans (b2.mono (by omega))
  clear b2 c0 c1
  go_wp2_with fail
  refine (HD.out w2 hB2).mono ?_
  rintro e w3 ⟨u, rfl, o3, b3⟩
  have HF : Hid (IntC w RS (.returned u) w3) := ⟨u, rfl, Own.mono o3 hB2.size (Nat.le_refl _), hB2.trans (b3.mono hB2.size)⟩
  clear b3 hB2 o3 d0 d1
  go_wp2
  go_ret
  exact HF.out
set_option maxHeartbeats 2000000 in
theorem DoSame_y (n : Nat) (lo hi lo2 hi2 : Nat) (v u : Value) (vs us : List Value) (xss yss : List (List Int)) (w : World) (hv : OwnR w lo hi v vs xss) (hhi : hi ≤ w.heap.size) (hx : netOk n xss = true) (hu : OwnR w lo2 hi2 u us yss) (hhi2 : hi2 ≤ w.heap.size) (hy : netOk n yss = true)
    (hs : ∀ m, m < 2 ^ n → bitsP xss m = bitsP yss m) :
    Calls Tryz.prog 8 #[.agg #[.int .i64 n, v], .agg #[.int .i64 n, u]] w fun e w' => e = .returned (.bool true) ∧ Below w.heap.size w w' := by
  have HC : Hid (∀ w1, Below w.heap.size w w1 → Calls Tryz.prog 22 #[.agg #[.int .i64 n, v]] w1 fun e w' => e = .returned (.bool true) ∧ Below w1.heap.size w1 w') := fun w1 h1 => by
    have := NetworkOk_c n lo hi v vs xss w1 (hv.below h1 hhi) (by have := h1.size; omega)
    rwa [hx] at this
  have HD : Hid (∀ w1, Below w.heap.size w w1 → Calls Tryz.prog 22 #[.agg #[.int .i64 n, u]] w1 fun e w' => e = .returned (.bool true) ∧ Below w1.heap.size w1 w') := fun w1 h1 => by
    have := NetworkOk_c n lo2 hi2 u us yss w1 (hu.below h1 hhi2) (by have := h1.size; omega)
    rwa [hy] at this
  obtain ⟨M, hM⟩ : ∃ M, M = 2 ^ n := ⟨_, rfl⟩
  obtain ⟨B, hB⟩ : ∃ B : Nat → Nat, B = fun m => bitsP yss m := ⟨_, rfl⟩
  have HX : Hid (∀ m w1, m < M → Below w.heap.size w w1 → Calls Tryz.prog 30 #[.agg #[.int .i64 n, v], .int .i64 (m : Nat)] w1 fun e w' => e = .returned (.int .i64 (B m : Nat)) ∧ Below w1.heap.size w1 w') := fun m w1 hm h1 => by
    have := bits_c n lo hi v vs xss m w1 (hv.below h1 hhi) (by have := h1.size; omega) hx (by rw [← hM]; exact hm)
    rw [hs m (by rw [← hM]; exact hm)] at this
    rw [hB]
    exact this
  have HY : Hid (∀ m w1, m < M → Below w.heap.size w w1 → Calls Tryz.prog 30 #[.agg #[.int .i64 n, u], .int .i64 (m : Nat)] w1 fun e w' => e = .returned (.int .i64 (B m : Nat)) ∧ Below w1.heap.size w1 w') := fun m w1 hm h1 => by
    have := bits_c n lo2 hi2 u us yss m w1 (hu.below h1 hhi2) (by have := h1.size; omega) hy (by rw [← hM]; exact hm)
    rw [hB]
    exact this
  have hn8 : n ≤ 8 := by have := (netOk_n hx).2; omega
  have hps : wrap64 (2 ^ n) = (M : Int) := by rw [hM]; exact wrap_pow n hn8
  have hM256 : M ≤ 256 := by rw [hM]; exact pow_le_256 n hn8
  obtain ⟨ao, g, cap, rfl, -, -, -⟩ := hv.rows
  obtain ⟨bo, h, cap2, rfl, -, -, -⟩ := hu.rows
  obtain ⟨L, hL⟩ : ∃ L, L = xss.length := ⟨_, rfl⟩
  obtain ⟨K, hK⟩ : ∃ M, M = yss.length := ⟨_, rfl⟩
  rw [← hL] at HC HX ⊢
  rw [← hK] at HD HY ⊢
  have hne : ((n : Int) != (n : Int)) = false := by simp
  clear hv hu hL hM hK hx hy hB hs
  go_enter Tryz.func8, Tryz.ntmps8
  go_wp2_with fail
  obtain ⟨W1, hW1, c0, c1, hsz, hB1, -, -⟩ := box2 w (.int .i64 n) (.slice ao L cap) 25
  rw [hW1]
  clear hW1
  obtain ⟨W2, hW2, d0, d1, hsz2, hB2, -, -⟩ := box2 W1 (.int .i64 n) (.slice bo K cap2) 25
  rw [hW2]
  clear hW2
  obtain ⟨c0, c1, hz0⟩ := boxC hB2 (by omega) c0 c1
  rw [hsz] at d0 d1
  have hB3 : Below w.heap.size w W2 := hB1.trans (hB2.mono (by omega))
  refine (HC.out W2 hB3).mono ?_
  rintro e w3 ⟨rfl, b3⟩
  obtain ⟨c0, c1, hz0⟩ := boxC b3 (by omega) c0 c1
  obtain ⟨d0, d1, hz1⟩ := boxC b3 (by omega) d0 d1
  have hB4 := hB3.trans (b3.mono (by omega))
  clear b3 hB3 hB2 hB1
  go_wp2_with fail
  refine (HD.out w3 hB4).mono ?_
  rintro e w4 ⟨rfl, b4⟩
  obtain ⟨c0, c1, hz0⟩ := boxC b4 hz0 c0 c1
  obtain ⟨d0, d1, hz1⟩ := boxC b4 hz1 d0 d1
  have HB5 := Lib.hid (hB4.trans (b4.mono hB4.size))
  clear b4 hB4
  go_wp2_with fail
  go_loopw [24] (fun i wr => ∃ k : Nat, k ≤ M ∧ i = .int .i64 k ∧ Below w4.heap.size w4 wr) (fun i _ => M - (intOf i).toNat)
  case atStart => exact ⟨0, Nat.zero_le _, rfl, Below.refl _ _⟩
  case round =>
    obtain ⟨k, hk, rfl, hb⟩ := hrel
    obtain ⟨c0, c1, hz0⟩ := boxC hb hz0 c0 c1
    obtain ⟨d0, d1, hz1⟩ := boxC hb hz1 d0 d1
    have HB := Lib.hid hb
    have HW : Hid (Below w.heap.size w wr) := HB5.out.trans (hb.mono HB5.out.size)
    have hzz := hb.size
    clear hb
    by_cases hlt : k < M
    · have hki : (k : Int) < (M : Int) := by omega
      have HXK : Hid (∀ w1, Below wr.heap.size wr w1 → Calls Tryz.prog 30 #[.agg #[.int .i64 n, .slice ao L cap], .int .i64 (k : Nat)] w1 fun e w' => e = .returned (.int .i64 (B k : Nat)) ∧ Below w1.heap.size w1 w') := fun w1 h1 => HX.out k w1 hlt (HW.out.trans (h1.mono HW.out.size))
      have HYK : Hid (∀ w1, Below wr.heap.size wr w1 → Calls Tryz.prog 30 #[.agg #[.int .i64 n, .slice bo K cap2], .int .i64 (k : Nat)] w1 fun e w' => e = .returned (.int .i64 (B k : Nat)) ∧ Below w1.heap.size w1 w') := fun w1 h1 => HY.out k w1 hlt (HW.out.trans (h1.mono HW.out.size))
      obtain ⟨z, hz⟩ : ∃ z, z = B k := ⟨_, rfl⟩
      rw [← hz] at HXK HYK
      have hzz2 : ((z : Int) != (z : Int)) = false := by simp
      clear hz
      go_wp2_with fail
      refine wp_region_later wr.heap.size wr (by kernel_rfl) (by kernel_rfl) (Below.refl _ _) ?_
      have hLW := LW.cells (B := wr.heap.size) (w0 := wr)
      repeat (go_big_quiet_step (first | (go_at_call 30; with_reducible exact LW.call (Nat.le_refl _) (HXK.out _ (LW.h _))) | (go_at_call 30; with_reducible exact LW.call (Nat.le_refl _) (HYK.out _ (LW.h _))) | fail))
      refine wpQuiet_nil ?_
      rintro w2 ⟨⟨w2s, hb2⟩, rfl⟩
      clear hLW
      go_wp2_with fail
      go_roundw
      case rel => exact ⟨k + 1, by omega, by go_num, HB.out.trans (hb2.mono hzz)⟩
      case measure => simp [intOf]; omega
    · have hki : ¬ (k : Int) < (M : Int) := by omega
      clear c0 c1 d0 d1
      go_wp2
      go_ret
      exact ⟨rfl, HW.out⟩
theorem made_cellN (w : World) (z : Value) (t : TypeId) {P m : Nat} (hm : m < P) : (w.alloc (.cells (madeCells #[z] P) t)).cell? ⟨w.heap.size, m, none⟩ = some z := by
  obtain ⟨c, hc1, -, hc2⟩ := World.rowIs_made w z P t
  have h2 := hc2 m hm
  unfold World.cell?
  rw [hc1]
  simpa using h2
set_option maxHeartbeats 2000000 in
theorem isOrder_c (n lo hi : Nat) (v : Value) (names : List Int) (w : World) (hv : IntsV w lo hi v names) (hhi : hi ≤ w.heap.size) (hN : NamP n names) (h1 : 1 ≤ n) (h8 : n ≤ 8) :
    Calls Tryz.prog 36 #[v, .int .i64 n] w fun e w' => e = .returned (.bool true) ∧ Below w.heap.size w w' := by
  have hmk := run_make_row' (P := Tryz.prog) 75 4 (.bool false) 1 (by kernel_rfl) (by kernel_rfl) rfl .i64 .i64 n (by omega) (by omega)
  obtain ⟨ao, g, off, cap, rfl, hcap, hao, hc⟩ := hv
  have hl := hN.1
  rw [hl] at hcap hc ⊢
  obtain ⟨rfl, -, g2⟩ := hao (by omega)
  have HC := Lib.hid hc
  have HN := Lib.hid hN
  obtain ⟨MK, hMK⟩ : ∃ M : Nat → Nat → Bool, M = fun j m => (names.take j).any fun x => x.toNat == m := ⟨_, rfl⟩
  have HMK := Lib.hid hMK
  have HMF : Hid (∀ j q : Nat, j < n → names.getD j 0 = (q : Int) → MK j q = false) := by
    intro j q hj hq
    rw [hMK]
    show ((names.take j).any fun x => x.toNat == q) = false
    rw [List.any_eq_false]
    intro x hx
    obtain ⟨i, hi, rfl⟩ := List.mem_iff_getElem.1 hx
    rw [List.length_take] at hi
    obtain ⟨q2, e2, -⟩ := hN.2.1 i (by omega)
    have e3 : (names.take j)[i]'(by rw [List.length_take]; exact hi) = names.getD i 0 := by
      rw [List.getElem_take, List.getD_eq_getElem?_getD, List.getElem?_eq_getElem (by omega)]
      rfl
    rw [e3, e2]
    intro h
    have h' : q2 = q := by simpa using h
    have := hN.2.2 i j (by omega) hj (by rw [e2, hq, h'])
    omega
  have HMS : Hid (∀ j q m : Nat, j < n → names.getD j 0 = (q : Int) → MK (j + 1) m = (MK j m || q == m)) := by
    intro j q m hj hq
    rw [hMK]
    show ((names.take (j + 1)).any fun x => x.toNat == m) = (((names.take j).any fun x => x.toNat == m) || q == m)
    rw [take_snoc_getD 0 (by omega), hq]
    simp [List.any_append]
  clear hc hao hN hMK hl
  obtain ⟨W0, hW0⟩ : ∃ W, W = w.alloc (.cells (madeCells #[Value.bool false] n) 4) := ⟨_, rfl⟩
  have HCL0 : Hid (∀ m, m < n → W0.cell? ⟨w.heap.size, m, none⟩ = some (.bool (MK 0 m))) := by show ∀ _, _; intro m hm; rw [hW0, HMK.out]; exact made_cellN w (.bool false) _ hm
  have HB0 : Hid (Below w.heap.size w W0) := by show Below _ _ _; rw [hW0]; exact (Below.refl _ _).alloc (Nat.le_refl _) _
  have HFZ0 : Hid (∀ m, W0.frozen? ⟨w.heap.size, m, none⟩ = false) := by show ∀ _, _; intro m; rw [hW0]; exact World.frozen?_alloc_at (hn := rfl) ..
  have HW := Lib.hid hW0
  have hne : ((n : Int) != (n : Int)) = false := by simp
  clear hW0
  go_enter Tryz.func36, Tryz.ntmps36
  go_wp2_with fail
  try rw [← HW.out]
  go_loopw [16] (fun t wr => ∃ j : Nat, j ≤ n ∧ t = .int .i64 j ∧ (∀ m, m < n → wr.cell? ⟨w.heap.size, m, none⟩ = some (.bool (MK j m))) ∧ (∀ m, wr.frozen? ⟨w.heap.size, m, none⟩ = false) ∧ Below w.heap.size w wr) (fun t _ => n - (intOf t).toNat)
  case atStart => exact ⟨0, Nat.zero_le _, rfl, HCL0.out, HFZ0.out, HB0.out⟩
  case round =>
    obtain ⟨j, hj, rfl, hcl, hfz, hb⟩ := hrel
    have HFZ := Lib.hid hfz
    have HCL := Lib.hid hcl
    have HB := Lib.hid hb
    clear hcl hfz hb
    by_cases hlt : j < n
    · have hji : (j : Int) < (n : Int) := by omega
      obtain ⟨q, hq, hqn⟩ := HN.out.2.1 j hlt
      have c1 : wr.cell? ⟨g, off + j, none⟩ = some (.int .i64 q) := by rw [← hq]; exact (HB.out.cell (p := ⟨g, off + j, none⟩) (by show g < _; omega)).trans (HC.out j hlt)
      have c2 : wr.cell? ⟨w.heap.size, q, none⟩ = some (.bool false) := by rw [← HMF.out j q hlt hq]; exact HCL.out q hqn
      have f2 : wr.frozen? ⟨w.heap.size, q, none⟩ = false := HFZ.out q
      have HT : Hid (∀ m, MK (j + 1) m = (MK j m || q == m)) := fun m => HMS.out j q m hlt hq
      have t1 : ¬ (q : Int) < 0 := by omega
      have t2 : ¬ (n : Int) ≤ (q : Int) := by omega
      have t3 : (q : Int) < (n : Int) := by omega
      have t4 : (0 : Int) ≤ (q : Int) := by omega
      clear hq
      go_wp2_with fail
      go_roundw
      case rel =>
        refine ⟨j + 1, by omega, by go_num, ?_, by intro m; simpa using HFZ.out m, HB.out.setCell (Nat.le_refl _) _⟩
        intro m hm
        rw [HT.out]
        by_cases hmz : m = q
        · subst hmz
          simpa using World.cell?_setCell_same (v := .bool true) (h := c2) ..
        · have hne2 : (⟨w.heap.size, q, none⟩ : Addr) ≠ ⟨w.heap.size, m, none⟩ := by intro h; injection h with _ h2 _; exact hmz h2.symm
          rw [World.cell?_setCell_other (h := hne2), HCL.out m hm]
          have : (q == m) = false := by simp; omega
          rw [this, Bool.or_false]
      case measure => simp [intOf]; omega
    · have hji : ¬ (j : Int) < (n : Int) := by omega
      go_wp2
      go_ret
      exact ⟨rfl, HB.out⟩
theorem RenameWires1_c (n b i lo hi : Nat) (v : Value) (names : List Int) (wr : World) (hv : IntsV wr lo hi v names) (hc : wr.cell? ⟨b, 0, none⟩ = some v) (hl : names.length = n) (hi' : i < n) (h8 : n ≤ 8) :
    Calls Tryz.prog 38 #[.int .i64 i, .pointer (some ⟨b, 0, none⟩)] wr fun e w' => e = .returned (.int .i64 (namF names (i : Int))) ∧ wr = w' := by
  obtain ⟨ao, g, off, cap, rfl, hcap, hao, hcc⟩ := hv
  rw [hl] at hcap hcc hc
  obtain ⟨rfl, -, -⟩ := hao (by omega)
  have c1 := hcc i hi'
  have HE : Hid (namF names (i : Int) = names.getD i 0) := by show _ = _; unfold namF; rw [Int.toNat_natCast]
  obtain ⟨z, hz⟩ : ∃ z, z = names.getD i 0 := ⟨_, rfl⟩
  rw [← hz] at c1 HE
  have hii : (i : Int) < (n : Int) := by omega
  clear hcc hao hz
  go_enter Tryz.func38, Tryz.ntmps38
  go_wp2
  go_ret
  exact ⟨by rw [HE.out]; rfl, rfl⟩
theorem PlaceNetwork1_c (n b i d : Nat) (wr : World) (hc : wr.cell? ⟨b, 0, none⟩ = some (.int .i64 d)) (hi' : i < n) (h8 : n ≤ 8) (hd : d ≤ 8) :
    Calls Tryz.prog 39 #[.int .i64 i, .pointer (some ⟨b, 0, none⟩)] wr fun e w' => e = .returned (.int .i64 ((d : Int) + (i : Int))) ∧ wr = w' := by
  go_enter Tryz.func39, Tryz.ntmps39
  go_wp2
  go_ret
  exact ⟨rfl, rfl⟩
end Go.Proofs.YtiodolbgapjmkaaGreatDoor
