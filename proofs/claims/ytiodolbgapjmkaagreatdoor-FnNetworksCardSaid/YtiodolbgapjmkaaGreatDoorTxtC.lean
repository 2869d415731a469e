/- The program's text of a network, written and read, by its contracts. Conditions: the network is valid. -/
import Derived.Test.YtiodolbgapjmkaaGreatDoorTxtP
import Derived.Test.YtiodolbgapjmkaaGreatDoorNameC
import Derived.Test.YtiodolbgapjmkaaGreatDoorCopy2
import Derived.Lib.SmallJoins
namespace Go.Proofs.YtiodolbgapjmkaaGreatDoor
open Go.RowKit Go.Lib
set_option maxRecDepth 100000
set_option linter.unusedVariables false
set_option linter.unusedSimpArgs false

theorem FormatInt_c (k : Nat) (hk : k < 10) (w : World) : Calls Tryz.prog 40 #[.int .i64 k] w fun e w' => e = .returned (.string (strB [digB k])) ∧ w = w' := by
  have HI : Hid (∀ w, Calls Tryz.prog 56 #[.int .i64 k] w fun e w' => e = .returned (.string (strB [digB k])) ∧ w' = w) := fun w => by
    have := Tryz.strconv_Itoa_small k (by omega) w
    rw [decDigits_one hk] at this
    exact this
  obtain ⟨RS, hRS⟩ : ∃ R, R = strB [digB k] := ⟨_, rfl⟩
  rw [← hRS] at HI ⊢
  clear hRS
  go_enter Tryz.func40, Tryz.ntmps40
  go_wp2_with ((with_reducible refine (HI.out _).mono ?_); rintro e w' ⟨rfl, hw⟩; obtain rfl := hw.symm)
  go_ret
  exact ⟨rfl, rfl⟩
theorem ParseInt_c (k : Nat) (hk : k < 10) (w : World) : Calls Tryz.prog 42 #[.string (strB [digB k])] w fun e w' => e = .returned (.tuple #[.int .i64 k, .bool true]) ∧ Below w.heap.size w w' := by
  have HA : Hid (Calls Tryz.prog 58 #[.string (strB [digB k])] w fun e w' => e = .returned (.tuple #[.int .i64 k, .nilIface]) ∧ Below w.heap.size w w') := by
    refine (Tryz.strconv_Atoi (strB [digB k]) (k : Int) (by rw [strB_size]; simp) (by rw [strB_data]; exact atoi_one k hk) w).mono ?_
    rintro e w' ⟨rfl, t, rfl⟩
    exact ⟨rfl, Go.Joins.below_bytesWorld _ _ _ _ (Nat.le_refl _)⟩
  have HF : Hid (∀ w, Calls Tryz.prog 40 #[.int .i64 k] w fun e w' => e = .returned (.string (strB [digB k])) ∧ w = w') := FormatInt_c k hk
  obtain ⟨RS, hRS⟩ : ∃ R, R = strB [digB k] := ⟨_, rfl⟩
  rw [← hRS] at HA HF ⊢

  clear hRS
  go_enter Tryz.func42, Tryz.ntmps42
  go_wp2_with fail
  refine HA.out.mono ?_
  rintro e w1 ⟨rfl, b1⟩
  have B1 := Lib.hid b1
  clear b1
  go_wp2_with ((with_reducible refine (HF.out _).mono ?_); rintro e w' ⟨rfl, rfl⟩)
  go_ret2
  exact ⟨rfl, B1.out⟩
set_option maxHeartbeats 2000000 in
theorem FormatNetwork_y (n lo hi : Nat) (v : Value) (vs : List Value) (xss : List (List Int)) (w : World) (hv : OwnR w lo hi v vs xss) (hhi : hi ≤ w.heap.size) (hok : netOk n xss = true) :
    Calls Tryz.prog 16 #[.agg #[.int .i64 n, v]] w fun e w' => e = .returned (.string (strB (fmtT n xss))) ∧ Below w.heap.size w w' := by
  have HC : Hid (∀ w1, Below w.heap.size w w1 → Calls Tryz.prog 22 #[.agg #[.int .i64 n, v]] w1 fun e w' => e = .returned (.bool true) ∧ Below w1.heap.size w1 w') := fun w1 h1 => by
    have := NetworkOk_c n lo hi v vs xss w1 (hv.below h1 hhi) (by have := h1.size; omega)
    rwa [hok] at this
  have h8 : n ≤ 8 := by have := (netOk_n hok).2; omega
  have hl60 := netOk_len hok
  have HP := Lib.hid (netOk_pair hok)
  have HFN : Hid (∀ w, Calls Tryz.prog 40 #[.int .i64 n] w fun e w' => e = .returned (.string (strB [digB n])) ∧ w = w') := FormatInt_c n (by omega)
  have HST : Hid (strB [digB n] ++ (⟨#[58]⟩ : ByteArray) = strB (fmtT n (xss.take 0))) := by
    show _ = _
    rw [show (⟨#[58]⟩ : ByteArray) = strB [58] from rfl, strB_append]
    rfl
  have HSN : Hid (∀ k i j : Nat, k < xss.length → xss.getD k [] = [(i : Int), (j : Int)] → strB (fmtT n (xss.take (k + 1))) = strB (fmtT n (xss.take k)) ++ ((((⟨#[32]⟩ : ByteArray) ++ strB [digB i]) ++ (⟨#[45]⟩ : ByteArray)) ++ strB [digB j])) := by
    intro k i j hk hr
    rw [show (⟨#[32]⟩ : ByteArray) = strB [32] from rfl, show (⟨#[45]⟩ : ByteArray) = strB [45] from rfl, strB_append, strB_append, strB_append, strB_append, take_snoc_getD [] hk, hr, fmtT_snoc]
    simp [wordT]
  obtain ⟨ao, g, cap, A, G, C, rfl, hcap, hao, hrow⟩ := hv.view
  have HRW := Lib.hid hrow
  have HAO := Lib.hid hao
  have HEND : Hid (xss.take xss.length = xss) := List.take_length
  obtain ⟨TX, hTX⟩ : ∃ T : Nat → ByteArray, T = fun k => strB (fmtT n (xss.take k)) := ⟨_, rfl⟩
  obtain ⟨D0, hD0⟩ : ∃ D, D = strB [digB n] := ⟨_, rfl⟩
  obtain ⟨DG, hDG⟩ : ∃ D : Nat → ByteArray, D = fun k => strB [digB k] := ⟨_, rfl⟩
  have HFD : Hid (∀ k : Nat, k < 8 → ∀ w, Calls Tryz.prog 40 #[.int .i64 k] w fun e w' => e = .returned (.string (DG k)) ∧ w = w') := by rw [hDG]; exact fun k hk => FormatInt_c k (by omega)
  have HST2 : Hid (D0 ++ (⟨#[58]⟩ : ByteArray) = TX 0) := by rw [hD0, hTX]; exact HST
  have HSN2 : Hid (∀ k i j : Nat, k < xss.length → xss.getD k [] = [(i : Int), (j : Int)] → TX (k + 1) = TX k ++ ((((⟨#[32]⟩ : ByteArray) ++ DG i) ++ (⟨#[45]⟩ : ByteArray)) ++ DG j)) := by rw [hTX, hDG]; exact HSN
  have HEN2 : Hid (TX xss.length = strB (fmtT n xss)) := by show _ = _; rw [hTX]; show strB (fmtT n (xss.take xss.length)) = _; rw [HEND.out]
  rw [← hD0] at HFN
  have hs0 : D0.size = 1 := by rw [hD0, strB_size]; rfl
  have HSG : Hid (∀ k, (DG k).size = 1) := by rw [hDG]; exact fun k => by rw [strB_size]; rfl
  have HSX : Hid (∀ k, k ≤ xss.length → (TX k).size ≤ 242) := by
    rw [hTX]
    intro k hk
    show (strB _).size ≤ _
    rw [strB_size, fmtT_len, List.length_take]
    omega
  obtain ⟨RES, hRES⟩ : ∃ R, R = strB (fmtT n xss) := ⟨_, rfl⟩
  rw [← hRES] at HEN2 ⊢
  obtain ⟨L, hL⟩ : ∃ L, L = xss.length := ⟨_, rfl⟩
  rw [← hL] at HRW HAO hl60 hcap HP HC HSN2 HEN2 HSX ⊢
  clear hv hrow hao hL hok HST HSN HEND hTX hD0 hDG hRES
  go_enter Tryz.func16, Tryz.ntmps16
  go_wp2_with fail
  obtain ⟨W1, hW1, c0, c1, hsz, hB1, -, -⟩ := box2 w (.int .i64 n) (.slice ao L cap) 25
  rw [hW1]
  clear hW1
  refine (HC.out W1 hB1).mono ?_
  rintro e w2 ⟨rfl, b2⟩
  obtain ⟨d0, d1, z2⟩ := boxC b2 (by omega) c0 c1
  have HB2 := Lib.hid (hB1.trans (b2.mono (by omega)))
  clear b2 c0 c1
  go_wp2_with ((with_reducible refine (HFN.out _).mono ?_); rintro e w' ⟨rfl, hw⟩; obtain rfl := hw)
  rw [HST2.out]
  go_loopw [3, 16] (fun t i wr => ∃ k : Nat, k ≤ L ∧ i = .int .i64 k ∧ t = .string (TX k) ∧ Below w2.heap.size w2 wr) (fun _ i _ => L - (intOf i).toNat)
  case atStart => exact ⟨0, Nat.zero_le _, rfl, rfl, Below.refl _ _⟩
  case round =>
    obtain ⟨k, hk, rfl, rfl, hb⟩ := hrel
    have HB := Lib.hid hb
    have HW : Hid (Below w.heap.size w wr) := HB2.out.trans (hb.mono HB2.out.size)
    have hzz := hb.size
    have hsx := HSX.out k hk
    by_cases hlt : k < L
    · have hki : (k : Int) < (L : Int) := by omega
      obtain ⟨i, j, hr, hi1, hj1, -⟩ := HP.out k hlt
      obtain ⟨q1, q2, q3, q4⟩ := HRW.out k hlt
      obtain ⟨ha1, hg1, hg2⟩ := HAO.out (by omega)
      subst ha1
      have hr2 : (xss.getD k []).length = 2 := by rw [hr]; rfl
      rw [hr2] at q1 q2 q3 q4
      obtain ⟨hA, hG1, hG2⟩ := q3 (by omega)
      have e0 := q4 0 (by omega)
      have e1 := q4 1 (by omega)
      rw [hr] at e0 e1
      rw [hA] at q1
      have hwz := HW.out.size
      have c2 : wr.cell? ⟨g, k, none⟩ = some (.slice (some ⟨G k, 0, none⟩) 2 (C k)) := (HW.out.cell (p := ⟨g, k, none⟩) (by show g < _; omega)).trans q1
      have c3 : wr.cell? ⟨G k, 0, none⟩ = some (.int .i64 i) := (HW.out.cell (p := ⟨G k, 0, none⟩) (by show G k < _; omega)).trans e0
      have c4 : wr.cell? ⟨G k, 1, none⟩ = some (.int .i64 j) := (HW.out.cell (p := ⟨G k, 1, none⟩) (by show G k < _; omega)).trans e1
      have hGw : G k < wr.heap.size := by omega
      have HI := Lib.hid (HFD.out i (by omega))
      have HJ := Lib.hid (HFD.out j (by omega))
      have HT := Lib.hid (HSN2.out k i j hlt hr)
      have s1 := HSG.out i
      have s2 := HSG.out j
      obtain ⟨DI, hDI⟩ : ∃ D, D = DG i := ⟨_, rfl⟩
      obtain ⟨DJ, hDJ⟩ : ∃ D, D = DG j := ⟨_, rfl⟩
      obtain ⟨TK, hTK⟩ : ∃ D, D = TX k := ⟨_, rfl⟩
      obtain ⟨GK, hGK⟩ : ∃ D, D = G k := ⟨_, rfl⟩
      obtain ⟨CK, hCK⟩ : ∃ D, D = C k := ⟨_, rfl⟩
      rw [← hDI] at HI HT s1
      rw [← hDJ] at HJ HT s2
      rw [← hTK] at HT hsx ⊢
      rw [← hGK] at c2 c3 c4 hGw
      rw [← hCK] at c2
      clear hDI hDJ hTK hGK hCK hr q1 q2 q3 q4 e0 e1 hb hA hr2 hG1 hG2
      go_wp2_with fail
      refine wp_region_later wr.heap.size wr (by kernel_rfl) (by kernel_rfl) (Below.refl _ _) ?_
      have hLW := LW.cells (B := wr.heap.size) (w0 := wr)
      repeat (go_big_quiet_step (first | (go_at_call 40; with_reducible exact LW.call_same (HI.out _)) | (go_at_call 40; with_reducible exact LW.call_same (HJ.out _)) | fail))
      refine wpQuiet_nil ?_
      rintro w5 ⟨⟨w2s, hb5⟩, rfl⟩
      clear hLW
      go_wp2_with fail
      go_roundw
      case rel => exact ⟨k + 1, by omega, by go_num, by rw [HT.out], HB.out.trans (hb5.mono hzz)⟩
      case measure => simp [intOf]; omega
    · have hki : ¬ (k : Int) < (L : Int) := by omega
      have HE : Hid (TX k = RES) := by show _ = _; rw [← HEN2.out, show k = L by omega]
      go_wp2
      go_ret
      exact ⟨by rw [HE.out]; rfl, HW.out⟩
end Go.Proofs.YtiodolbgapjmkaaGreatDoor
