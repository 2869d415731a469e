/- The program's network read from its text, by its contract. Conditions: the network is valid; the variable of the library that bounds a search holds an int. -/
import Derived.Test.YtiodolbgapjmkaaGreatDoorTxtC
import Derived.Test.YtiodolbgapjmkaaGreatDoorPairC
import Derived.Test.YtiodolbgapjmkaaGreatDoorPast
namespace Go.Proofs.YtiodolbgapjmkaaGreatDoor
open Go.RowKit Go.Lib
set_option maxRecDepth 100000
set_option linter.unusedVariables false
set_option linter.unusedSimpArgs false

/-- The cells of the words. -/
def wordsV (n : Nat) (xss : List (List Int)) : Array Value := ((strB [digB n, 58] :: (xss.map wordT).map strB).map Value.string).toArray
theorem Split_z (n : Nat) (xss : List (List Int)) (h8 : n ≤ 8) (hX : pairUp n false xss) (hl : xss.length ≤ 60) (m : Int) (w : World) (hm : w.cell? ⟨0, 0, none⟩ = some (.int .i64 m)) :
    Calls Tryz.prog 41 #[.string (strB (fmtT n xss)), .string ⟨#[32]⟩] w fun e w' => e = .returned (.slice (some ⟨w.heap.size, 0, none⟩) (xss.length + 1) (xss.length + 1)) ∧ w' = w.alloc (.cells (wordsV n xss) 9) := by
  have hp : ∀ b ∈ [digB n, 58], b ≠ (32 : UInt8) := by
    intro b hb
    simp at hb
    rcases hb with rfl | rfl
    · exact (digB_ne n (by omega)).1
    · decide
  obtain ⟨h1, h2⟩ := split_words (xss.map wordT) [digB n, 58] hp (words_ok h8 hX)
  have h := Tryz.strings_Split (strB (fmtT n xss)) (strB [32]) m w (by rw [strB_size, fmtT_len]; omega) hm (by rw [strB_size]; simp)
  have e1 : countB (strB (fmtT n xss)) (strB [32]) = xss.length := by
    have := h1
    rw [List.length_map] at this
    exact this
  rw [List.length_map] at h2
  rw [e1] at h
  have e2 : splitB (strB [32]) 0 xss.length (strB (fmtT n xss)) = strB [digB n, 58] :: (xss.map wordT).map strB := h2
  rw [e2] at h
  exact h
theorem Trim_z (n : Nat) (h : n < 10) (w : World) : Calls Tryz.prog 43 #[.string (strB [digB n, 58]), .string ⟨#[58]⟩] w fun e w' => e = .returned (.string (strB [digB n])) ∧ w = w' := by
  have h1 := Tryz.strings_TrimSuffix (strB [digB n, 58]) (strB [58]) w (by rw [strB_size]; simp)
  rw [strB_data, strB_data, trim_colon n h] at h1
  exact h1.mono fun e w' ⟨a, b⟩ => ⟨a, b.symm⟩
theorem Cut_z (i j : Nat) (hi : i < 10) (hj : j < 10) (m : Int) (w : World) (hm : w.cell? ⟨0, 0, none⟩ = some (.int .i64 m)) :
    Calls Tryz.prog 44 #[.string (strB [digB i, 45, digB j]), .string ⟨#[45]⟩] w fun e w' => e = .returned (.tuple #[.string (strB [digB i]), .string (strB [digB j]), .bool true]) ∧ Below w.heap.size w w' := by
  have h1 := Tryz.strings_Cut (strB [digB i, 45, digB j]) (strB [45]) m w (by rw [strB_size]; simp) hm
  rw [strB_data, strB_data, cut_dash' i hi j hj] at h1
  exact h1.mono fun e w' ⟨a, q, b⟩ => ⟨a, by rw [b]; exact ⟨rfl, rfl, rfl, Nat.le_refl _, fun _ _ => rfl⟩⟩
set_option maxHeartbeats 4000000 in
theorem ParseNetwork_y (n : Nat) (xss : List (List Int)) (hok : netOk n xss = true) (m : Int) (w : World) (hm : w.cell? ⟨0, 0, none⟩ = some (.int .i64 m)) (h0 : 0 < w.heap.size) :
    Calls Tryz.prog 17 #[.string (strB (fmtT n xss))] w (NetC w n xss true) := by
  have h8 : n ≤ 8 := by have := (netOk_n hok).2; omega
  have hl60 := netOk_len hok
  have HP := Lib.hid (netOk_pair hok)
  have HOK := Lib.hid hok
  have HM := Lib.hid hm
  have HMB : Hid (∀ w1, Below w.heap.size w w1 → w1.cell? ⟨0, 0, none⟩ = some (.int .i64 m)) := fun w1 h1 => (h1.cell (p := ⟨0, 0, none⟩) h0).trans hm
  have HSP : Hid (∀ w1, Below w.heap.size w w1 → Calls Tryz.prog 41 #[.string (strB (fmtT n xss)), .string ⟨#[32]⟩] w1 fun e w' => e = .returned (.slice (some ⟨w1.heap.size, 0, none⟩) (xss.length + 1) (xss.length + 1)) ∧ w' = w1.alloc (.cells (wordsV n xss) 9)) :=
    fun w1 h1 => Split_z n xss h8 (pairUp_of_netOk hok) hl60 m w1 (HMB.out w1 h1)
  have HTR : Hid (∀ w1, Calls Tryz.prog 43 #[.string (strB [digB n, 58]), .string ⟨#[58]⟩] w1 fun e w' => e = .returned (.string (strB [digB n])) ∧ w1 = w') := Trim_z n (by omega)
  have HPN : Hid (∀ w1, Calls Tryz.prog 42 #[.string (strB [digB n])] w1 fun e w' => e = .returned (.tuple #[.int .i64 n, .bool true]) ∧ Below w1.heap.size w1 w') := ParseInt_c n (by omega)
  have HFM : Hid (∀ (w1 : World) (lo hi : Nat) (v : Value) (vs : List Value), OwnR w1 lo hi v vs xss → hi ≤ w1.heap.size → Calls Tryz.prog 16 #[.agg #[.int .i64 n, v]] w1 fun e w' => e = .returned (.string (strB (fmtT n xss))) ∧ Below w1.heap.size w1 w') := fun w1 lo hi v vs h1 h2 => FormatNetwork_y n lo hi v vs xss w1 h1 h2 hok
  have HWV0 : Hid ((wordsV n xss)[0]? = some (.string (strB [digB n, 58]))) := rfl
  have HWVK : Hid (∀ k i j : Nat, k < xss.length → xss.getD k [] = [(i : Int), (j : Int)] → (wordsV n xss)[k + 1]? = some (.string (strB [digB i, 45, digB j]))) := by
    intro k i j hk hr
    rw [List.getD_eq_getElem?_getD, List.getElem?_eq_getElem hk] at hr
    unfold wordsV
    rw [List.getElem?_toArray, List.map_cons, List.getElem?_cons_succ, List.getElem?_map, List.getElem?_map, List.getElem?_map, List.getElem?_eq_getElem hk]
    have hr' : xss[k] = [(i : Int), (j : Int)] := hr
    rw [hr']
    simp [wordT]
  have HTS : Hid (∀ k, k < xss.length → xss.take (k + 1) = xss.take k ++ [xss.getD k []]) := fun k hk => take_snoc_getD [] hk
  have HTE : Hid (xss.take xss.length = xss) := List.take_length
  obtain ⟨T, hT⟩ : ∃ T, T = strB (fmtT n xss) := ⟨_, rfl⟩
  obtain ⟨WV, hWV⟩ : ∃ W, W = wordsV n xss := ⟨_, rfl⟩
  obtain ⟨S0, hS0⟩ : ∃ S, S = strB [digB n, 58] := ⟨_, rfl⟩
  obtain ⟨SN, hSN⟩ : ∃ S, S = strB [digB n] := ⟨_, rfl⟩
  rw [← hT] at HSP HFM ⊢
  rw [← hWV] at HSP HWV0 HWVK
  rw [← hS0] at HWV0 HTR
  rw [← hSN] at HTR HPN
  obtain ⟨L, hL⟩ : ∃ L, L = xss.length := ⟨_, rfl⟩
  have HL := Lib.hid hL
  rw [← hL] at HSP HP hl60 HWVK HTS HTE
  clear hT hWV hS0 hSN hL hok hm
  go_enter Tryz.func17, Tryz.ntmps17
  go_wp2_with fail
  have q1 := blk_new w (.cells #[.int .i64 0, .slice none 0 0] 25)
  obtain ⟨W1, hW1⟩ : ∃ W, W = w.alloc (.cells #[.int .i64 0, .slice none 0 0] 25) := ⟨_, rfl⟩
  have hB1 : Below w.heap.size w W1 := by rw [hW1]; exact (Below.refl _ _).alloc (Nat.le_refl _) _
  have hz1 : W1.heap.size = w.heap.size + 1 := by rw [hW1]; simp
  rw [← hW1] at q1
  rw [← hW1]
  have HB1 := Lib.hid hB1
  clear hW1 hB1
  refine (HSP.out W1 HB1.out).mono ?_
  rintro e w2 ⟨rfl, hw2⟩
  have q2 : w2.heap[W1.heap.size]? = some (.cells WV 9 (0, 0)) := by rw [hw2]; exact blk_new _ _
  have hb2 : Below W1.heap.size W1 w2 := by rw [hw2]; exact (Below.refl _ _).alloc (Nat.le_refl _) _
  have hz2 : w2.heap.size = W1.heap.size + 1 := by rw [hw2]; simp
  have HQ2 := Lib.hid q2
  have HR2 := Lib.hid ((hb2.block w.heap.size (by omega)).trans q1)
  have HB2 := Lib.hid (HB1.out.trans (hb2.mono (by omega)))
  obtain ⟨B, hB⟩ : ∃ B, B = W1.heap.size := ⟨_, rfl⟩
  have c0 : w2.cell? ⟨B, 0, none⟩ = some (.string S0) := by rw [hB, blk_cell q2 0]; exact HWV0.out
  have hBw : w.heap.size < B := by omega
  have hB2 : B < w2.heap.size := by omega
  rw [← hB] at HQ2 ⊢
  clear hw2 q2 q1 hb2 hB hz1 hz2
  go_wp2_with ((with_reducible refine (HTR.out _).mono ?_); rintro e w' ⟨rfl, hw⟩; obtain rfl := hw)
  refine (HPN.out w2).mono ?_
  rintro e w3 ⟨rfl, b3⟩
  have HQ3 := Lib.hid ((b3.block B (by omega)).trans HQ2.out)
  have HR3 := Lib.hid ((b3.block w.heap.size (by omega)).trans HR2.out)
  have HB3 := Lib.hid (HB2.out.trans (b3.mono HB2.out.size))
  have hz3 := b3.size
  obtain ⟨X, hX⟩ : ∃ X, X = w3.heap.size := ⟨_, rfl⟩
  obtain ⟨W4, hW4⟩ : ∃ W, W = w3.alloc (.cells #[.int .i64 n, .slice none 0 0] 25) := ⟨_, rfl⟩
  have hb4 : Below w3.heap.size w3 W4 := by rw [hW4]; exact (Below.refl _ _).alloc (Nat.le_refl _) _
  have hz4 : W4.heap.size = X + 1 := by rw [hW4, hX]; simp
  have HX4 : Hid (W4.heap[X]? = some (.cells #[.int .i64 n, .slice none 0 0] 25 (0, 0))) := by show _ = _; rw [hW4, hX]; exact blk_new _ _
  have HQ4 := Lib.hid ((hb4.block B (by omega)).trans HQ3.out)
  have HR4 := Lib.hid ((hb4.block w.heap.size (by omega)).trans HR3.out)
  have HB4 := Lib.hid (HB3.out.trans (hb4.mono HB3.out.size))
  have HO4 : Hid (OwnR W4 X W4.heap.size (.slice none 0 0) [] []) := OwnR.nil _ _ _
  have hBX : B < X := by omega
  have hX4 : X < W4.heap.size := by omega
  have HW4 := Lib.hid hW4
  have HXE := Lib.hid hX
  clear b3 hb4 c0 hW4 hX hz4 hB2 hz3
  by_cases hL0 : L = 0
  · subst hL0
    go_wp2_with fail
    try rw [← HW4.out]
    try rw [← HXE.out]
    go_loopw [35] (fun t wr => ∃ k : Nat, k ≤ 0 ∧ t = .int .i64 k ∧ ∃ v us, wr.heap[X]? = some (.cells #[.int .i64 n, v] 25 (0, 0)) ∧ OwnR wr X wr.heap.size v us (xss.take k) ∧ Below X W4 wr) (fun t _ => 0 - (intOf t).toNat)
    case atStart => exact ⟨0, Nat.zero_le _, rfl, _, [], HX4.out, HO4.out, Below.refl _ _⟩
    case round =>
      obtain ⟨k, hk, rfl, v, us, hbx, ho, hb⟩ := hrel
      have HBX := Lib.hid hbx
      have HO := Lib.hid ho
      have HB := Lib.hid hb
      have hzb := hb.size
      have HWB : Hid (Below w.heap.size w wr) := HB4.out.trans (hb.mono (by omega))
      have HQR := Lib.hid ((hb.block B hBX).trans HQ4.out)
      have HRR := Lib.hid ((hb.block w.heap.size (by omega)).trans HR4.out)
      have hXl : X < wr.heap.size := by omega
      clear hbx ho hb
      · have hk0 : k = 0 := by omega
        subst hk0
        have HE : Hid (xss.take 0 = xss) := by show _ = _; exact HTE.out
        have hO := HO.out
        rw [HE.out] at hO
        obtain ⟨ao, g, cap, ev, -, -, -⟩ := hO.rows
        rw [← HL.out] at ev
        subst ev
        have HOF := Lib.hid hO
        have g0 := blk_cell HBX.out 0
        have g1 := blk_cell HBX.out 1
        have HF := Lib.hid (HFM.out wr X wr.heap.size _ us hO (Nat.le_refl _))
        clear hO
        go_wp2_with fail
        refine HF.out.mono ?_
        rintro e w9 ⟨rfl, b9⟩
        have HX9 := Lib.hid ((b9.block X hXl).trans HBX.out)
        have HR9 := Lib.hid ((b9.block w.heap.size (by omega)).trans HRR.out)
        have HO9 := Lib.hid ((HOF.out.later b9).mono (Nat.le_refl _) b9.size)
        have HB9 := Lib.hid (HWB.out.trans (b9.mono HWB.out.size))
        have hz9 := b9.size
        clear g0 g1 b9
        have g0 := blk_cell HX9.out 0
        have g1 := blk_cell HX9.out 1
        have CK := Lib.hid (checked_c n X w9.heap.size _ us xss w9 HO9.out (Nat.le_refl _))
        rw [HOK.out, if_pos rfl] at CK
        go_wp2_with fail
        refine CK.out.mono ?_
        rintro e wB ⟨rfl, bB⟩
        have HRB := Lib.hid ((bB.block w.heap.size (by omega)).trans HR9.out)
        have HBB := Lib.hid (HB9.out.trans (bB.mono HB9.out.size))
        have hzB := bB.size
        have OB := Lib.hid (HO9.out.later bB)
        have r0 := blk_cell HRB.out 0
        have r1 := blk_cell HRB.out 1
        have y0 := blk_free HRB.out 0
        have y1 := blk_free HRB.out 1
        have HFN : Hid (NetC w n xss true (.returned (.tuple #[.agg #[.int .i64 n, .slice ao 0 cap], .bool true])) ((wB.setCell ⟨w.heap.size, 0, none⟩ (.int .i64 n)).setCell ⟨w.heap.size, 1, none⟩ (.slice ao 0 cap))) := by
          refine ⟨_, us, rfl, ?_, (HBB.out.setCell (Nat.le_refl _) _).setCell (Nat.le_refl _) _⟩
          exact (OB.out.kept fun k h1 _ _ => by rw [Below.heap_setCell _ _ _ _ (by show k ≠ w.heap.size; omega), Below.heap_setCell _ _ _ _ (by show k ≠ w.heap.size; omega)]).mono (by omega) (by simp [World.setCell]; omega)
        have z0 := blk_cell (box_set1 (y := .slice ao 0 cap) (box_set0 (y := .int .i64 n) HRB.out)) 0
        have z1 := blk_cell (box_set1 (y := .slice ao 0 cap) (box_set0 (y := .int .i64 n) HRB.out)) 1
        clear bB g0 g1
        go_wp2
        exact bodyPost_ret (v := .tuple #[.agg #[.int .i64 n, .slice ao 0 cap], .bool true]) (by simp [results, Tryz.results17, go_sem, z0, z1]) rfl HFN.out
  · have hL0' : ¬ L = 0 := by omega
    go_wp2_with fail
    try rw [← HW4.out]
    try rw [← HXE.out]
    go_loopw [35] (fun t wr => ∃ k : Nat, k ≤ L ∧ t = .int .i64 k ∧ ∃ v us, wr.heap[X]? = some (.cells #[.int .i64 n, v] 25 (0, 0)) ∧ OwnR wr X wr.heap.size v us (xss.take k) ∧ Below X W4 wr) (fun t _ => L - (intOf t).toNat)
    case atStart => exact ⟨0, Nat.zero_le _, rfl, _, [], HX4.out, HO4.out, Below.refl _ _⟩
    case round =>
      obtain ⟨k, hk, rfl, v, us, hbx, ho, hb⟩ := hrel
      have HBX := Lib.hid hbx
      have HO := Lib.hid ho
      have HB := Lib.hid hb
      have hzb := hb.size
      have HWB : Hid (Below w.heap.size w wr) := HB4.out.trans (hb.mono (by omega))
      have HQR := Lib.hid ((hb.block B hBX).trans HQ4.out)
      have HRR := Lib.hid ((hb.block w.heap.size (by omega)).trans HR4.out)
      have hXl : X < wr.heap.size := by omega
      clear hbx ho hb
      by_cases hlt : k < L
      · have hki : (k : Int) < (L : Int) := by omega
        obtain ⟨i, j, hr, hi1, hj1, -⟩ := HP.out k hlt
        have c1 : wr.cell? ⟨B, 1 + k, none⟩ = some (.string (strB [digB i, 45, digB j])) := by rw [blk_cell HQR.out, Nat.add_comm]; exact HWVK.out k i j hlt hr
        have HCU := Lib.hid (Cut_z i j (by omega) (by omega) m wr (HMB.out wr HWB.out))
        have HPI : Hid (∀ w1, Calls Tryz.prog 42 #[.string (strB [digB i])] w1 fun e w' => e = .returned (.tuple #[.int .i64 i, .bool true]) ∧ Below w1.heap.size w1 w') := ParseInt_c i (by omega)
        have HPJ : Hid (∀ w1, Calls Tryz.prog 42 #[.string (strB [digB j])] w1 fun e w' => e = .returned (.tuple #[.int .i64 j, .bool true]) ∧ Below w1.heap.size w1 w') := ParseInt_c j (by omega)
        obtain ⟨SW, hSW⟩ : ∃ S, S = strB [digB i, 45, digB j] := ⟨_, rfl⟩
        obtain ⟨SI, hSI⟩ : ∃ S, S = strB [digB i] := ⟨_, rfl⟩
        obtain ⟨SJ, hSJ⟩ : ∃ S, S = strB [digB j] := ⟨_, rfl⟩
        rw [← hSW] at c1 HCU
        rw [← hSI] at HCU HPI
        rw [← hSJ] at HCU HPJ
        have HT2 : Hid (xss.take (k + 1) = xss.take k ++ [[(i : Int), (j : Int)]]) := by show _ = _; rw [HTS.out k hlt, hr]
        have HLN : Hid ((xss.take k).length ≤ 1000000) := by show _ ≤ _; rw [List.length_take, ← HL.out]; omega
        clear hSW hSI hSJ hr
        go_wp2_with fail
        refine HCU.out.mono ?_
        rintro e w5 ⟨rfl, b5⟩
        have HX5 := Lib.hid ((b5.block X hXl).trans HBX.out)
        have HO5 := Lib.hid ((HO.out.later b5).mono (Nat.le_refl _) b5.size)
        have HB5 := Lib.hid (HB.out.trans (b5.mono (by omega)))
        have hz5 := b5.size
        clear b5 c1
        go_wp2_with fail
        refine (HPI.out w5).mono ?_
        rintro e w6 ⟨rfl, b6⟩
        have HX6 := Lib.hid ((b6.block X (by omega)).trans HX5.out)
        have HO6 := Lib.hid ((HO5.out.later b6).mono (Nat.le_refl _) b6.size)
        have HB6 := Lib.hid (HB5.out.trans (b6.mono (by omega)))
        have hz6 := b6.size
        clear b6
        go_wp2_with fail
        refine (HPJ.out w6).mono ?_
        rintro e w7 ⟨rfl, b7⟩
        have HX7 := Lib.hid ((b7.block X (by omega)).trans HX6.out)
        have HO7 := Lib.hid ((HO6.out.later b7).mono (Nat.le_refl _) b7.size)
        have HB7 := Lib.hid (HB6.out.trans (b7.mono (by omega)))
        have hz7 := b7.size
        clear b7
        have g0 := blk_cell HX7.out 0
        have g1 := blk_cell HX7.out 1
        have HKC : Hid (keptC X (X + 1) w7 w7 v) := fun k k1 k2 => ⟨rfl, by
          rw [show k = X by omega]
          exact own_not_box HO7.out.top HX7.out (by decide)⟩
        have hlo7 : X ≤ w7.heap.size := by omega
        have hX17 : X + 1 ≤ w7.heap.size := by omega
        go_wp2_with (at_builtin; refine wpList_app_pairC rfl (.tmp 63) (.tmp 67) rfl w7 (i : Int) (j : Int) X _ us (xss.take k) X (X + 1) w7 HO7.out hlo7 HKC.out hX17 HLN.out rfl rfl ?_; intro g' L' cap' w8 us8 hL8 o8 q8 z8 k8 y8; have bx8 := ((k8 X (Nat.le_refl _) (by omega)).1).trans HX7.out; have r0 := blk_cell bx8 0; have r1 := blk_cell bx8 1; have r2 := blk_free bx8 1; have BX8 := Lib.hid bx8; have O8 := Lib.hid o8; have Q8 := Lib.hid q8; clear bx8 o8 q8 k8)
        go_roundw
        case rel => exact ⟨k + 1, by omega, by go_num, _, us8, box_set1 BX8.out, by rw [HT2.out]; exact (O8.out.past_box BX8.out).mono (Nat.le_refl _) (by simp [World.setCell]), (HB7.out.trans Q8.out).setCell (by show X ≤ X; omega) _⟩
        case measure => simp [intOf]; omega
      · have hki : ¬ (k : Int) < (L : Int) := by omega
        have HE : Hid (xss.take k = xss) := by show _ = _; rw [show k = L by omega]; exact HTE.out
        have hO := HO.out
        rw [HE.out] at hO
        obtain ⟨ao, g, cap, ev, -, -, -⟩ := hO.rows
        rw [← HL.out] at ev
        subst ev
        have HOF := Lib.hid hO
        have g0 := blk_cell HBX.out 0
        have g1 := blk_cell HBX.out 1
        have HF := Lib.hid (HFM.out wr X wr.heap.size _ us hO (Nat.le_refl _))
        clear hO
        go_wp2_with fail
        refine HF.out.mono ?_
        rintro e w9 ⟨rfl, b9⟩
        have HX9 := Lib.hid ((b9.block X hXl).trans HBX.out)
        have HR9 := Lib.hid ((b9.block w.heap.size (by omega)).trans HRR.out)
        have HO9 := Lib.hid ((HOF.out.later b9).mono (Nat.le_refl _) b9.size)
        have HB9 := Lib.hid (HWB.out.trans (b9.mono HWB.out.size))
        have hz9 := b9.size
        clear g0 g1 b9
        have g0 := blk_cell HX9.out 0
        have g1 := blk_cell HX9.out 1
        have CK := Lib.hid (checked_c n X w9.heap.size _ us xss w9 HO9.out (Nat.le_refl _))
        rw [HOK.out, if_pos rfl] at CK
        go_wp2_with fail
        refine CK.out.mono ?_
        rintro e wB ⟨rfl, bB⟩
        have HRB := Lib.hid ((bB.block w.heap.size (by omega)).trans HR9.out)
        have HBB := Lib.hid (HB9.out.trans (bB.mono HB9.out.size))
        have hzB := bB.size
        have OB := Lib.hid (HO9.out.later bB)
        have r0 := blk_cell HRB.out 0
        have r1 := blk_cell HRB.out 1
        have y0 := blk_free HRB.out 0
        have y1 := blk_free HRB.out 1
        have HFN : Hid (NetC w n xss true (.returned (.tuple #[.agg #[.int .i64 n, .slice ao L cap], .bool true])) ((wB.setCell ⟨w.heap.size, 0, none⟩ (.int .i64 n)).setCell ⟨w.heap.size, 1, none⟩ (.slice ao L cap))) := by
          refine ⟨_, us, rfl, ?_, (HBB.out.setCell (Nat.le_refl _) _).setCell (Nat.le_refl _) _⟩
          exact (OB.out.kept fun k h1 _ _ => by rw [Below.heap_setCell _ _ _ _ (by show k ≠ w.heap.size; omega), Below.heap_setCell _ _ _ _ (by show k ≠ w.heap.size; omega)]).mono (by omega) (by simp [World.setCell]; omega)
        have z0 := blk_cell (box_set1 (y := .slice ao L cap) (box_set0 (y := .int .i64 n) HRB.out)) 0
        have z1 := blk_cell (box_set1 (y := .slice ao L cap) (box_set0 (y := .int .i64 n) HRB.out)) 1
        clear bB g0 g1
        go_wp2
        exact bodyPost_ret (v := .tuple #[.agg #[.int .i64 n, .slice ao L cap], .bool true]) (by simp [results, Tryz.results17, go_sem, z0, z1]) rfl HFN.out
end Go.Proofs.YtiodolbgapjmkaaGreatDoor
