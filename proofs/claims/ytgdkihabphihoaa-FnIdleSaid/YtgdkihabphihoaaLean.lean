/- Comparators that are not needed left out, the last ones first: the program's function on sorting networks. Conditions: the network sorts. -/
import Derived.Test.YtgdkihabphihoaaWLean
import Derived.Test.YtgdkihabphihoaaOut
namespace Go.Proofs.Ytgdkihabphihoaa
open Go.RowKit
set_option maxRecDepth 100000
set_option linter.unusedVariables false
set_option linter.unusedSimpArgs false

/-- The network when the comparators from i - 1 down are still to be looked at. -/
def leanX (n : Int) (xss : List (List Int)) (i : Nat) : List (List Int) :=
  match i with
  | 0 => xss
  | i + 1 => if h : i < xss.length ∧ sortsR n (xss.eraseIdx i) = true then leanX n (xss.eraseIdx i) (xss.length - 1) else leanX n xss i
termination_by (xss.length, i)
decreasing_by
  · have : (xss.eraseIdx i).length < xss.length := by rw [List.length_eraseIdx, if_pos h.1]; omega
    exact Prod.Lex.left _ _ this
  · exact Prod.Lex.right _ (by omega)
theorem leanX_yes {n : Int} {xss : List (List Int)} {i : Nat} (hi : i < xss.length) (h : needL n xss i = false) : leanX n xss (i + 1) = leanX n (xss.eraseIdx i) (xss.length - 1) := by
  rw [leanX, dif_pos ⟨hi, by simpa [needL] using h⟩]
theorem leanX_no {n : Int} {xss : List (List Int)} {i : Nat} (h : needL n xss i = true) : leanX n xss (i + 1) = leanX n xss i := by
  rw [leanX, dif_neg]
  rintro ⟨-, h2⟩
  unfold needL at h
  rw [h2] at h
  cases h
theorem leanX_zero {n : Int} {xss : List (List Int)} : leanX n xss 0 = xss := by rw [leanX]
theorem need_erase {n : Int} {xss : List (List Int)} {i : Nat} (h : needL n xss i = false) : sortsR n (xss.eraseIdx i) = true := by simpa [needL] using h
/-- The length of the slice that a cell holds. -/
def lenAt (w : World) (a : Addr) : Nat :=
  match w.cell? a with
  | some (.slice _ l _) => l
  | _ => 0

set_option maxHeartbeats 4000000 in
theorem LeanNetwork_i_yes (n : Nat) (lo hi : Nat) (v : Value) (vs : List Value) (xss : List (List Int)) (w : World) (hv : OwnR w lo hi v vs xss) (hhi : hi ≤ w.heap.size) (hs : sortsR n xss = true) :
    Calls Try.prog 33 #[.agg #[.int .i64 n, v]] w (NetC w n (leanX n xss xss.length) true) := by
  have HC : Hid (∀ w, OwnR w lo hi v vs xss → hi ≤ w.heap.size → Calls Try.prog 39 #[.agg #[.int .i64 n, v]] w fun e w' => e = .returned (.bool true) ∧ Below w.heap.size w w') := fun w h1 h2 => by
    have := IsSorting_i n lo hi v vs xss w h1 h2
    rwa [hs] at this
  have HSO := Lib.hid hs
  have hl60 := netOk_len (sortsR_ok hs)
  obtain ⟨R, hR⟩ : ∃ R, R = leanX n xss xss.length := ⟨_, rfl⟩
  have HR := Lib.hid hR
  rw [← hR]
  obtain ⟨ao, g, cap, rfl, -, -, -⟩ := hv.rows
  have HV := Lib.hid hv
  obtain ⟨L, hlen⟩ : ∃ l, l = xss.length := ⟨_, rfl⟩
  have HLEN := Lib.hid hlen
  rw [← hlen] at HV HC hl60 ⊢
  have hwl : IntKind.i64.wrap ((L : Int) - 1) = (L : Int) - 1 := IntWalk.i64_in _ (by omega)
  clear hv hlen hs hR
  go_enter Try.func33, Try.ntmps33
  go_wp2_with fail
  obtain ⟨W1, hW1, c0, c1, hsz, hB1, -, -⟩ := box2 w (.int .i64 n) (.slice ao L cap) 27
  have hb9 := blk_new W1 (.cells #[.int .i64 0, .slice none 0 0] 27)
  obtain ⟨W2, hW2⟩ : ∃ W, W = W1.alloc (.cells #[.int .i64 0, .slice none 0 0] 27) := ⟨_, rfl⟩
  have hBa : Below W1.heap.size W1 W2 := by rw [hW2]; exact (Below.refl _ _).alloc (Nat.le_refl _) _
  have hs2 : W2.heap.size = W1.heap.size + 1 := by rw [hW2]; simp
  rw [← hW2] at hb9
  obtain ⟨c0, c1, hz0⟩ := boxC hBa (by omega) c0 c1
  have hB2 : Below w.heap.size w W2 := hB1.trans (hBa.mono (by omega))
  rw [hsz] at hb9
  try rw [hW1, ← hW2]
  have hw2 : w.heap.size + 1 < W2.heap.size := by omega
  clear hW1 hW2 hBa hs2 hsz hB1
  refine (HC.out W2 (HV.out.below hB2 (by omega)) (by omega)).mono ?_
  rintro e w3 ⟨rfl, b3⟩
  obtain ⟨d0, d1, z3⟩ := boxC b3 hz0 c0 c1
  have hr9 := blk_below hb9 b3 hw2
  have HR9 := Lib.hid hr9
  have zz3 := b3.size
  have HV3 := Lib.hid ((HV.out.below hB2 hhi).below b3 (by omega))
  have HB3 : Hid (Below w.heap.size w w3) := hB2.trans (b3.mono (by omega))
  have hw3 : w.heap.size + 1 < w3.heap.size := by omega
  have hle3 : hi ≤ w3.heap.size := by omega
  clear c0 c1 hb9 b3 hB2 HC HV hz0 hw2 zz3 hr9
  go_wp2_with fail
  refine (own_c n lo hi _ vs xss w3 HV3.out hle3 (sortsR_ok HSO.out)).mono ?_
  rintro e w4 ⟨u4, us4, rfl, o4, b4⟩
  have z4 := b4.size
  obtain ⟨ao4, g4, cap4, e4, -, -, -⟩ := o4.rows
  rw [← HLEN.out] at e4
  subst e4
  have HR4 := Lib.hid (blk_below HR9.out b4 hw3)
  have HB4 : Hid (Below w.heap.size w w4) := HB3.out.trans (b4.mono (by omega))
  have O4 := Lib.hid o4
  clear b4 o4 d0 d1
  go_wp2_with fail
  have hb6 := blk_new w4 (.cells #[.int .i64 n, .slice ao4 L cap4] 27)
  obtain ⟨W6, hW6⟩ : ∃ W, W = w4.alloc (.cells #[.int .i64 n, .slice ao4 L cap4] 27) := ⟨_, rfl⟩
  have hB6 : Below w4.heap.size w4 W6 := by rw [hW6]; exact (Below.refl _ _).alloc (Nat.le_refl _) _
  have hs6 : W6.heap.size = w4.heap.size + 1 := by rw [hW6]; simp
  rw [← hW6] at hb6
  try rw [← hW6]
  clear hW6
  try simp only [hwl]
  have HB6 : Hid (Below w4.heap.size w4 W6) := hB6
  have HX6 := Lib.hid hb6
  have O6 : Hid (OwnR W6 w.heap.size W6.heap.size (.slice ao4 L cap4) us4 xss) := (O4.out.below hB6 (Nat.le_refl _)).mono (by omega) (by omega)
  clear hb6 hB6
  go_loopw [5] (fun t5 wr => ∃ (t : Nat) (yss : List (List Int)) (u : Value) (us : List Value), t ≤ yss.length ∧ t5 = .int .i64 ((t : Int) - 1) ∧ Hid (leanX n yss t = R) ∧ sortsR n yss = true ∧ wr.heap[w4.heap.size]? = some (.cells #[.int .i64 n, u] 27 (0, 0)) ∧ Hid (OwnR wr w.heap.size wr.heap.size u us yss) ∧ Below w4.heap.size w4 wr) (fun t5 wr => lenAt wr ⟨w4.heap.size, 1, none⟩ * 100 + (intOf t5 + 1).toNat)
  case atStart => exact ⟨L, xss, _, us4, by have := HLEN.out; omega, rfl, (by show leanX n xss L = R; rw [HR.out, HLEN.out]), HSO.out, HX6.out, O6.out, HB6.out⟩
  case round =>
    obtain ⟨t, yss, u, us, ht, rfl, HLX, hso, hbx, HO, hB⟩ := hrel
    have hyok := sortsR_ok hso
    have hy60 := netOk_len hyok
    have HSY := Lib.hid hso
    obtain ⟨ao5, g5, cap5, e5, -, -, -⟩ := HO.out.rows
    obtain ⟨M, hM⟩ : ∃ M, M = yss.length := ⟨_, rfl⟩
    have HM := Lib.hid hM
    rw [← hM] at e5 hy60 ht
    subst e5
    have e0 := blk_cell hbx 0
    have e1 := blk_cell hbx 1
    replace e0 : wr.cell? ⟨w4.heap.size, 0, none⟩ = some (.int .i64 n) := e0
    replace e1 : wr.cell? ⟨w4.heap.size, 1, none⟩ = some (.slice ao5 M cap5) := e1
    have y0 := blk_free hbx 0
    have y1 := blk_free hbx 1
    have HBX := Lib.hid hbx
    have HB := Lib.hid hB
    have hzB := hB.size
    have hltX : w4.heap.size < wr.heap.size := lt_of_block hbx
    have hl0 : lenAt wr ⟨w4.heap.size, 1, none⟩ = M := by unfold lenAt; rw [e1]
    have HL0 := Lib.hid hl0
    clear hso hM hbx hB HX6 O6 HB6 hl0
    by_cases h0 : t = 0
    · subst h0
      have hRY : Hid (yss = R) := by
        have := HLX.out
        rwa [leanX_zero] at this
      have hr9 := blk_below HR4.out HB.out (by omega)
      have q0 := blk_cell hr9 0
      have q1 := blk_cell hr9 1
      have x0 := blk_free hr9 0
      have x1 := blk_free hr9 1
      have HRR := Lib.hid hr9
      have HBf : Hid (Below w.heap.size w wr) := HB4.out.trans (HB.out.mono (by omega))
      have hng : ((0 : Nat) : Int) - 1 < 0 := by omega
      clear hr9
      go_wp2
      refine bodyPost_ret (v := .tuple #[.agg #[.int .i64 n, .slice ao5 M cap5], .bool true]) (by simp [results, Try.results33, go_sem, q0, q1]) rfl ?_
      refine ⟨_, us, rfl, ?_, (HBf.out.setCell (by show w.heap.size ≤ w.heap.size + 1; omega) _).setCell (by show w.heap.size ≤ w.heap.size + 1; omega) _⟩
      rw [← hRY.out]
      exact ((HO.out.past_box HRR.out).past_box (box_set0 HRR.out)).mono (by omega) (by simp [World.setCell])
    · obtain ⟨k, rfl⟩ : ∃ k, t = k + 1 := ⟨t - 1, by omega⟩
      have e9 : ((k + 1 : Nat) : Int) - 1 = (k : Int) := by omega
      rw [e9]
      have HE9 := Lib.hid e9
      have hk0 : ¬ (k : Int) < 0 := by omega
      have hk1 : (0 : Int) ≤ (k : Int) := by omega
      have hwk : IntKind.i64.wrap ((k : Int) - 1) = (k : Int) - 1 := IntWalk.i64_in _ (by omega)
      have hkM : k < M := by omega
      have IN : Hid (Calls Try.prog 56 #[.agg #[.int .i64 n, .slice ao5 M cap5], .int .i64 k] wr fun e w' => e = .returned (.bool (needL n yss k)) ∧ Below wr.heap.size wr w') := by
        have := IsNeeded_yes n w.heap.size wr.heap.size _ us yss wr HO.out (Nat.le_refl _) hyok k (by rw [← HM.out]; exact hkM)
        rwa [show needB n yss k = needL n yss k from by simp [needB, needL, HSY.out]] at this
      have hyok' := Lib.hid hyok
      clear h0 e9 ht hyok
      cases hnd : needL n yss k
      · have HND := Lib.hid hnd
        rw [hnd] at IN
        clear hnd
        go_wp2_with fail
        refine IN.out.mono ?_
        rintro e w5 ⟨rfl, b5⟩
        have hbx5 := blk_below HBX.out b5 hltX
        have HBX5 := Lib.hid hbx5
        have zb5 := b5.size
        obtain ⟨e0, e1, -⟩ := boxC b5 hltX e0 e1
        have O5 := Lib.hid (HO.out.below b5 (Nat.le_refl _))
        have B5 := Lib.hid b5
        clear b5 hbx5 y0 y1
        go_wp2_with fail
        refine (DropPair_yes n w.heap.size wr.heap.size _ us yss w5 O5.out zb5 hyok'.out k (by rw [← HM.out]; exact hkM)).mono ?_
        rintro e w6 ⟨u6, us6, rfl, o6, b6⟩
        have hEL : (yss.eraseIdx k).length = M - 1 := by rw [List.length_eraseIdx, if_pos (by rw [← HM.out]; exact hkM), ← HM.out]
        obtain ⟨ao6, g6, cap6, e6, -, -, -⟩ := o6.rows
        rw [hEL] at e6
        subst e6
        have hbx6 := blk_below HBX5.out b6 (by omega)
        have e0 := blk_cell hbx6 0
        have e1 := blk_cell hbx6 1
        have y0 := blk_free hbx6 0
        have y1 := blk_free hbx6 1
        replace e0 : w6.cell? ⟨w4.heap.size, 0, none⟩ = some (.int .i64 n) := e0
        replace e1 : w6.cell? ⟨w4.heap.size, 1, none⟩ = some (.slice ao5 M cap5) := e1
        have HBX6 := Lib.hid hbx6
        have zb6 := b6.size
        have O6 := Lib.hid o6
        have B6 : Hid (Below w4.heap.size w4 w6) := HB.out.trans ((B5.out.mono (by omega)).trans (b6.mono (by omega)))
        have hwm : IntKind.i64.wrap (((M - 1 : Nat) : Int) - 1) = ((M - 1 : Nat) : Int) - 1 := IntWalk.i64_in _ (by omega)
        clear b6 o6 hbx6
        go_wp2
        go_roundw
        case rel =>
          refine ⟨M - 1, yss.eraseIdx k, .slice ao6 (M - 1) cap6, us6, by rw [hEL]; exact Nat.le_refl _, rfl, ?_, need_erase HND.out, ?_, ?_, (B6.out.setCell (by show w4.heap.size ≤ w4.heap.size; omega) _).setCell (by show w4.heap.size ≤ w4.heap.size; omega) _⟩
          · show leanX _ _ _ = _
            rw [← HLX.out, leanX_yes (by rw [← HM.out]; exact hkM) HND.out, ← HM.out]
          · exact box_set1 (box_set0 HBX6.out)
          · exact ((O6.out.past_box HBX6.out).past_box (box_set0 HBX6.out)).mono (by omega) (by simp [World.setCell])
        case measure =>
          rw [HL0.out]
          have : lenAt ((w6.setCell ⟨w4.heap.size, 0, none⟩ (.int .i64 n)).setCell ⟨w4.heap.size, 1, none⟩ (.slice ao6 (M - 1) cap6)) ⟨w4.heap.size, 1, none⟩ = M - 1 := by
            unfold lenAt
            rw [blk_cell (box_set1 (box_set0 HBX6.out)) 1]
            rfl
          rw [this]
          simp [intOf]
          omega
      · have HND := Lib.hid hnd
        rw [hnd] at IN
        clear hnd
        go_wp2_with fail
        refine IN.out.mono ?_
        rintro e w5 ⟨rfl, b5⟩
        have hbx5 := blk_below HBX.out b5 hltX
        have HBX5 := Lib.hid hbx5
        have O5 := Lib.hid ((HO.out.below b5 (Nat.le_refl _)).mono (Nat.le_refl _) b5.size)
        have B5 : Hid (Below w4.heap.size w4 w5) := HB.out.trans (b5.mono (by omega))
        have e5 := blk_cell hbx5 1
        have hl5 : lenAt w5 ⟨w4.heap.size, 1, none⟩ = M := by unfold lenAt; rw [e5]; rfl
        have HL5 := Lib.hid hl5
        clear b5 hbx5 e5 hl5
        go_wp2
        go_roundw
        case rel => exact ⟨k, yss, .slice ao5 M cap5, us, by rw [← HM.out]; omega, rfl, (by show leanX _ _ _ = _; rw [← HLX.out, leanX_no HND.out]), HSY.out, HBX5.out, O5.out, B5.out⟩
        case measure =>
          rw [HL0.out, HL5.out]
          simp [intOf]
end Go.Proofs.Ytgdkihabphihoaa
