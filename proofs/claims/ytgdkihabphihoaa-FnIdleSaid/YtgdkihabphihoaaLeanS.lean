/- Comparators that are not needed left out, the last ones first: the reference on sorting networks. Conditions: the network sorts. -/
import Derived.Test.YtgdkihabphihoaaLean
namespace Go.Proofs.Ytgdkihabphihoaa
open Go.RowKit
set_option maxRecDepth 100000
set_option linter.unusedVariables false
set_option linter.unusedSimpArgs false

set_option maxHeartbeats 4000000 in
theorem LeanNetwork_s_yes (n : Nat) (lo hi : Nat) (v : Value) (vs : List Value) (xss : List (List Int)) (w : World) (hv : OwnR w lo hi v vs xss) (hhi : hi ≤ w.heap.size) (hs : sortsR n xss = true) :
    Calls Try.prog 32 #[.agg #[.int .i64 n, v]] w (NetC w n (leanX n xss xss.length) true) := by
  have HC : Hid (∀ w, OwnR w lo hi v vs xss → hi ≤ w.heap.size → Calls Try.prog 97 #[.agg #[.int .i64 n, v]] w fun e w' => e = .returned (.bool true) ∧ Below w.heap.size w w') := fun w h1 h2 => by
    have := IsSorting_s n lo hi v vs xss w h1 h2
    rwa [hs] at this
  have HSO := Lib.hid hs
  have hl60 := netOk_len (sortsR_ok hs)
  obtain ⟨R, hR⟩ : ∃ R, R = leanX n xss xss.length := ⟨_, rfl⟩
  have HR := Lib.hid hR
  rw [← hR]
  obtain ⟨ao, g, cap, rfl, -, -, -⟩ := hv.rows
  have HV := Lib.hid hv
  obtain ⟨L, hlen⟩ : ∃ l, l = xss.length := ⟨_, rfl⟩
  have HLEN := Lib.hid hlen
  rw [← hlen] at HV HC hl60 ⊢
  have hwl : IntKind.i64.wrap ((L : Int) - 1) = (L : Int) - 1 := IntWalk.i64_in _ (by omega)
  clear hv hlen hs hR
  go_enter Try.func32, Try.ntmps32
  go_wp2_with fail
  obtain ⟨W1, hW1, c0, c1, hsz, hB1, -, -⟩ := box2 w (.int .i64 n) (.slice ao L cap) 27
  have hb9 := blk_new W1 (.cells #[.int .i64 0, .slice none 0 0] 27)
  obtain ⟨W2, hW2⟩ : ∃ W, W = W1.alloc (.cells #[.int .i64 0, .slice none 0 0] 27) := ⟨_, rfl⟩
  have hBa : Below W1.heap.size W1 W2 := by rw [hW2]; exact (Below.refl _ _).alloc (Nat.le_refl _) _
  have hs2 : W2.heap.size = W1.heap.size + 1 := by rw [hW2]; simp
  rw [← hW2] at hb9
  obtain ⟨c0, c1, hz0⟩ := boxC hBa (by omega) c0 c1
  have hB2 : Below w.heap.size w W2 := hB1.trans (hBa.mono (by omega))
  rw [hsz] at hb9
  try rw [hW1, ← hW2]
  have hw2 : w.heap.size + 1 < W2.heap.size := by omega
  clear hW1 hW2 hBa hs2 hsz hB1
  refine (HC.out W2 (HV.out.below hB2 (by omega)) (by omega)).mono ?_
  rintro e w3 ⟨rfl, b3⟩
  obtain ⟨d0, d1, z3⟩ := boxC b3 hz0 c0 c1
  have hr9 := blk_below hb9 b3 hw2
  have HR9 := Lib.hid hr9
  have zz3 := b3.size
  have HV3 := Lib.hid ((HV.out.below hB2 hhi).below b3 (by omega))
  have HB3 : Hid (Below w.heap.size w w3) := hB2.trans (b3.mono (by omega))
  have hw3 : w.heap.size + 1 < w3.heap.size := by omega
  have hle3 : hi ≤ w3.heap.size := by omega
  clear c0 c1 hb9 b3 hB2 HC HV hz0 hw2 zz3
  have CO : Hid (∀ w, OwnR w lo hi (.slice ao L cap) vs xss → hi ≤ w.heap.size → Calls Try.prog 111 #[.slice ao L cap] w (RowC w xss)) := fun w h1 h2 => l02Copy_c n lo hi _ vs xss w h1 h2 (sortsR_ok HSO.out)
  have HV4 : Hid (OwnR w3.drew lo hi (.slice ao L cap) vs xss) := HV3.out.below ((Below.refl _ _).drew) hle3
  obtain ⟨WA, hWA⟩ : ∃ W, W = w3.alloc (.cells #[.int .i64 0, .slice none 0 0] 27) := ⟨_, rfl⟩
  have hAs : WA.heap.size = w3.heap.size + 1 := by rw [hWA]; simp
  have hAb : Below w3.heap.size w3 WA := by rw [hWA]; exact (Below.refl _ _).alloc (Nat.le_refl _) _
  have HAb := Lib.hid hAb
  have hAx : WA.heap[w3.heap.size]? = some (.cells #[.int .i64 0, .slice none 0 0] 27 (0, 0)) := by rw [hWA]; exact blk_new _ _
  have HAx := Lib.hid hAx
  have HV5 : Hid (OwnR WA.drew lo hi (.slice ao L cap) vs xss) := HV3.out.below (hAb.drew) hle3
  have hle5 : hi ≤ WA.drew.heap.size := by show hi ≤ WA.heap.size; omega
  obtain ⟨dd0, dd1, zz3⟩ := boxC hAb z3 d0 d1
  have hAlt : w3.heap.size < WA.heap.size := by omega
  have HWA := Lib.hid hWA
  clear hWA hAb hAx
  go_wp2_with fail
  go_region_law (first | (go_simp; go_at_call 111; refine (CO.out w3.drew HV4.out hle3).mono ?_; rintro e w4 ⟨u, us, rfl, o4, b4⟩; have d4 := undrew b4; obtain ⟨ao4, g4, cap4, e4, -, -, -⟩ := o4.rows; rw [← HLEN.out] at e4; subst e4; obtain ⟨e0, e1, z4⟩ := boxC d4 z3 d0 d1; have O4 := Lib.hid o4; have D4 := Lib.hid d4; clear o4 b4 d4) | (go_simp; go_at_call 111; rw [← HWA.out]; refine (CO.out WA.drew HV5.out hle5).mono ?_; rintro e w4 ⟨u, us, rfl, o4, b4⟩; have d4 := undrew b4; obtain ⟨ao4, g4, cap4, e4, -, -, -⟩ := o4.rows; rw [← HLEN.out] at e4; subst e4; obtain ⟨e0, e1, z4⟩ := boxC d4 zz3 dd0 dd1; have hx4 := blk_below HAx.out d4 hAlt; have p0 := blk_cell hx4 0; have p1 := blk_cell hx4 1; have r0 := blk_free hx4 0; have r1 := blk_free hx4 1; have HX4 := Lib.hid hx4; have O4 := Lib.hid o4; have D4 := Lib.hid d4; clear hx4 o4 b4 d4) | fail)
  all_goals
    first
      | (obtain ⟨W5, hW5⟩ : ∃ W, W = w4.alloc (.cells #[.int .i64 n, .slice ao4 L cap4] 27) := ⟨_, rfl⟩
         obtain ⟨X, hX⟩ : ∃ X, X = w4.heap.size := ⟨_, rfl⟩
         rw [← hW5, ← hX]
         have hb5 : W5.heap[X]? = some (.cells #[.int .i64 n, .slice ao4 L cap4] 27 (0, 0)) := by rw [hW5, hX]; exact blk_new _ _
         have hB5 : Below w3.heap.size w3 W5 := by rw [hW5]; exact (D4.out.mono (Nat.le_refl _)).alloc D4.out.size _
         have O5 : Hid (OwnR W5 w3.heap.size W5.heap.size (.slice ao4 L cap4) us xss) := by
           show OwnR _ _ _ _ _ _
           rw [hW5]
           exact (O4.out.alloc _).mono (Nat.le_refl _) (by simp)
         have hs5 : X < W5.heap.size := by rw [hX, hW5]; simp
         have hX3 : w3.heap.size ≤ X := by rw [hX]; exact D4.out.size
         clear hW5 hX)
      | (obtain ⟨W5, hW5⟩ : ∃ W, W = (w4.setCell ⟨w3.heap.size, 0, none⟩ (.int .i64 n)).setCell ⟨w3.heap.size, 1, none⟩ (.slice ao4 L cap4) := ⟨_, rfl⟩
         obtain ⟨X, hX⟩ : ∃ X, X = w3.heap.size := ⟨_, rfl⟩
         rw [← hW5, ← hX]
         have hb5 : W5.heap[X]? = some (.cells #[.int .i64 n, .slice ao4 L cap4] 27 (0, 0)) := by rw [hW5, hX]; exact box_set1 (box_set0 HX4.out)
         have hB5 : Below w3.heap.size w3 W5 := by rw [hW5]; exact ((HAb.out.trans (D4.out.mono HAb.out.size)).setCell (by show w3.heap.size ≤ w3.heap.size; omega) _).setCell (by show w3.heap.size ≤ w3.heap.size; omega) _
         have O5 : Hid (OwnR W5 w3.heap.size W5.heap.size (.slice ao4 L cap4) us xss) := by
           show OwnR _ _ _ _ _ _
           rw [hW5]
           exact ((O4.out.past_box HX4.out).past_box (box_set0 HX4.out)).mono HAb.out.size (by simp [World.setCell])
         have hs5 : X < W5.heap.size := lt_of_block hb5
         have hX3 : w3.heap.size ≤ X := by rw [hX]; exact Nat.le_refl _
         clear hW5 hX)
    have hr5 := blk_below hr9 hB5 hw3
    obtain ⟨f0, f1, z5⟩ := boxC hB5 z3 d0 d1
    have HBw : Hid (Below w.heap.size w W5) := HB3.out.trans (hB5.mono (by omega))
    have HR5 := Lib.hid (blk_below HR9.out hB5 hw3)
    have HX5 := Lib.hid hb5
    have O6 : Hid (OwnR W5 w.heap.size W5.heap.size (.slice ao4 L cap4) us xss) := O5.out.mono (by omega) (Nat.le_refl _)
    obtain ⟨f0, f1, z5⟩ := boxC hB5 z3 d0 d1
    have e0 := blk_cell hb5 0
    have e1 := blk_cell hb5 1
    replace e0 : W5.cell? ⟨X, 0, none⟩ = some (.int .i64 n) := e0
    replace e1 : W5.cell? ⟨X, 1, none⟩ = some (.slice ao4 L cap4) := e1
    have hX4 : w.heap.size + 1 < X := by omega
    clear hB5 hb5 O4 O5 D4 HV3 HV4 CO d0 d1 dd0 dd1
    first | clear HX4 p0 p1 r0 r1 | skip
    go_wp2_with fail
    try simp only [hwl]
    go_loopw [5] (fun t5 wr => ∃ (t : Nat) (yss : List (List Int)) (u : Value) (us : List Value), t ≤ yss.length ∧ t5 = .int .i64 ((t : Int) - 1) ∧ Hid (leanX n yss t = R) ∧ sortsR n yss = true ∧ wr.heap[X]? = some (.cells #[.int .i64 n, u] 27 (0, 0)) ∧ Hid (OwnR wr w.heap.size wr.heap.size u us yss) ∧ Below X W5 wr) (fun t5 wr => lenAt wr ⟨X, 1, none⟩ * 100 + (intOf t5 + 1).toNat)
    case atStart => exact ⟨L, xss, _, us, by have := HLEN.out; omega, rfl, (by show leanX n xss L = R; rw [HR.out, HLEN.out]), HSO.out, HX5.out, O6.out, Below.refl _ _⟩
    case round =>
      obtain ⟨t, yss, u, us, ht, rfl, HLX, hso, hbx, HO, hB⟩ := hrel
      have hyok := sortsR_ok hso
      have hy60 := netOk_len hyok
      have HSY := Lib.hid hso
      obtain ⟨ao5, g5, cap5, e5, -, -, -⟩ := HO.out.rows
      obtain ⟨M, hM⟩ : ∃ M, M = yss.length := ⟨_, rfl⟩
      have HM := Lib.hid hM
      rw [← hM] at e5 hy60 ht
      subst e5
      clear e0 e1
      have e0 := blk_cell hbx 0
      have e1 := blk_cell hbx 1
      replace e0 : wr.cell? ⟨X, 0, none⟩ = some (.int .i64 n) := e0
      replace e1 : wr.cell? ⟨X, 1, none⟩ = some (.slice ao5 M cap5) := e1
      have HBX := Lib.hid hbx
      have HB := Lib.hid hB
      have hltX : X < wr.heap.size := lt_of_block hbx
      have hl0 : lenAt wr ⟨X, 1, none⟩ = M := by unfold lenAt; rw [e1]
      have HL0 := Lib.hid hl0
      clear hso hM hbx hB HX5 O6 hl0 f0 f1
      by_cases h0 : t = 0
      · subst h0
        have hRY : Hid (yss = R) := by
          have := HLX.out
          rwa [leanX_zero] at this
        have hr9 := blk_below HR5.out HB.out (by omega)
        have q0 := blk_cell hr9 0
        have q1 := blk_cell hr9 1
        have x0 := blk_free hr9 0
        have x1 := blk_free hr9 1
        have HRR := Lib.hid hr9
        have HBf : Hid (Below w.heap.size w wr) := HBw.out.trans (HB.out.mono (by omega))
        have hng : ((0 : Nat) : Int) - 1 < 0 := by omega
        clear hr9
        go_wp2
        refine bodyPost_ret (v := .tuple #[.agg #[.int .i64 n, .slice ao5 M cap5], .bool true]) (by simp [results, Try.results32, go_sem, q0, q1]) rfl ?_
        refine ⟨_, us, rfl, ?_, (HBf.out.setCell (by show w.heap.size ≤ w.heap.size + 1; omega) _).setCell (by show w.heap.size ≤ w.heap.size + 1; omega) _⟩
        rw [← hRY.out]
        exact ((HO.out.past_box HRR.out).past_box (box_set0 HRR.out)).mono (by omega) (by simp [World.setCell])
      · obtain ⟨k, rfl⟩ : ∃ k, t = k + 1 := ⟨t - 1, by omega⟩
        have e9 : ((k + 1 : Nat) : Int) - 1 = (k : Int) := by omega
        rw [e9]
        have HE9 := Lib.hid e9
        have hk0 : ¬ (k : Int) < 0 := by omega
        have hk1 : (0 : Int) ≤ (k : Int) := by omega
        have hwk : IntKind.i64.wrap ((k : Int) - 1) = (k : Int) - 1 := IntWalk.i64_in _ (by omega)
        have hkM : k < M := by omega
        have DR : Hid (Calls Try.prog 98 #[.agg #[.int .i64 n, .slice ao5 M cap5], .int .i64 k] wr fun e w' => ∃ u us, e = .returned (.agg #[.int .i64 n, u]) ∧ OwnR w' wr.heap.size w'.heap.size u us (yss.eraseIdx k) ∧ Below wr.heap.size wr w') := l06Drop_c n w.heap.size wr.heap.size _ us yss wr HO.out (Nat.le_refl _) hyok k
        have hEL : (yss.eraseIdx k).length = M - 1 := by rw [List.length_eraseIdx, if_pos (by rw [← HM.out]; exact hkM), ← HM.out]
        clear h0 e9 ht hyok
        go_wp2_with fail
        refine DR.out.mono ?_
        rintro e w6 ⟨u6, us6, rfl, o6, b6⟩
        obtain ⟨ao6, g6, cap6, e6, -, -, -⟩ := o6.rows
        rw [hEL] at e6
        subst e6
        have zb6 := b6.size
        have hbx6 := blk_below HBX.out b6 hltX
        have HBX6 := Lib.hid hbx6
        have O6 := Lib.hid o6
        have OY6 := Lib.hid (HO.out.below b6 (Nat.le_refl _))
        have B6 := Lib.hid b6
        have hwm : IntKind.i64.wrap (((M - 1 : Nat) : Int) - 1) = ((M - 1 : Nat) : Int) - 1 := IntWalk.i64_in _ (by omega)
        clear b6 o6 hbx6 e0 e1
        go_wp2_with fail
        obtain ⟨W7, hW7, t0, t1, hs7, hB7, -, -⟩ := box2 w6 (.int .i64 n) (.slice ao6 (M - 1) cap6) 27
        rw [hW7]
        clear hW7
        have hzt : w6.heap.size < W7.heap.size := by omega
        have O7 := Lib.hid (O6.out.below hB7 (Nat.le_refl _))
        have OY7 := Lib.hid (OY6.out.below hB7 zb6)
        have HBX7 := Lib.hid (blk_below HBX6.out hB7 (by omega))
        have B7 : Hid (Below wr.heap.size wr W7) := B6.out.trans (hB7.mono zb6)
        clear hB7
        refine (IsSorting_s n wr.heap.size w6.heap.size _ us6 _ W7 O7.out (by omega)).mono ?_
        rintro e w8 ⟨rfl, b8⟩
        have hbx8 := blk_below HBX7.out b8 (by omega)
        have y0 := blk_free hbx8 0
        have y1 := blk_free hbx8 1
        have e0 := blk_cell hbx8 0
        have e1 := blk_cell hbx8 1
        replace e0 : w8.cell? ⟨X, 0, none⟩ = some (.int .i64 n) := e0
        replace e1 : w8.cell? ⟨X, 1, none⟩ = some (.slice ao5 M cap5) := e1
        have HBX8 := Lib.hid hbx8
        obtain ⟨t0, t1, hzt8⟩ := boxC b8 hzt t0 t1
        have O8 := Lib.hid (O7.out.below b8 (by omega))
        have OY8 := Lib.hid (OY7.out.below b8 (by omega))
        have z8 := b8.size
        have B8 : Hid (Below X W5 w8) := HB.out.trans ((B7.out.trans (b8.mono (by omega))).mono (by omega))
        have hl8 : lenAt w8 ⟨X, 1, none⟩ = M := by unfold lenAt; rw [e1]
        have HL8 := Lib.hid hl8
        clear b8 hbx8 hl8
        have hsn : sortsR n (yss.eraseIdx k) = !(needL n yss k) := by simp [needL]
        rw [hsn]
        clear hsn
        cases hnd : needL n yss k
        · have HND := Lib.hid hnd
          clear hnd
          go_wp2
          go_roundw
          case rel =>
            refine ⟨M - 1, yss.eraseIdx k, .slice ao6 (M - 1) cap6, us6, by rw [hEL]; exact Nat.le_refl _, rfl, ?_, need_erase HND.out, ?_, ?_, (B8.out.setCell (by show X ≤ X; omega) _).setCell (by show X ≤ X; omega) _⟩
            · show leanX _ _ _ = _
              rw [← HLX.out, leanX_yes (by rw [← HM.out]; exact hkM) HND.out, ← HM.out]
            · exact box_set1 (box_set0 HBX8.out)
            · exact ((O8.out.past_box HBX8.out).past_box (box_set0 HBX8.out)).mono (by omega) (by simp [World.setCell]; omega)
          case measure =>
            rw [HL0.out]
            have : lenAt ((w8.setCell ⟨X, 0, none⟩ (.int .i64 n)).setCell ⟨X, 1, none⟩ (.slice ao6 (M - 1) cap6)) ⟨X, 1, none⟩ = M - 1 := by
              unfold lenAt
              rw [blk_cell (box_set1 (box_set0 HBX8.out)) 1]
              rfl
            rw [this]
            simp [intOf]
            omega
        · have HND := Lib.hid hnd
          clear hnd
          go_wp2
          go_roundw
          case rel => exact ⟨k, yss, .slice ao5 M cap5, us, by rw [← HM.out]; omega, rfl, (by show leanX _ _ _ = _; rw [← HLX.out, leanX_no HND.out]), HSY.out, HBX8.out, OY8.out.mono (Nat.le_refl _) (by omega), B8.out⟩
          case measure =>
            rw [HL0.out, HL8.out]
            simp [intOf]
end Go.Proofs.Ytgdkihabphihoaa
