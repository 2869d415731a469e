/- A network without a comparator. Conditions: the network is valid. -/
import Derived.Test.YtgdkihabphihoaaRenamed
namespace Go.Proofs.Ytgdkihabphihoaa
open Go.RowKit
set_option maxRecDepth 100000
set_option linter.unusedVariables false
set_option linter.unusedSimpArgs false

theorem erase_snoc {α : Type} {l : List α} {x : α} {k : Nat} (h : l.length ≠ k) : (l ++ [x]).eraseIdx k = l.eraseIdx k ++ [x] := by
  by_cases hk : k < l.length
  · rw [List.eraseIdx_append_of_lt_length hk]
  · rw [List.eraseIdx_append_of_length_le (by omega), List.eraseIdx_of_length_le (l := l) (by omega)]
    congr 1
    exact List.eraseIdx_of_length_le (by simp; omega)
theorem erase_last {α : Type} {l : List α} {x : α} {k : Nat} (h : l.length = k) : (l ++ [x]).eraseIdx k = l.eraseIdx k := by
  rw [List.eraseIdx_append_of_length_le (by omega), List.eraseIdx_of_length_le (l := l) (by omega)]
  simp [h]

set_option maxHeartbeats 2000000 in
theorem l06Drop_c (n : Nat) (lo hi : Nat) (v : Value) (vs : List Value) (xss : List (List Int)) (w : World) (hv : OwnR w lo hi v vs xss) (hhi : hi ≤ w.heap.size) (hok : netOk n xss = true) (idx : Nat) :
    Calls Try.prog 98 #[.agg #[.int .i64 n, v], .int .i64 idx] w fun e w' => ∃ u us, e = .returned (.agg #[.int .i64 n, u]) ∧ OwnR w' w.heap.size w'.heap.size u us (xss.eraseIdx idx) ∧ Below w.heap.size w w' := by
  have HV := Lib.hid hv
  have HP := Lib.hid (netOk_pair hok)
  have hl60 := netOk_len hok
  obtain ⟨ao, g, cap0, A, G, C, rfl, hcap, hao, hrow⟩ := hv.view
  have HRW := Lib.hid hrow
  obtain ⟨L, hlen⟩ : ∃ l, l = xss.length := ⟨_, rfl⟩
  have HLEN := Lib.hid hlen
  rw [← hlen] at HV hl60 hcap hao HRW HP ⊢
  clear hv hlen hok hrow
  go_enter Try.func98, Try.ntmps98
  go_wp2_with fail
  obtain ⟨W1, hW1, c0, c1, hsz, hB1, -, -⟩ := box2 w (.int .i64 n) (.slice ao L cap0) 27
  have hs1 : w.heap.size + 1 = W1.heap.size := by omega
  rw [hW1]
  clear hW1
  have HS1 := Lib.hid hs1
  try rw [hs1]
  obtain ⟨W, hW, hnb, hrs, hbw, hszW⟩ := netInit W1 n
  try rw [hW]
  clear hW
  have hx : W1.heap.size + 1 < W.heap.size := by omega
  have hB2 : Below W1.heap.size W1 W := hbw
  have HB0 : Hid (Below w.heap.size w W) := hB1.trans (hbw.mono (by omega))
  have hw1 : w.heap.size < W1.heap.size := by omega
  clear c0 c1 hsz hs1
  go_loopw [14] (fun i wr => ∃ k : Nat, k ≤ L ∧ i = .int .i64 k ∧ ∃ v us, NB wr (W1.heap.size + 1) n v us ((xss.take k).eraseIdx idx) ∧ Below (W1.heap.size + 1) W wr) (fun i _ => L - (intOf i).toNat)
  case atStart => exact ⟨0, Nat.zero_le _, rfl, _, _, by simpa using hnb, Below.refl _ _⟩
  case round =>
    obtain ⟨k, hk, rfl, v, us, hN, hB⟩ := hrel
    have HRS := Lib.hid (blk_below hrs hB (by omega))
    have HN := Lib.hid hN
    have HB := Lib.hid hB
    have hzB := hB.size
    have HSZ := Lib.hid hszW
    clear hnb hrs hszW hbw
    by_cases hlt : k < L
    · obtain ⟨e0, e1, y0, y1⟩ := hN.cells
      have hXl := hN.lt
      obtain ⟨i, j, hr, hi1, hj1, hne⟩ := HP.out k hlt
      obtain ⟨q1, q2, q3, q4⟩ := HRW.out k hlt
      obtain ⟨rfl, hg1, hg2⟩ := hao (by omega)
      rw [hr] at q1 q2 q3 q4
      obtain ⟨ea, g3, g4⟩ := q3 (by simp)
      rw [ea] at q1
      have hbw : Below w.heap.size w wr := HB0.out.trans (hB.mono (by omega))
      have c0 : wr.cell? ⟨g, k, none⟩ = some (.slice (some ⟨G k, 0, none⟩) 2 (C k)) := (hbw.cell (p := ⟨g, k, none⟩) (by show g < _; omega)).trans q1
      have c1 : wr.cell? ⟨G k, 0, none⟩ = some (.int .i64 i) := (hbw.cell (p := ⟨G k, 0, none⟩) (by show G k < _; omega)).trans (q4 0 (by simp))
      have c2 : wr.cell? ⟨G k, 1, none⟩ = some (.int .i64 j) := (hbw.cell (p := ⟨G k, 1, none⟩) (by show G k < _; omega)).trans (q4 1 (by simp))
      have HT : Hid (k ≠ idx → (xss.take (k + 1)).eraseIdx idx = (xss.take k).eraseIdx idx ++ [[(i : Int), (j : Int)]]) := by
        show _ → _
        intro hne
        rw [take_snoc_getD [] (by have := HLEN.out; omega), hr]
        exact erase_snoc (by rw [List.length_take]; have := HLEN.out; omega)
      have HT2 : Hid (k = idx → (xss.take (k + 1)).eraseIdx idx = (xss.take k).eraseIdx idx) := by
        show _ → _
        rintro rfl
        rw [take_snoc_getD [] (by have := HLEN.out; omega)]
        exact erase_last (by rw [List.length_take]; have := HLEN.out; omega)
      have HLN : Hid (((xss.take k).eraseIdx idx).length ≤ 1000000) := by show _ ≤ _; have := List.length_eraseIdx_le (l := xss.take k) (i := idx); rw [List.length_take] at this; omega
      have HBX := Lib.hid hN.box
      have HRd := Lib.hid (hN.own.kept (w' := wr.drew) fun _ _ _ _ => rfl)
      have hz2 : W1.heap.size + 1 + 1 ≤ wr.drew.heap.size := hXl
      have HS : ∀ W', Below (W1.heap.size + 1 + 1) wr W' → W'.cell? ⟨G k, 0, none⟩ = some (.int .i64 i) ∧ W'.cell? ⟨G k, 1, none⟩ = some (.int .i64 j) ∧ W'.cell? ⟨W1.heap.size + 1, 1, none⟩ = some v := fun W' hb =>
        ⟨(hb.cell (p := ⟨G k, 0, none⟩) (by show G k < _; omega)).trans c1, (hb.cell (p := ⟨G k, 1, none⟩) (by show G k < _; omega)).trans c2, (hb.cell (p := ⟨W1.heap.size + 1, 1, none⟩) (by show W1.heap.size + 1 < _; omega)).trans e1⟩
      have HSS := Lib.hid HS
      have hzd : W1.heap.size + 1 + 1 ≤ wr.drew.heap.size := hXl
      have hA1 : ∀ X : Obj, Below (W1.heap.size + 1 + 1) wr (wr.drew.alloc X) := fun X => (Below.refl _ _).drew.alloc hzd _
      have hA2 : ∀ X Y : Obj, Below (W1.heap.size + 1 + 1) wr ((wr.drew.alloc X).alloc Y) := fun X Y => (hA1 X).alloc (by simp; omega) _
      have HA1 := Lib.hid hA1
      have HA2 := Lib.hid hA2
      clear hA1 hA2
      have hKK : keptC 0 0 wr.drew wr.drew v := fun k k1 k2 => by omega
      have HKK := Lib.hid hKK
      have h00 : 0 ≤ wr.drew.heap.size := Nat.zero_le _
      clear hN hB hr ea q1 q2 q3 q4 HS hKK hbw
      by_cases hki : k = idx
      · subst hki
        go_wp2_with fail
        go_roundw
        case rel => exact ⟨k + 1, by omega, by go_num, v, us, by rw [HT2.out rfl]; exact HN.out, HB.out⟩
        case measure => simp [intOf]; omega
      · have hkI : ¬ (k : Int) = (idx : Int) := by omega
        go_wp2_with fail
        refine wpU_start (S := fun W' : World => W'.cell? ⟨G k, 0, none⟩ = some (.int .i64 i) ∧ W'.cell? ⟨G k, 1, none⟩ = some (.int .i64 j) ∧ W'.cell? ⟨W1.heap.size + 1, 1, none⟩ = some v) (m := 12) (by kernel_rfl) ?_
        have hHeld : (fun W' : World => W'.cell? ⟨G k, 0, none⟩ = some (.int .i64 i) ∧ W'.cell? ⟨G k, 1, none⟩ = some (.int .i64 j) ∧ W'.cell? ⟨W1.heap.size + 1, 1, none⟩ = some v) wr.drew := ⟨c1, c2, e1⟩
        refine wpU_take (i := 0) (v := ?v0) rfl (by kernel_rfl) (fun _ _ _ h => h) ⟨by rfl, ?hy0⟩ hHeld ?rest0
        case hy0 => (intro w hSw; (try dsimp only at hSw); go_simp; try with_reducible rfl)
        try simp only [Act.put, List.setIfInBounds_toArray, List.set_cons_zero, List.set_cons_succ]
        refine wpU_take (i := 1) (v := ?v1) rfl (by kernel_rfl) (fun _ _ _ h => h) ⟨by rfl, ?hy1⟩ hHeld ?rest1
        case hy1 => (intro w hSw; (try dsimp only at hSw); go_simp; try with_reducible rfl)
        try simp only [Act.put, List.setIfInBounds_toArray, List.set_cons_zero, List.set_cons_succ]
        refine wpU_take (i := 2) (v := ?v2) rfl (by kernel_rfl) (fun _ _ _ h => h) ⟨by rfl, ?hy2⟩ hHeld ?rest2
        case hy2 => (intro w hSw; (try dsimp only at hSw); go_simp; try with_reducible rfl)
        try simp only [Act.put, List.setIfInBounds_toArray, List.set_cons_zero, List.set_cons_succ]
        refine wpU_take (i := 3) (v := ?v3) rfl (by kernel_rfl) (fun _ _ _ h => h) ⟨by rfl, ?hy3⟩ hHeld ?rest3
        case hy3 => (intro w hSw; (try dsimp only at hSw); go_simp; try with_reducible rfl)
        try simp only [Act.put, List.setIfInBounds_toArray, List.set_cons_zero, List.set_cons_succ]
        refine wpU_take (i := 4) (v := ?v4) rfl (by kernel_rfl) (fun _ _ _ h => h) ⟨by rfl, ?hy4⟩ hHeld ?rest4
        case hy4 => (intro w hSw; (try dsimp only at hSw); go_simp; try with_reducible rfl)
        try simp only [Act.put, List.setIfInBounds_toArray, List.set_cons_zero, List.set_cons_succ]
        refine wpU_take (i := 5) (v := ?v5) rfl (by kernel_rfl) (fun _ _ _ h => h) ⟨by rfl, ?hy5⟩ hHeld ?rest5
        case hy5 => (intro w hSw; (try dsimp only at hSw); go_simp; try with_reducible rfl)
        try simp only [Act.put, List.setIfInBounds_toArray, List.set_cons_zero, List.set_cons_succ]
        refine wpU_take (i := 6) (v := ?v6) rfl (by kernel_rfl) (fun _ _ _ h => h) ⟨by rfl, ?hy6⟩ hHeld ?rest6
        case hy6 => (intro w hSw; (try dsimp only at hSw); go_simp; try with_reducible rfl)
        try simp only [Act.put, List.setIfInBounds_toArray, List.set_cons_zero, List.set_cons_succ]
        refine wpU_take (i := 7) (v := ?v7) rfl (by kernel_rfl) (fun _ _ _ h => h) ⟨by rfl, ?hy7⟩ hHeld ?rest7
        case hy7 => (intro w hSw; (try dsimp only at hSw); go_simp; try with_reducible rfl)
        try simp only [Act.put, List.setIfInBounds_toArray, List.set_cons_zero, List.set_cons_succ]
        refine wpU_one (i := 8) (by kernel_rfl) rfl (fun K hK => ?_)
        go_simp
        refine hK.out _ _ (HSS.out _ (HA1.out _)) (fun hHeld => ?_)
        clear hK K
        try simp only [Act.put, List.setIfInBounds_toArray, List.set_cons_zero, List.set_cons_succ]
        refine wpU_one (i := 9) (by kernel_rfl) rfl (fun K hK => ?_)
        go_simp
        refine hK.out _ _ (HSS.out _ (HA2.out _ _)) (fun hHeld => ?_)
        clear hK K
        try simp only [Act.put, List.setIfInBounds_toArray, List.set_cons_zero, List.set_cons_succ]
        refine wpU_one (i := 10) (by kernel_rfl) rfl (fun K hK => ?_)
        refine wp_app_pairC (.tmp 23) (.tmp 31) rfl wr.drew (i : Int) (j : Int) (W1.heap.size + 1 + 1) _ us ((xss.take k).eraseIdx idx) 0 0 wr.drew HRd.out hz2 HKK.out h00 HLN.out rfl rfl ?_; intro g' L' cap' w8 vs8 hL8 o8 q8 z8 k8 y8; have bx8 := blk_below HBX.out (undrew q8) (by omega); have x0 := blk_cell bx8 0; have x1 := blk_cell bx8 1; have x2 := blk_free bx8 1; have BX8 := Lib.hid bx8; have O8 := Lib.hid o8; have Q8 := Lib.hid (undrew q8); clear o8 k8 bx8
        refine hK.out _ _ (HSS.out _ Q8.out) (fun hHeld => ?_)
        clear hK K
        try simp only [Act.put, List.setIfInBounds_toArray, List.set_cons_zero, List.set_cons_succ]
        refine wpU_take (i := 11) (v := ?v11) rfl (by kernel_rfl) (fun _ _ _ h => h) ⟨by rfl, ?hy11⟩ hHeld ?rest11
        case hy11 => (intro w hSw; (try dsimp only at hSw); go_simp; try with_reducible rfl)
        try simp only [Act.put, List.setIfInBounds_toArray, List.set_cons_zero, List.set_cons_succ]
        refine wpU_last (by kernel_rfl) rfl (fun K hK => ?_)
        go_simp
        refine hK.out _ _ ?_
        clear hK K
        try simp only [Act.put, List.setIfInBounds_toArray, List.set_cons_zero, List.set_cons_succ]
        refine wpU_done (by kernel_rfl) ?_ _
        go_wp2
        go_roundw
        case rel => exact ⟨k + 1, by omega, by go_num, _, vs8, by rw [HT.out hki]; exact NB.store BX8.out O8.out, (HB.out.trans (Q8.out.mono (by omega))).setCell (by show W1.heap.size + 1 ≤ W1.heap.size + 1; omega) _⟩
        case measure => simp [intOf]; omega
    · have HE : Hid ((xss.take k).eraseIdx idx = xss.eraseIdx idx) := by
        show _ = _
        rw [List.take_of_length_le (by have := HLEN.out; omega)]
      obtain ⟨r0, r1, y0, y1⟩ := hN.cells
      obtain ⟨hfin, hbel, q0, q1, x0, x1⟩ := netFin hN (by omega) HRS.out (hB2.trans (hB.mono (by omega)))
      have HFN := Lib.hid hfin
      have HL := Lib.hid hbel
      obtain ⟨M, hM⟩ : ∃ M, M = ((xss.take k).eraseIdx idx).length := ⟨_, rfl⟩
      obtain ⟨ao9, g9, cap9, ev, -, -, -⟩ := hN.own.rows
      rw [← hM] at ev
      have HBf : Hid (Below w.heap.size w wr) := HB0.out.trans (hB.mono (by omega))
      clear hfin hbel hN hB hM
      subst ev
      go_wp2
      refine bodyPost_ret (v := .agg #[.int .i64 n, .slice ao9 M cap9]) (by simp [results, Try.results98, go_sem, q0, q1]) rfl ⟨_, us, rfl, by rw [← HE.out]; exact HFN.out.mono (by omega) (Nat.le_refl _), (HBf.out.setCell (by show w.heap.size ≤ W1.heap.size; omega) _).setCell (by show w.heap.size ≤ W1.heap.size; omega) _⟩
end Go.Proofs.Ytgdkihabphihoaa
