/- Networks that often sort, as the laws draw them, and their standard forms. Conditions: the code has at most 1048576 bytes. -/
import Derived.Test.YtgdkihabphihoaaStdS
import Derived.Test.YtgdkihabphihoaaPast
import Derived.Lib.SliceRun
import Derived.Deep.RegionHeld3
namespace Go.Proofs.Ytgdkihabphihoaa
open Go.RowKit
set_option maxRecDepth 100000
set_option linter.unusedVariables false

/-- Cells of a list of lists appended to another such list of the call's own: what becomes of the list's own block. -/
theorem wp_app_cells {o : Oper} {a : Act} {K : Act → World → Prop} {Q : Exit → Act → World → Prop} (s x : Operand)
    (ho : o.op = .call { callee := .builtin .append, args := #[s, x], argTypes := #[22, 22] })
    (W : World) (lo hi : Nat) (v : Value) (vs : List Value) (ad : Addr) (m c : Nat) (ws : List Value) (hR : Own 31 W lo hi v vs) (hlo : lo ≤ W.heap.size)
    (hm : ws.length = m) (hcell : ∀ (j : Nat) (t : Value), ws[j]? = some t → W.cell? (ad.add j) = some t) (h1 : ∀ t ∈ ws, t.oneCell' = true) (hlen : vs.length + ws.length ≤ 1000000)
    (hs : a.eval s = v) (hx : a.eval x = .slice (some ad) m c)
    (h : ∀ ao L cap w', Hid (L = vs.length + ws.length) → Own 31 w' lo w'.heap.size (.slice ao L cap) (vs ++ ws) → W.grownBy w' v.ownBlock → K (a.put o.dst (.slice ao L cap)) w') :
    o.wp Try.prog a W K Q := by
  obtain ⟨i0, hi0, hz0, hz1, hz2⟩ := info_parts Try.infoS
  refine wp_append_own W s x 22 ho lo 31 i0 (.slice none 0 0) 1 24 Try.underlying22 hi0 hz0 hz1 hz2 rfl (by decide) v vs.length vs hs hR.row ad m c ws (by rw [hx]) (by omega) hcell h1 (by unfold maxLen; omega) (by omega) hlo ?_
  intro v' w' hown hg hnil
  have ho2 : Own 31 w' lo w'.heap.size v' (vs ++ ws) := by
    refine Own.of_row ?_
    rw [List.length_append, hm]
    exact hown
  obtain ⟨ao, g2, cap2, e, -, -, -⟩ := ho2.view
  rw [List.length_append] at e
  subst e
  exact h ao _ cap2 w' rfl ho2 hg
theorem own_emptyS (w : World) : Own 31 (w.alloc (.cells #[] 31)) w.heap.size (w.heap.size + 1) (.slice (some ⟨w.heap.size, 0, none⟩) 0 0) [] := (ownR_empty w).top
theorem grown_below {w w' : World} {D : Nat} {row : Option Nat} (h : w.grownBy w' row) (hD : D ≤ w.heap.size) (hr : ∀ k, row = some k → D ≤ k) : Below D w w' :=
  ⟨h.os, h.tape, h.output, h.size, fun k hk => h.block k (by omega) (fun e => by have := hr k e.symm; omega)⟩
/-- A list of lists without one of its rows, whose cells lie in a new block. -/
theorem ownR_without {w w' : World} {lo hi : Nat} {v v' : Value} {vs : List Value} {xss : List (List Int)} (h : OwnR w lo hi v vs xss) (k : Nat) (hk : k < xss.length) (hb : Below hi w w') (hlo : lo ≤ hi) (hh : hi ≤ w.heap.size)
    (ht : Own 31 w' lo w'.heap.size v' (vs.take k ++ vs.drop (k + 1))) : OwnR w' lo w'.heap.size v' (vs.take k ++ vs.drop (k + 1)) (xss.take k ++ xss.drop (k + 1)) := by
  have hl := h.len
  have hz := hb.size
  refine ⟨ht, by simp [hl], fun i u xs h1 h2 => ?_, ?_⟩
  · have hvl : (vs.take k).length = k := by rw [List.length_take]; omega
    have hxl : (xss.take k).length = k := by rw [List.length_take]; omega
    rcases (by omega : i < k ∨ k ≤ i) with hi' | hi'
    · rw [List.getElem?_append_left (by omega), List.getElem?_take_of_lt hi'] at h1 h2
      exact Own.mono (Own.below (h.row i u xs h1 h2) hb (Nat.le_refl _)) (Nat.le_refl _) (by omega)
    · rw [List.getElem?_append_right (by omega), List.getElem?_drop, hvl] at h1
      rw [List.getElem?_append_right (by omega), List.getElem?_drop, hxl] at h2
      exact Own.mono (Own.below (h.row _ u xs h1 h2) hb (Nat.le_refl _)) (Nat.le_refl _) (by omega)
  · have := h.sep
    refine List.Pairwise.sublist ?_ this
    have e : vs.take k ++ vs.drop (k + 1) = vs.eraseIdx k := by rw [List.eraseIdx_eq_take_drop_succ]
    rw [e]
    exact List.eraseIdx_sublist vs k
theorem pairUp_without {n : Nat} {up : Bool} {xss : List (List Int)} (h : pairUp n up xss) (k : Nat) : pairUp n up (xss.take k ++ xss.drop (k + 1)) := by
  intro r hr
  rw [List.mem_append] at hr
  rcases hr with hr | hr
  · exact h r (List.mem_of_mem_take hr)
  · exact h r (List.mem_of_mem_drop hr)
theorem box_new {w : World} {X : Nat} {c : Array Value} {T : TypeId} {f : Nat × Nat} (h : w.heap[X]? = some (.cells c T f)) {w' : World} (hb : Below w.heap.size w w') : w'.heap[X]? = some (.cells c T f) := (hb.block X (lt_of_block h)).trans h

set_option maxHeartbeats 4000000 in
theorem l03Net_c (p B : Nat) (w : World) (hc : Cur w p B) :
    Calls Try.prog 136 #[.pointer (some ⟨p, 0, none⟩), .int .i64 6] w (CurNet w p B 6 40) := by
  have HC := Lib.hid hc
  have hp := hc.lt
  clear hc
  have hbx := blk_new w (.cells #[.int .i64 0, .slice none 0 0] 27)
  obtain ⟨W0, hW0⟩ : ∃ W, W = w.alloc (.cells #[.int .i64 0, .slice none 0 0] 27) := ⟨_, rfl⟩
  have HB0 : Hid (Below w.heap.size w W0) := by show Below _ _ _; rw [hW0]; exact (Below.refl _ _).alloc (Nat.le_refl _) _
  have hs0 : W0.heap.size = w.heap.size + 1 := by rw [hW0]; simp
  have HW := Lib.hid hW0
  rw [← hW0] at hbx
  have HBX := Lib.hid hbx
  have hs0' : w.heap.size < W0.heap.size := by omega
  clear hW0 hbx hs0
  go_enter Try.func136, Try.ntmps136
  go_wp2_with fail
  try rw [← HW.out]
  have HC0 := Lib.hid (HC.out.below HB0.out hp)
  refine (l02Draw_c p B 6 W0 HC0.out (by omega) (by omega)).mono ?_
  rintro e w1 ⟨n, v, vs, xss, rfl, hn1, hn6, hpu, hxl, o1, c1, b1⟩
  have z1 := b1.size
  have HBX1 := Lib.hid (b1.blk HBX.out (by omega) (by omega))
  have B1 : Hid (But w.heap.size p w w1) := (But.of_below HB0.out (by omega) (Nat.le_refl _)).trans (b1.mono (by omega))
  have O1 : Hid (OwnR w1 (w.heap.size + 1) w1.heap.size v vs xss) := o1.mono (by omega) (Nat.le_refl _)
  have C1 := Lib.hid c1
  obtain ⟨ao, g, cap, ev, -, -, -⟩ := o1.rows
  obtain ⟨L, hL⟩ : ∃ L, L = xss.length := ⟨_, rfl⟩
  have HLL := Lib.hid hL
  rw [← hL] at ev hxl
  subst ev
  have HPU := Lib.hid hpu
  have HX1 := Lib.hid hxl
  clear o1 c1 b1 hL hpu
  go_wp2_with fail
  obtain ⟨W2, hW2, d0, d1, hs2, hB2, f0, f1⟩ := box2 w1 (.int .i64 n) (.slice ao L cap) 27
  have HBX2 := Lib.hid ((hB2.block w.heap.size (by omega)).trans HBX1.out)
  have HB2 := Lib.hid hB2
  have hbw2 : Hid (W2.heap[w1.heap.size]? = some (.cells #[.int .i64 n, .slice ao L cap] 27 (0, 0))) := by show _ = _; rw [← hW2]; exact blk_new _ _
  rw [hW2]
  clear hW2
  have C2 := Lib.hid (C1.out.below hB2 (by omega))
  have O2 : Hid (OwnR W2 (w.heap.size + 1) W2.heap.size (.slice ao L cap) vs xss) := (O1.out.later hB2).mono (Nat.le_refl _) hB2.size
  have B2 : Hid (But w.heap.size p w W2) := B1.out.trans (But.of_below hB2 (by omega) (by omega))
  clear hB2
  refine (l01Once_c p B 2 W2 C2.out (by omega) (by omega)).mono ?_
  rintro e w3 ⟨x, rfl, c3, b3⟩
  have z3 := b3.size
  have HBX3 := Lib.hid (b3.blk HBX2.out (by omega) (by omega))
  have HBY3 := Lib.hid (b3.blk hbw2.out (by omega) (by omega))
  have B3 : Hid (But w.heap.size p w w3) := B2.out.trans (b3.mono (by omega))
  have O3 : Hid (OwnR w3 (w.heap.size + 1) w3.heap.size (.slice ao L cap) vs xss) := (b3.ownR O2.out (by omega) (Nat.le_refl _)).mono (Nat.le_refl _) z3
  have C3 := Lib.hid c3
  have FIN : Hid (∀ (wf : World) (yss : List (List Int)) (us : List Value) (u : Value) (ao9 : Option Addr) (L9 cap9 : Nat), u = .slice ao9 L9 cap9 → wf.heap[w.heap.size]? = some (.cells #[.int .i64 0, .slice none 0 0] 27 (0, 0)) → OwnR wf (w.heap.size + 1) wf.heap.size u us yss → Cur wf p B → But w.heap.size p w wf → pairUp n false yss → yss.length ≤ 40 →
      CurNet w p B 6 40 (.returned (.agg #[.int .i64 n, u])) ((wf.setCell ⟨w.heap.size, 0, none⟩ (.int .i64 n)).setCell ⟨w.heap.size, 1, none⟩ u)) := by
    show ∀ wf yss us u ao9 L9 cap9, _
    intro wf yss us u ao9 L9 cap9 _ _ o9 c9 b9 h1 h2
    exact ⟨n, u, us, yss, rfl, hn1, hn6, h1, h2, (set_two_ownR o9 (by omega)).mono (by omega) (by simp [World.setCell]), (c9.set_far hp).set_far hp, (b9.trans (But.set_far (Nat.le_refl _) hp)).trans (But.set_far (Nat.le_refl _) hp)⟩
  clear c3 b3 d0 d1 f0 f1
  have d0 := blk_cell HBY3.out 0
  have d1 := blk_cell HBY3.out 1
  have f1 := blk_free HBY3.out 1
  cases x
  · have c0 := blk_cell HBX3.out 0
    have c1 := blk_cell HBX3.out 1
    have g0 := blk_free HBX3.out 0
    have g1 := blk_free HBX3.out 1
    have HF := Lib.hid (FIN.out w3 xss vs _ ao L cap rfl HBX3.out O3.out C3.out B3.out HPU.out (by have := HLL.out; have := HX1.out; omega))
    go_wp2
    exact bodyPost_ret (v := .agg #[.int .i64 n, .slice ao L cap]) (by simp [results, Try.results136, go_sem, c0, c1]) rfl HF.out
  · have hw13 : w1.heap.size < w3.heap.size := by omega
    obtain ⟨Y, hY⟩ : ∃ Y, Y = w1.heap.size := ⟨_, rfl⟩
    rw [← hY] at HBY3 d0 d1 f1 hw13 ⊢
    have hYw : w.heap.size < Y := by omega
    clear hs2 hY
    go_wp2_with fail
    obtain ⟨W4, hW4⟩ : ∃ W, W = (w3.setCell ⟨Y, 1, none⟩ (.slice (some ⟨w3.heap.size, 0, none⟩) 0 0)).alloc (.cells #[] 31) := ⟨_, rfl⟩
    have hs4 : W4.heap.size = w3.heap.size + 1 := by rw [hW4]; simp [World.setCell]
    have hb4 : Below Y w3 W4 := by rw [hW4]; exact ((Below.refl Y w3).setCell (by show Y ≤ Y; omega) _).alloc (by simp [World.setCell]; omega) _
    have hN4 : NB W4 Y n (.slice (some ⟨w3.heap.size, 0, none⟩) 0 0) [] [] := by
      have e := ownR_empty (w3.setCell ⟨Y, 1, none⟩ (.slice (some ⟨w3.heap.size, 0, none⟩) 0 0))
      rw [show (w3.setCell ⟨Y, 1, none⟩ (.slice (some ⟨w3.heap.size, 0, none⟩) 0 0)).heap.size = w3.heap.size from by simp [World.setCell], ← hW4] at e
      refine ⟨?_, e.mono (by omega) (by omega)⟩
      rw [hW4]
      exact blk_old (box_set1 HBY3.out) _
    have hBB : But w.heap.size p w3 W4 := But.of_below hb4 (by omega) (by omega)
    rw [← hW4]
    clear hW4
    have HN4 := Lib.hid hN4
    have HB4 := Lib.hid hb4
    have C4 := Lib.hid (C3.out.below hb4 (by omega))
    have BB4 : Hid (But w.heap.size p w W4) := B3.out.trans hBB
    have HBX4 := Lib.hid ((hb4.block w.heap.size (by omega)).trans HBX3.out)
    clear d0 d1 f1 hN4 hb4 hBB
    go_loopw [6] (fun j wr => ∃ t : Nat, t + 1 ≤ n ∧ j = .int .i64 ((t : Int) + 1) ∧ ∃ v vs yss, NB wr Y n v vs yss ∧ Below Y W4 wr ∧ pairUp n false yss ∧ yss.length ≤ 6 * t) (fun j _ => (n - (intOf j).toNat))
    case atStart => exact ⟨0, by omega, by go_num, _, _, _, HN4.out, Below.refl _ _, pairUp_nil _ _, by simp⟩
    case round =>
      obtain ⟨t, ht, rfl, v, vs, yss, hN, hB, hpu, hyl⟩ := hrel
      obtain ⟨d0, d1, y0, f1⟩ := hN.cells
      have HN := Lib.hid hN
      have HB := Lib.hid hB
      have HPU := Lib.hid hpu
      have HYL := Lib.hid hyl
      have hYl := hN.lt
      clear hN hB hpu hyl
      by_cases hlt : t + 1 < n
      · have hj : (t : Int) + 1 < (n : Int) := by omega
        go_wp2_with fail
        go_loopw [7] (fun i wr => ∃ k : Nat, k ≤ t + 1 ∧ i = .int .i64 (k : Int) ∧ ∃ v vs yss, NB wr Y n v vs yss ∧ Below Y W4 wr ∧ pairUp n false yss ∧ yss.length + k ≤ 6 * t + (t + 1)) (fun i _ => (intOf i).toNat)
        case atStart => exact ⟨t + 1, by omega, by go_num, _, _, _, HN.out, HB.out, HPU.out, by have := HYL.out; omega⟩
        case round =>
          obtain ⟨k, hk, rfl, v, vs, yss, hN, hB, hpu, hyl⟩ := hrel
          clear d0 d1 y0 f1 HN HB HPU HYL hYl
          obtain ⟨d0, d1, y0, f1⟩ := hN.cells
          have HN := Lib.hid hN
          have HB := Lib.hid hB
          have HPU := Lib.hid hpu
          have HYL := Lib.hid hyl
          have hYl := hN.lt
          have HLN : Hid (yss.length ≤ 1000000) := by show _ ≤ _; omega
          clear hN hB hpu hyl
          by_cases hk0 : 0 < k
          · have e1 : 0 < (k : Int) := by omega
            obtain ⟨q, rfl⟩ : ∃ q, k = q + 1 := ⟨k - 1, by omega⟩
            have HS := Lib.hid (pairUp_snoc HPU.out (a := q) (b := q + 1) (by omega) (by omega) (by omega) (fun h => by simp at h))
            have hYl2 : Y + 1 ≤ wr.heap.size := by omega
            go_wp2_with (at_builtin; refine wpList_app_pair rfl (.tmp 28) (.tmp 33) rfl wr _ _ (Y + 1) v vs yss HN.out.own hYl2 HLN.out rfl rfl ?_; intro g7 L7 cap7 w7 us7 hL7 o7 b7 z7; have O7 := Lib.hid o7; have B7 := Lib.hid b7; have bx7 := blk_below HN.out.box b7 (by omega); have BX7 := Lib.hid bx7; have r0 := blk_free bx7 1; have r1 := blk_cell bx7 1; clear o7 b7 bx7)
            go_roundw
            case rel => exact ⟨q, by omega, by go_num, _, us7, _, NB.store BX7.out O7.out, (HB.out.trans (B7.out.mono (by omega))).setCell (by show Y ≤ Y; omega) _, by have := HS.out; push_cast at this ⊢; simpa using this, by have := HYL.out; simp; omega⟩
            case measure => simp [intOf]
          · have e1 : ¬ 0 < (k : Int) := by omega
            go_wp2
            go_roundw
            case rel => exact ⟨t + 1, by omega, by go_num, v, vs, yss, HN.out, HB.out, HPU.out, by have := HYL.out; omega⟩
            case measure => simp [intOf]; omega
      · have hj : ¬ (t : Int) + 1 < (n : Int) := by omega
        have C9 := Lib.hid (C4.out.below HB.out (by omega))
        have BB9 : Hid (But w.heap.size p w wr) := BB4.out.trans (But.of_below HB.out (by omega) (by omega))
        have HBX9 := Lib.hid ((HB.out.block w.heap.size (by omega)).trans HBX4.out)
        have HBY9 := Lib.hid HN.out.box
        have HO9 : Hid (OwnR wr (Y + 1) wr.heap.size v vs yss) := HN.out.own
        obtain ⟨ao9, g9, cap9, ev, hc9, ha9, -⟩ := HO9.out.rows
        obtain ⟨M, hM⟩ : ∃ M, M = yss.length := ⟨_, rfl⟩
        have HM := Lib.hid hM
        have hM36 : M ≤ 36 := by have := HYL.out; omega
        have HFR : Hid (OwnR wr (w.heap.size + 1) wr.heap.size v vs yss) := HO9.out.mono (by omega) (Nat.le_refl _)
        rw [← hM] at ev hc9 ha9
        subst ev
        clear hM HN HB HN4 HB4 HBX4 C4 BB4
        by_cases hM0 : 0 < M
        · have e2 : 0 < (M : Int) := by omega
          obtain ⟨eao, hg1, hg2⟩ := ha9 hM0
          subst eao
          go_wp2_with fail
          refine (l01Once_c p B 3 wr C9.out (by omega) (by omega)).mono ?_
          rintro e w5 ⟨b, rfl, c5, b5⟩
          have z5 := b5.size
          have C5 := Lib.hid c5
          have BB5 : Hid (But w.heap.size p w w5) := BB9.out.trans (b5.mono (by omega))
          have HBX5 := Lib.hid (b5.blk HBX9.out (by omega) (by omega))
          have HBY5 := Lib.hid (b5.blk HBY9.out (by omega) (by omega))
          have HO5 : Hid (OwnR w5 (Y + 1) w5.heap.size (.slice (some ⟨g9, 0, none⟩) M cap9) vs yss) := (b5.ownR HO9.out (by omega) (Nat.le_refl _)).mono (Nat.le_refl _) z5
          clear c5 b5 d0 d1 y0 f1
          have d0 := blk_cell HBY5.out 0
          have d1 := blk_cell HBY5.out 1
          have f1 := blk_free HBY5.out 1
          cases b
          · have c0 := blk_cell HBX5.out 0
            have c1 := blk_cell HBX5.out 1
            have g0 := blk_free HBX5.out 0
            have g1 := blk_free HBX5.out 1
            have HF := Lib.hid (FIN.out w5 yss vs _ _ M cap9 rfl HBX5.out (HO5.out.mono (by omega) (Nat.le_refl _)) C5.out BB5.out HPU.out (by have := HYL.out; omega))
            go_wp2
            exact bodyPost_ret (v := .agg #[.int .i64 n, .slice (some ⟨g9, 0, none⟩) M cap9]) (by simp [results, Try.results136, go_sem, c0, c1]) rfl HF.out
          · go_wp2_with fail
            refine (l01Below_c p B M w5 C5.out (by omega) (by omega)).mono ?_
            rintro e w6 ⟨x, rfl, x0, x1, c6, b6⟩
            obtain ⟨k, rfl⟩ : ∃ k : Nat, x = k := ⟨x.toNat, by omega⟩
            have hkM : k < M := by omega
            have z6 := b6.size
            have C6 := Lib.hid c6
            have BB6 : Hid (But w.heap.size p w w6) := BB5.out.trans (b6.mono (by omega))
            have HBX6 := Lib.hid (b6.blk HBX5.out (by omega) (by omega))
            have HBY6 := Lib.hid (b6.blk HBY5.out (by omega) (by omega))
            have HO6 : Hid (OwnR w6 (Y + 1) w6.heap.size (.slice (some ⟨g9, 0, none⟩) M cap9) vs yss) := (b6.ownR HO5.out (by omega) (Nat.le_refl _)).mono (Nat.le_refl _) z6
            clear c6 b6 d0 d1 f1 x0 x1
            have d1 : w6.cell? ⟨Y, 1, none⟩ = some (.slice (some ⟨g9, 0, none⟩) M cap9) := blk_cell HBY6.out 1
            have f1 := blk_free HBY6.out 1
            have e3 : (k : Int) ≤ (cap9 : Int) := by omega
            have e4 : (k : Int) + 1 ≤ (M : Int) := by omega
            have hY6 : Y < w6.heap.size := by omega
            have hwk : IntKind.i64.wrap ((k : Int) + 1) = (k : Int) + 1 := IntWalk.i64_in _ (by omega)
            have hwk2 : (0 : Int) ≤ (k : Int) + 1 := by omega
            have hwk3 : ((k : Int) + 1).toNat = k + 1 := by omega
            have hwk4 : (M : Int) ≤ (cap9 : Int) := by omega
            have hk0 : (0 : Int) ≤ (k : Int) := by omega
            have hkM' : (k : Int) ≤ (M : Int) := by omega
            have DA : Hid ((w6.alloc (.cells #[] 31)).drew.cell? ⟨Y, 1, none⟩ = some (.slice (some ⟨g9, 0, none⟩) M cap9)) := (Below.cell (p := ⟨Y, 1, none⟩) ((Below.refl w6.heap.size w6).alloc (Nat.le_refl _) (.cells #[] 31)) hY6).trans d1
            have HVC : Hid (∀ (j : Nat) (t : Value), vs[j]? = some t → w6.cell? ⟨g9, j, none⟩ = some t) := by
              show ∀ (j : Nat) (t : Value), _
              intro j t hj
              have := HO6.out.top.row.cells (g := g9) rfl j t hj
              rwa [show (⟨g9, 0, none⟩ : Addr).add j = ⟨g9, j, none⟩ from by unfold Addr.add; split <;> simp_all] at this
            have HVL : Hid (vs.length = M) := by show _ = _; rw [HO6.out.len, ← HM.out]
            have HONE := Lib.hid HO6.out.oneCell
            have hg6 : g9 < w6.heap.size := by omega
            have HE : Hid (Own 31 (w6.alloc (.cells #[] 31)).drew w6.heap.size (w6.heap.size + 1) (.slice (some ⟨w6.heap.size, 0, none⟩) 0 0) []) := Own.drew (own_emptyS w6)
            have HC1 : Hid (∀ (j : Nat) (t : Value), (vs.take k)[j]? = some t → (w6.alloc (.cells #[] 31)).drew.cell? ((⟨g9, 0, none⟩ : Addr).add j) = some t) := by
              show ∀ (j : Nat) (t : Value), _
              intro j t hj
              rw [show (⟨g9, 0, none⟩ : Addr).add j = ⟨g9, j, none⟩ from by unfold Addr.add; split <;> simp_all]
              have hjk : j < k := by have := (List.getElem?_eq_some_iff.1 hj).1; rw [List.length_take] at this; omega
              rw [List.getElem?_take_of_lt hjk] at hj
              exact (Below.cell (p := ⟨g9, j, none⟩) ((Below.refl w6.heap.size w6).alloc (Nat.le_refl _) (.cells #[] 31)) hg6).trans (HVC.out j t hj)
            have HZE : Hid (w6.heap.size ≤ (w6.alloc (.cells #[] 31)).drew.heap.size) := by show _ ≤ _; show w6.heap.size ≤ (w6.alloc (.cells #[] 31)).heap.size; simp
            have HTL : Hid ((vs.take k).length = k) := by show _ = _; have := HVL.out; rw [List.length_take]; omega
            have HDL : Hid ((vs.drop (k + 1)).length = M - (k + 1)) := by show _ = _; have := HVL.out; rw [List.length_drop]; omega
            have HO1 : Hid (∀ t ∈ vs.take k, t.oneCell' = true) := fun t ht => HONE.out t (List.mem_of_mem_take ht)
            have HO2 : Hid (∀ t ∈ vs.drop (k + 1), t.oneCell' = true) := fun t ht => HONE.out t (List.mem_of_mem_drop ht)
            have HL1 : Hid (([] : List Value).length + (vs.take k).length ≤ 1000000) := by show _ ≤ _; rw [HTL.out]; simp; omega
            have HL2 : Hid ((vs.take k).length + (vs.drop (k + 1)).length ≤ 1000000) := by show _ ≤ _; rw [HTL.out, HDL.out]; omega
            have HPW := Lib.hid (pairUp_without HPU.out k)
            have HYL2 : Hid ((yss.take k ++ yss.drop (k + 1)).length ≤ 40) := by show _ ≤ _; have := HM.out; simp; omega
            have HGEN : Hid (∀ (off : Nat), (M = k + 1 ∨ off = k + 1) → ∀ w7, Below w6.heap.size w6 w7 → ∀ (j : Nat) (t : Value), (vs.drop (k + 1))[j]? = some t → w7.cell? ((⟨g9, off, none⟩ : Addr).add j) = some t) := by
              show ∀ (off : Nat), _
              intro off ho w7 hb7 j t hj
              have hjl := (List.getElem?_eq_some_iff.1 hj).1
              rw [HDL.out] at hjl
              obtain rfl : off = k + 1 := by omega
              rw [show (⟨g9, k + 1, none⟩ : Addr).add j = ⟨g9, k + 1 + j, none⟩ from by unfold Addr.add; split <;> simp_all]
              rw [List.getElem?_drop] at hj
              exact (hb7.cell (p := ⟨g9, k + 1 + j, none⟩) hg6).trans (HVC.out _ t hj)
            have HKEEP : Hid (∀ w7, Below w6.heap.size w6 w7 → w7.cell? ⟨Y, 1, none⟩ = some (.slice (some ⟨g9, 0, none⟩) M cap9) ∧ w7.frozen? ⟨Y, 1, none⟩ = false ∧ Y < w7.heap.size) := fun w7 h => ⟨(h.cell (p := ⟨Y, 1, none⟩) hY6).trans d1, (h.frozen (p := ⟨Y, 1, none⟩) hY6).trans f1, by have := h.size; omega⟩
            have HFIN : Hid (∀ (w8 : World) (ao8 : Option Addr) (L8 cap8 : Nat), Below w6.heap.size w6 w8 → Own 31 w8 w6.heap.size w8.heap.size (.slice ao8 L8 cap8) (vs.take k ++ vs.drop (k + 1)) →
                (w8.setCell ⟨Y, 1, none⟩ (.slice ao8 L8 cap8)).heap[w.heap.size]? = some (.cells #[.int .i64 0, .slice none 0 0] 27 (0, 0)) ∧ (w8.setCell ⟨Y, 1, none⟩ (.slice ao8 L8 cap8)).heap[Y]? = some (.cells #[.int .i64 n, .slice ao8 L8 cap8] 27 (0, 0)) ∧
                CurNet w p B 6 40 (.returned (.agg #[.int .i64 n, .slice ao8 L8 cap8])) (((w8.setCell ⟨Y, 1, none⟩ (.slice ao8 L8 cap8)).setCell ⟨w.heap.size, 0, none⟩ (.int .i64 n)).setCell ⟨w.heap.size, 1, none⟩ (.slice ao8 L8 cap8))) := by
              show ∀ (w8 : World) (ao8 : Option Addr) (L8 cap8 : Nat), _
              intro w8 ao8 L8 cap8 hb8 ho8
              have hY8 := (hb8.block Y hY6).trans HBY6.out
              have hr := ownR_without HO6.out k (by have := HM.out; omega) hb8 (by omega) (Nat.le_refl _) (Own.mono ho8 (by omega) (Nat.le_refl _))
              have hX8 : (w8.setCell ⟨Y, 1, none⟩ (.slice ao8 L8 cap8)).heap[w.heap.size]? = some (.cells #[.int .i64 0, .slice none 0 0] 27 (0, 0)) := (Below.heap_setCell _ _ _ _ (by show w.heap.size ≠ Y; omega)).trans ((hb8.block _ (by omega)).trans HBX6.out)
              refine ⟨hX8, box_set1 hY8, FIN.out _ (yss.take k ++ yss.drop (k + 1)) (vs.take k ++ vs.drop (k + 1)) _ ao8 L8 cap8 rfl hX8 ?_ ((C6.out.below hb8 (by omega)).set_far (by omega)) ((BB6.out.trans (But.of_below hb8 (by omega) (by omega))).trans (But.set_far (by omega) (by omega))) HPW.out HYL2.out⟩
              have := (hr.past_box (i := 1) (y := .slice ao8 L8 cap8) hY8).mono (lo' := w.heap.size + 1) (hi' := w8.heap.size) (by omega) (Nat.le_refl _)
              rwa [show (w8.setCell ⟨Y, 1, none⟩ (.slice ao8 L8 cap8)).heap.size = w8.heap.size from by simp [World.setCell]]
            have hXY : w.heap.size ≠ Y := by omega
            clear HVC HONE HO6 HM FIN HBY6 HBX6 C6 BB6 HPW HYL2
            by_cases hck : cap9 = k + 1
            · have HG1 := Lib.hid (HGEN.out 0 (Or.inl (by omega)))
              have hck1 : (cap9 = k + 1) = True := eq_true hck
              clear hck
              clear HGEN
              go_wp2_with fail
              go_region_law (first | (refine wp_app_cells (.tmp 54) (.tmp 59) rfl w7 w6.heap.size w7.heap.size _ (vs.take k) ⟨g9, 0, none⟩ (M - (k + 1)) (cap9 - (k + 1)) (vs.drop (k + 1)) O7.out Z7.out HDL.out (HG1.out w7 B7.out) HO2.out HL2.out rfl rfl ?_; intro ao8 L8 cap8 w8 hL8 o8 b8; obtain ⟨q1, q2, q3⟩ := HFIN.out w8 ao8 L8 cap8 (B7.out.trans (grown_below b8 Z7.out (fun kk hh => (O7.out.row.lt kk hh).1))) o8; have Q1 := Lib.hid q1; have Q2 := Lib.hid q2; have Q3 := Lib.hid q3; obtain ⟨t1, t2, t3⟩ := HKEEP.out w8 (B7.out.trans (grown_below b8 Z7.out (fun kk hh => (O7.out.row.lt kk hh).1))); clear o8 b8 q1 q2 q3) | (refine wp_app_cells (.tmp 49) (.tmp 53) rfl ((w6.alloc (.cells #[] 31)).drew) w6.heap.size (w6.heap.size + 1) _ [] ⟨g9, 0, none⟩ k cap9 (vs.take k) HE.out HZE.out HTL.out HC1.out HO1.out HL1.out rfl rfl ?_; intro ao7 L7 cap7 w7 hL7 o7 b7; have B7 : Hid (Below w6.heap.size w6 w7) := ((Below.refl w6.heap.size w6).alloc (Nat.le_refl _) (.cells #[] 31)).drew.trans (grown_below b7 HZE.out (fun kk hh => by simp [Value.ownBlock] at hh; omega)); rw [List.nil_append] at o7; have O7 := Lib.hid o7; have Z7 : Hid (w6.heap.size ≤ w7.heap.size) := B7.out.size; obtain ⟨t1, t2, t3⟩ := HKEEP.out w7 B7.out; clear o7 b7) | fail)
              all_goals
                have c0 := blk_cell Q1.out 0
                have c1 := blk_cell Q1.out 1
                have g0 := blk_free Q1.out 0
                have g1 := blk_free Q1.out 1
                have r0 := blk_cell Q2.out 0
                have r1 := blk_cell Q2.out 1
                go_wp2
                exact bodyPost_ret (v := .agg #[.int .i64 n, .slice ao8 L8 cap8]) (by simp [results, Try.results136, go_sem, c0, c1]) rfl Q3.out
            · have HG1 := Lib.hid (HGEN.out (k + 1) (Or.inr rfl))
              clear HGEN
              go_wp2_with fail
              go_region_law (first | (refine wp_app_cells (.tmp 54) (.tmp 59) rfl w7 w6.heap.size w7.heap.size _ (vs.take k) ⟨g9, k + 1, none⟩ (M - (k + 1)) (cap9 - (k + 1)) (vs.drop (k + 1)) O7.out Z7.out HDL.out (HG1.out w7 B7.out) HO2.out HL2.out rfl rfl ?_; intro ao8 L8 cap8 w8 hL8 o8 b8; obtain ⟨q1, q2, q3⟩ := HFIN.out w8 ao8 L8 cap8 (B7.out.trans (grown_below b8 Z7.out (fun kk hh => (O7.out.row.lt kk hh).1))) o8; have Q1 := Lib.hid q1; have Q2 := Lib.hid q2; have Q3 := Lib.hid q3; obtain ⟨t1, t2, t3⟩ := HKEEP.out w8 (B7.out.trans (grown_below b8 Z7.out (fun kk hh => (O7.out.row.lt kk hh).1))); clear o8 b8 q1 q2 q3) | (refine wp_app_cells (.tmp 49) (.tmp 53) rfl ((w6.alloc (.cells #[] 31)).drew) w6.heap.size (w6.heap.size + 1) _ [] ⟨g9, 0, none⟩ k cap9 (vs.take k) HE.out HZE.out HTL.out HC1.out HO1.out HL1.out rfl rfl ?_; intro ao7 L7 cap7 w7 hL7 o7 b7; have B7 : Hid (Below w6.heap.size w6 w7) := ((Below.refl w6.heap.size w6).alloc (Nat.le_refl _) (.cells #[] 31)).drew.trans (grown_below b7 HZE.out (fun kk hh => by simp [Value.ownBlock] at hh; omega)); rw [List.nil_append] at o7; have O7 := Lib.hid o7; have Z7 : Hid (w6.heap.size ≤ w7.heap.size) := B7.out.size; obtain ⟨t1, t2, t3⟩ := HKEEP.out w7 B7.out; clear o7 b7) | fail)
              all_goals
                have c0 := blk_cell Q1.out 0
                have c1 := blk_cell Q1.out 1
                have g0 := blk_free Q1.out 0
                have g1 := blk_free Q1.out 1
                have r0 := blk_cell Q2.out 0
                have r1 := blk_cell Q2.out 1
                go_wp2
                exact bodyPost_ret (v := .agg #[.int .i64 n, .slice ao8 L8 cap8]) (by simp [results, Try.results136, go_sem, c0, c1]) rfl Q3.out
        · have e2 : ¬ 0 < (M : Int) := by omega
          have c0 := blk_cell HBX9.out 0
          have c1 := blk_cell HBX9.out 1
          have g0 := blk_free HBX9.out 0
          have g1 := blk_free HBX9.out 1
          have HF := Lib.hid (FIN.out wr yss vs _ _ M cap9 rfl HBX9.out HFR.out C9.out BB9.out HPU.out (by have := HYL.out; omega))
          go_wp2
          exact bodyPost_ret (v := .agg #[.int .i64 n, .slice ao9 M cap9]) (by simp [results, Try.results136, go_sem, c0, c1]) rfl HF.out
/-- A drawn standard network. -/
def drawnS (n : Nat) (xss : List (List Int)) : Prop := 1 ≤ n ∧ n ≤ 6 ∧ pairUp n true xss ∧ xss.length ≤ 40
set_option maxHeartbeats 1000000 in
theorem MakeStandard_c (B n m : Nat) (v : Value) (w : World) (hv : BytesV w B v n) (hB : B ≤ w.heap.size) (hn : n ≤ 1048576) (hm : m ≤ 1000) :
    Calls Try.prog 43 #[v, .int .i64 m] w (NetMade w drawnS) := by
  have HV := Lib.hid hv
  clear hv
  have hbx := blk_new w (.cells #[.int .i64 0, .slice none 0 0] 27)
  obtain ⟨W0, hW0⟩ : ∃ W, W = w.alloc (.cells #[.int .i64 0, .slice none 0 0] 27) := ⟨_, rfl⟩
  have HB0 : Hid (Below w.heap.size w W0) := by show Below _ _ _; rw [hW0]; exact (Below.refl _ _).alloc (Nat.le_refl _) _
  have hs0 : W0.heap.size = w.heap.size + 1 := by rw [hW0]; simp
  have HW := Lib.hid hW0
  rw [← hW0] at hbx
  have HBX := Lib.hid hbx
  have hs0' : w.heap.size < W0.heap.size := by omega
  clear hW0 hbx hs0
  have HN := Lib.hid (l31New_c B n m v W0 (HV.out.kept fun k hk => HB0.out.block k (by omega)) (by omega) hn hm)
  go_enter Try.func43, Try.ntmps43
  go_wp2_with fail
  try rw [← HW.out]
  refine HN.out.mono ?_
  rintro e w1 ⟨p, rfl, hp, c1, b1⟩
  have C1 := Lib.hid c1
  have z1 := b1.size
  have HBX1 := Lib.hid (blk_below HBX.out b1 (by omega))
  have B1 : Hid (Below w.heap.size w w1) := HB0.out.trans (b1.mono (by omega))
  have hpl := c1.lt
  clear c1 b1
  go_wp2_with fail
  refine (l03Net_c p B w1 C1.out).mono ?_
  rintro e w3 ⟨N, v, vs, xss, rfl, h1, h6, hpu, h2, o3, c3, b3⟩
  have z3 := b3.size
  have HBX3 := Lib.hid (b3.blk HBX1.out (by omega) (by omega))
  have HOK := Lib.hid (netOk_of_pairUp hpu h1 (by omega) (by omega))
  have B3 : Hid (Below w.heap.size w w3) := B1.out.trans (b3.below (by omega))
  obtain ⟨ao, g, cap, ev, -, -, -⟩ := o3.rows
  obtain ⟨L, hL⟩ : ∃ L, L = xss.length := ⟨_, rfl⟩
  have HL := Lib.hid hL
  rw [← hL] at ev h2
  subst ev
  have O3 := Lib.hid o3
  clear o3 c3 b3 hL hpu
  go_wp2_with fail
  obtain ⟨W4, hW4, d0, d1, hs4, hB4, -, -⟩ := box2 w3 (.int .i64 N) (.slice ao L cap) 27
  have HBX4 := Lib.hid ((hB4.block w.heap.size (by omega)).trans HBX3.out)
  have O4 := Lib.hid (O3.out.later hB4)
  have B4 : Hid (Below w.heap.size w W4) := B3.out.trans (hB4.mono (by omega))
  rw [hW4]
  clear hW4 hB4
  refine (StandardOf_s_yes N w1.heap.size w3.heap.size _ vs xss W4 O4.out (by omega) HOK.out).mono ?_
  rintro e w5 ⟨u, l, us, yss, rfl, hyu, hyl, o5, b5⟩
  have z5 := b5.size
  have HBX5 := Lib.hid (blk_below HBX4.out b5 (by omega))
  have HYU := Lib.hid hyu
  have HYL : Hid (yss.length ≤ 40) := by show _ ≤ _; rw [hyl, ← HL.out]; exact h2
  obtain ⟨ao5, g5, cap5, ev5, -, -, -⟩ := o5.rows
  obtain ⟨M, hM⟩ : ∃ L, L = yss.length := ⟨_, rfl⟩
  rw [← hM] at ev5
  subst ev5
  have O5 := Lib.hid o5
  have B5 : Hid (Below w.heap.size w w5) := B4.out.trans (b5.mono (by omega))
  clear o5 b5 hM hyl hyu d0 d1
  have c0 := blk_cell HBX5.out 0
  have c1 := blk_cell HBX5.out 1
  have f0 := blk_free HBX5.out 0
  have f1 := blk_free HBX5.out 1
  have hX5 : w.heap.size < w5.heap.size := by omega
  have HF : Hid (NetMade w drawnS (.returned (.agg #[.int .i64 N, .slice ao5 M cap5])) (((w5.setCell ⟨w.heap.size, 0, none⟩ (.int .i64 N)).setCell ⟨w.heap.size, 1, none⟩ (.slice ao5 M cap5)).alloc (.cells #[.int .i64 N, .slice ao5 M cap5] 27))) := by
    refine ⟨N, _, us, yss, rfl, ⟨h1, h6, HYU.out, HYL.out⟩, ?_, ((B5.out.setCell (Nat.le_refl _) _).setCell (Nat.le_refl _) _).alloc (by simp [World.setCell]; omega) _⟩
    have q := set_two_ownR (X := w.heap.size) (y0 := .int .i64 N) (y1 := .slice ao5 M cap5) O5.out (by omega)
    exact (q.alloc _).mono (by omega) (by simp [World.setCell])
  go_wp2
  exact bodyPost_ret (v := .agg #[.int .i64 N, .slice ao5 M cap5]) (by simp [results, Try.results43, go_sem, c0, c1, hX5]) rfl HF.out
end Go.Proofs.Ytgdkihabphihoaa
