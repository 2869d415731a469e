/- The program's network and then another one, by its contract. Conditions: the networks are valid, and what comes of them. -/
import Derived.Test.YtiodolbgapjmkaaGreatDoorNameC
import Derived.Test.YtiodolbgapjmkaaGreatDoorCopy
import Derived.Test.YtiodolbgapjmkaaGreatDoorCopy2
namespace Go.Proofs.YtiodolbgapjmkaaGreatDoor
open Go.RowKit
set_option maxRecDepth 100000
set_option linter.unusedVariables false
set_option linter.unusedSimpArgs false

theorem wp_app_rowsX {o : Oper} {a : Act} {K : Act → World → Prop} {Q : Exit → Act → World → Prop} (s x : Operand)
    (ho : o.op = .call { callee := .builtin .append, args := #[s, x], argTypes := #[23, 23] })
    (W : World) (lo mid : Nat) (v u : Value) (vs us : List Value) (xss yss : List (List Int)) (hR : OwnR W lo mid v vs xss) (hS : OwnR W mid W.heap.size u us yss) (hlo : lo ≤ mid) (hmid : mid ≤ W.heap.size)
    (hlen : xss.length + yss.length ≤ 1000000) (hs : a.eval s = v) (hx : a.eval x = u)
    (h : ∀ ao L cap w' vs', Hid (L = xss.length + yss.length) → OwnR w' lo w'.heap.size (.slice ao L cap) vs' (xss ++ yss) → Below lo W w' → Hid (∀ k, k < W.heap.size → v.ownBlock ≠ some k → w'.heap[k]? = W.heap[k]?) → K (a.put o.dst (.slice ao L cap)) w') :
    o.wp Tryz.prog a W K Q := by
  obtain ⟨i0, hi, hz0, hz1, hz2⟩ := info_parts Tryz.infoS
  have hl1 := hR.len
  have hl2 := hS.len
  rcases hS.top.row.2 with ⟨hu, hn⟩ | ⟨g, cap, cur, hu, hg, hh, hnc, hm, hcs, ht⟩
  · have hus : us = [] := List.eq_nil_of_length_eq_zero hn
    have hys : yss = [] := List.eq_nil_of_length_eq_zero (by omega)
    have hrun := run_append_owned_none (P := Tryz.prog) (w := W) lo 23 o.type 27 i0 1 Tryz.underlying23 hi v vs.length vs hR.top.row
    have hK : K (a.put o.dst v) W := by
      obtain ⟨ao, g, cap, e, -, -, -⟩ := hR.rows
      rw [e]
      refine h ao _ cap W vs (by show _ = _; rw [hys]; rfl) ?_ (Below.refl _ _) fun _ _ _ => rfl
      rw [← e, hys, List.append_nil]
      exact hR.mono (Nat.le_refl _) hmid
    rw [hu] at hx
    unfold Oper.wp
    simp [execOp, ho, resolve, invoke, builtin, hs, hx, hrun, Result.andThen]
    exact hK
  · have hcell : ∀ (j : Nat) (t : Value), us[j]? = some t → W.cell? ((⟨g, 0, none⟩ : Addr).add j) = some t := hS.top.row.cells (g := g) (by rw [hu]; rfl)
    refine wp_append_own W s x 23 ho lo 27 i0 (.slice none 0 0) 1 24 Tryz.underlying23 hi hz0 hz1 hz2 rfl (by decide) v vs.length vs hs hR.top.row ⟨g, 0, none⟩ us.length cap us (by rw [hx, hu]) (by simp) ?_ ?_ ?_ ?_ ?_ ?_
    · exact hcell
    · exact hS.oneCell
    · unfold maxLen; omega
    · omega
    · omega
    · intro v' w' hown hg hnil
      have ho2 : OwnR w' lo w'.heap.size v' (vs ++ us) (xss ++ yss) := hR.app hlo hl2 (fun i t xs a b => hS.row i t xs a b) hS.sep hown hg
      obtain ⟨ao, g2, cap2, e, -, -, -⟩ := ho2.rows
      rw [List.length_append] at e
      subst e
      exact h ao _ cap2 w' _ rfl ho2 ((Below.refl _ _).grown hg (by omega) fun k hk => (hR.top.row.lt k hk).1) fun k hk hne => hg.block k hk fun e => hne e.symm
set_option maxHeartbeats 4000000 in
theorem JoinNetworks_y (n : Nat) (lo hi lo2 hi2 : Nat) (v u : Value) (vs us : List Value) (xss yss : List (List Int)) (w : World) (hv : OwnR w lo hi v vs xss) (hhi : hi ≤ w.heap.size) (hx : netOk n xss = true) (hu : OwnR w lo2 hi2 u us yss) (hhi2 : hi2 ≤ w.heap.size) (hy : netOk n yss = true)
    (hxy : netOk n (xss ++ yss) = true) :
    Calls Tryz.prog 11 #[.agg #[.int .i64 n, v], .agg #[.int .i64 n, u]] w (NetC w n (xss ++ yss) true) := by
  have HC : Hid (∀ w1, Below w.heap.size w w1 → Calls Tryz.prog 22 #[.agg #[.int .i64 n, v]] w1 fun e w' => e = .returned (.bool true) ∧ Below w1.heap.size w1 w') := fun w1 h1 => by
    have := NetworkOk_c n lo hi v vs xss w1 (hv.below h1 hhi) (by have := h1.size; omega)
    rwa [hx] at this
  have HD : Hid (∀ w1, Below w.heap.size w w1 → Calls Tryz.prog 22 #[.agg #[.int .i64 n, u]] w1 fun e w' => e = .returned (.bool true) ∧ Below w1.heap.size w1 w') := fun w1 h1 => by
    have := NetworkOk_c n lo2 hi2 u us yss w1 (hu.below h1 hhi2) (by have := h1.size; omega)
    rwa [hy] at this
  have HOX : Hid (∀ w1, Below w.heap.size w w1 → Calls Tryz.prog 33 #[.agg #[.int .i64 n, v]] w1 fun e w' => ∃ u us, e = .returned (.agg #[.int .i64 n, u]) ∧ OwnR w' w1.heap.size w'.heap.size u us xss ∧ Below w1.heap.size w1 w') := fun w1 h1 => own_c n lo hi v vs xss w1 (hv.below h1 hhi) (by have := h1.size; omega) hx
  have HOY : Hid (∀ w1, Below w.heap.size w w1 → Calls Tryz.prog 33 #[.agg #[.int .i64 n, u]] w1 fun e w' => ∃ u us, e = .returned (.agg #[.int .i64 n, u]) ∧ OwnR w' w1.heap.size w'.heap.size u us yss ∧ Below w1.heap.size w1 w') := fun w1 h1 => own_c n lo2 hi2 u us yss w1 (hu.below h1 hhi2) (by have := h1.size; omega) hy
  have HXY := Lib.hid hxy
  have hlx : xss.length ≤ 60 := netOk_len hx
  have hly : yss.length ≤ 60 := netOk_len hy
  obtain ⟨ao, g, cap, rfl, -, -, -⟩ := hv.rows
  obtain ⟨bo, h, cap2, rfl, -, -, -⟩ := hu.rows
  obtain ⟨L, hL⟩ : ∃ L, L = xss.length := ⟨_, rfl⟩
  obtain ⟨M, hM⟩ : ∃ M, M = yss.length := ⟨_, rfl⟩
  have HL := Lib.hid hL
  have HM := Lib.hid hM
  rw [← hL] at HC HOX hlx ⊢
  rw [← hM] at HD HOY hly ⊢
  have hne : ((n : Int) != (n : Int)) = false := by simp
  clear hv hu hL hM hx hy hxy
  go_enter Tryz.func11, Tryz.ntmps11
  go_wp2_with fail
  obtain ⟨W3, hW3⟩ : ∃ W, W = (((w.alloc (.cells #[.int .i64 n, .slice ao L cap] 25)).alloc (.cells #[.int .i64 n, .slice bo M cap2] 25)).alloc (.cells #[.int .i64 0, .slice none 0 0] 25)) := ⟨_, rfl⟩
  have q0 : W3.heap[w.heap.size]? = some (.cells #[.int .i64 n, .slice ao L cap] 25 (0, 0)) := by rw [hW3]; exact blk_old (blk_old (blk_new w _) _) _
  have q1 : W3.heap[w.heap.size + 1]? = some (.cells #[.int .i64 n, .slice bo M cap2] 25 (0, 0)) := by
    rw [hW3]
    have := blk_new (w.alloc (.cells #[.int .i64 n, .slice ao L cap] 25)) (.cells #[.int .i64 n, .slice bo M cap2] 25)
    rw [show (w.alloc (.cells #[.int .i64 n, .slice ao L cap] 25)).heap.size = w.heap.size + 1 from by simp] at this
    exact blk_old this _
  have q2 : W3.heap[w.heap.size + 2]? = some (.cells #[.int .i64 0, .slice none 0 0] 25 (0, 0)) := by
    rw [hW3]
    have := blk_new ((w.alloc (.cells #[.int .i64 n, .slice ao L cap] 25)).alloc (.cells #[.int .i64 n, .slice bo M cap2] 25)) (.cells #[.int .i64 0, .slice none 0 0] 25)
    rwa [show ((w.alloc (.cells #[.int .i64 n, .slice ao L cap] 25)).alloc (.cells #[.int .i64 n, .slice bo M cap2] 25)).heap.size = w.heap.size + 2 from by simp] at this
  have hB3 : Below w.heap.size w W3 := by
    rw [hW3]
    exact (((Below.refl _ _).alloc (Nat.le_refl _) _).alloc (by simp) _).alloc (by simp; omega) _
  have hz3 : W3.heap.size = w.heap.size + 3 := by rw [hW3]; simp
  rw [← hW3]
  clear hW3
  refine (HC.out W3 hB3).mono ?_
  rintro e w4 ⟨rfl, b4⟩
  have HA0 := Lib.hid ((b4.block w.heap.size (by omega)).trans q0)
  have HA1 := Lib.hid ((b4.block (w.heap.size + 1) (by omega)).trans q1)
  have HA2 := Lib.hid ((b4.block (w.heap.size + 2) (by omega)).trans q2)
  have HB4 := Lib.hid (hB3.trans (b4.mono (by omega)))
  have hz4 := b4.size
  have c0 := blk_cell HA0.out 0
  have c1 := blk_cell HA0.out 1
  have d0 := blk_cell HA1.out 0
  have d1 := blk_cell HA1.out 1
  clear b4 q0 q1 q2 hB3
  go_wp2_with fail
  refine (HD.out w4 HB4.out).mono ?_
  rintro e w5 ⟨rfl, b5⟩
  have HE0 := Lib.hid ((b5.block w.heap.size (by omega)).trans HA0.out)
  have HE1 := Lib.hid ((b5.block (w.heap.size + 1) (by omega)).trans HA1.out)
  have HE2 := Lib.hid ((b5.block (w.heap.size + 2) (by omega)).trans HA2.out)
  have HB5 := Lib.hid (HB4.out.trans (b5.mono HB4.out.size))
  have hz5 := b5.size
  clear c0 c1 d0 d1 b5
  have c0 := blk_cell HE0.out 0
  have c1 := blk_cell HE0.out 1
  have d0 := blk_cell HE1.out 0
  have d1 := blk_cell HE1.out 1
  go_wp2_with fail
  refine (HOX.out w5 HB5.out).mono ?_
  rintro e w6 ⟨u6, us6, rfl, o6, b6⟩
  obtain ⟨ao6, g6, cap6, e6, -, -, -⟩ := o6.rows
  rw [← HL.out] at e6
  subst e6
  have HF1 := Lib.hid ((b6.block (w.heap.size + 1) (by omega)).trans HE1.out)
  have HF2 := Lib.hid ((b6.block (w.heap.size + 2) (by omega)).trans HE2.out)
  have HB6 := Lib.hid (HB5.out.trans (b6.mono HB5.out.size))
  have hz6 := b6.size
  have O6 := Lib.hid o6
  clear c0 c1 d0 d1 b6 o6
  go_upto_region 4 with fail
  obtain ⟨W7, hW7⟩ : ∃ W, W = w6.alloc (.cells #[.int .i64 n, .slice ao6 L cap6] 25) := ⟨_, rfl⟩
  have hb7 : Below w6.heap.size w6 W7 := by rw [hW7]; exact (Below.refl _ _).alloc (Nat.le_refl _) _
  have hz7 : W7.heap.size = w6.heap.size + 1 := by rw [hW7]; simp
  have HG1 := Lib.hid ((hb7.block (w.heap.size + 1) (by omega)).trans HF1.out)
  have HG2 := Lib.hid ((hb7.block (w.heap.size + 2) (by omega)).trans HF2.out)
  have HGX : Hid (W7.heap[w6.heap.size]? = some (.cells #[.int .i64 n, .slice ao6 L cap6] 25 (0, 0))) := by show _ = _; rw [hW7]; exact blk_new _ _
  have HB7 := Lib.hid (HB6.out.trans (hb7.mono HB6.out.size))
  have O7 : Hid (OwnR W7 w5.heap.size W7.heap.size (.slice ao6 L cap6) us6 xss) := (O6.out.below hb7 (Nat.le_refl _)).mono (Nat.le_refl _) (by omega)
  rw [← hW7]
  clear hW7 hb7
  have x0 := blk_cell HGX.out 0
  have x1 := blk_cell HGX.out 1
  have xf := blk_free HGX.out 1
  have d0 := blk_cell HG1.out 0
  have d1 := blk_cell HG1.out 1
  have HBD : Hid (Below w.heap.size w W7.drew) := HB7.out.drew
  have hlo5 : w5.heap.size ≤ W7.heap.size := by omega
  have HLN : Hid (xss.length + yss.length ≤ 1000000) := by show _ ≤ _; rw [← HL.out, ← HM.out]; omega
  have HKEEP : Hid (∀ w8, Below W7.heap.size W7 w8 → w8.cell? ⟨w6.heap.size, 0, none⟩ = some (.int .i64 n) ∧ w8.cell? ⟨w6.heap.size, 1, none⟩ = some (.slice ao6 L cap6) ∧ w8.frozen? ⟨w6.heap.size, 1, none⟩ = false) := fun w8 h8 => by
    have h := (h8.block w6.heap.size (by omega)).trans HGX.out
    exact ⟨blk_cell h 0, blk_cell h 1, blk_free h 1⟩
  have HBOX : Hid (∀ w8 w9 : World, Below W7.heap.size W7 w8 → (∀ k, k < w8.heap.size → (Value.slice ao6 L cap6).ownBlock ≠ some k → w9.heap[k]? = w8.heap[k]?) → w9.heap[w6.heap.size]? = some (.cells #[.int .i64 n, .slice ao6 L cap6] 25 (0, 0))) := fun w8 w9 h8 h9 =>
    (h9 _ (by have := h8.size; omega) (own_not_box O7.out.top HGX.out (by decide))).trans ((h8.block _ (by omega)).trans HGX.out)
  have HFL : Hid (∀ (a9 : Option Addr) (m9 c9 : Nat) (w9 : World), (Instr.field 25 (.agg #[.int .i64 n, .slice a9 m9 c9]) 1).run Tryz.prog w9 = .ok (.slice a9 m9 c9) w9) := fun a9 m9 c9 w9 => by kernel_rfl
  go_region_law (first | (refine wp_app_rowsX (.tmp 26) (.tmp 29) rfl w8 w5.heap.size W7.heap.size _ _ us6 us8 xss yss H8.out O8.out hlo5 Z8.out HLN.out rfl rfl ?_; intro ao9 L9 cap9 w9 us9 hL9 o9 b9 k9; have BX9 := Lib.hid (HBOX.out w8 w9 B8.out k9.out); have B9 : Hid (Below w5.heap.size W7 w9) := (B8.out.mono hlo5).trans b9; have O9 := Lib.hid o9; have g0 := blk_cell BX9.out 0; have g1 := blk_cell BX9.out 1; have gf := blk_free BX9.out 1; clear o9 b9) | (go_simp; go_at_call 33; refine (HOY.out W7.drew HBD.out).mono ?_; rintro e w8 ⟨u8, us8, rfl, o8, b8⟩; have B8 : Hid (Below W7.heap.size W7 w8) := undrew b8; obtain ⟨ao8, g8, cap8, e8, -, -, -⟩ := o8.rows; rw [← HM.out] at e8; subst e8; have O8 : Hid (OwnR w8 W7.heap.size w8.heap.size (.slice ao8 M cap8) us8 yss) := o8; have Z8 : Hid (W7.heap.size ≤ w8.heap.size) := B8.out.size; have H8 : Hid (OwnR w8 w5.heap.size W7.heap.size (.slice ao6 L cap6) us6 xss) := O7.out.below B8.out (Nat.le_refl _); obtain ⟨e0, e1, ef⟩ := HKEEP.out w8 B8.out; have hfl := HFL.out ao8 M cap8 w8; clear o8 b8) | fail)
  all_goals
    have hz9 := B9.out.size
    obtain ⟨WA, hWA⟩ : ∃ W, W = w9.setCell ⟨w6.heap.size, 1, none⟩ (.slice ao9 L9 cap9) := ⟨_, rfl⟩
    have hzA : WA.heap.size = w9.heap.size := by rw [hWA]; simp [World.setCell]
    have HBA : Hid (Below w5.heap.size W7 WA) := by show Below _ _ _; rw [hWA]; exact B9.out.setCell (by show w5.heap.size ≤ w6.heap.size; omega) _
    have OA : Hid (OwnR WA w5.heap.size WA.heap.size (.slice ao9 L9 cap9) us9 (xss ++ yss)) := by
      show OwnR _ _ _ _ _ _
      rw [hzA, hWA]
      exact O9.out.past_box BX9.out
    have HXA : Hid (WA.heap[w6.heap.size]? = some (.cells #[.int .i64 n, .slice ao9 L9 cap9] 25 (0, 0))) := by show _ = _; rw [hWA]; exact box_set1 BX9.out
    have HRA := Lib.hid ((HBA.out.block (w.heap.size + 2) (by omega)).trans HG2.out)
    have HFA : Hid (Below w.heap.size w WA) := HB7.out.trans (HBA.out.mono (by omega))
    rw [← hWA]
    clear hWA x0 x1 xf d0 d1 g0 g1 gf
    have s0 := blk_cell HXA.out 0
    have s1 := blk_cell HXA.out 1
    have CK := Lib.hid (checked_c n w5.heap.size WA.heap.size _ us9 (xss ++ yss) WA OA.out (Nat.le_refl _))
    rw [HXY.out, if_pos rfl] at CK
    go_wp2_with fail
    refine CK.out.mono ?_
    rintro e wB ⟨rfl, bB⟩
    have HRB := Lib.hid ((bB.block (w.heap.size + 2) (by omega)).trans HRA.out)
    have HBB := Lib.hid (HFA.out.trans (bB.mono HFA.out.size))
    have hzB := bB.size
    have OB := Lib.hid (OA.out.later bB)
    have r0 := blk_cell HRB.out 0
    have r1 := blk_cell HRB.out 1
    have y0 := blk_free HRB.out 0
    have y1 := blk_free HRB.out 1
    have HFN : Hid (NetC w n (xss ++ yss) true (.returned (.tuple #[.agg #[.int .i64 n, .slice ao9 L9 cap9], .bool true])) ((wB.setCell ⟨w.heap.size + 2, 0, none⟩ (.int .i64 n)).setCell ⟨w.heap.size + 2, 1, none⟩ (.slice ao9 L9 cap9))) := by
      refine ⟨_, us9, rfl, ?_, (HBB.out.setCell (by show w.heap.size ≤ w.heap.size + 2; omega) _).setCell (by show w.heap.size ≤ w.heap.size + 2; omega) _⟩
      exact (OB.out.kept fun k h1 _ _ => by rw [Below.heap_setCell _ _ _ _ (by show k ≠ w.heap.size + 2; omega), Below.heap_setCell _ _ _ _ (by show k ≠ w.heap.size + 2; omega)]).mono (by omega) (by simp [World.setCell]; omega)
    have z0 := blk_cell (box_set1 (y := .slice ao9 L9 cap9) (box_set0 (y := .int .i64 n) HRB.out)) 0
    have z1 := blk_cell (box_set1 (y := .slice ao9 L9 cap9) (box_set0 (y := .int .i64 n) HRB.out)) 1
    clear bB s0 s1
    go_wp2
    exact bodyPost_ret (v := .tuple #[.agg #[.int .i64 n, .slice ao9 L9 cap9], .bool true]) (by simp [results, Tryz.results11, go_sem, z0, z1]) rfl HFN.out
end Go.Proofs.YtiodolbgapjmkaaGreatDoor
