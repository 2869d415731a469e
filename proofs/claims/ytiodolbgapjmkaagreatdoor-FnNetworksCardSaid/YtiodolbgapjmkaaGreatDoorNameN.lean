/- The program's networks under other names of wires, among more wires, and joined, by their contracts. Conditions: the networks are valid. -/
import Derived.Test.YtiodolbgapjmkaaGreatDoorNameC
namespace Go.Proofs.YtiodolbgapjmkaaGreatDoor
open Go.RowKit
set_option maxRecDepth 100000
set_option linter.unusedVariables false
set_option linter.unusedSimpArgs false

set_option maxHeartbeats 2000000 in
theorem RenameWires_y (n lo hi lo2 hi2 : Nat) (v u : Value) (vs : List Value) (xss : List (List Int)) (names : List Int) (w : World) (hv : OwnR w lo hi v vs xss) (hhi : hi ≤ w.heap.size) (hok : netOk n xss = true)
    (hu : IntsV w lo2 hi2 u names) (hh2 : hi2 ≤ w.heap.size) (hN : NamP n names) :
    Calls Tryz.prog 14 #[.agg #[.int .i64 n, v], u] w (NetC w n (renP (namF names) xss) true) := by
  have h8 : n ≤ 8 := by have := (netOk_n hok).2; omega
  have h1 : 1 ≤ n := by have := (netOk_n hok).1; omega
  have HC : Hid (∀ w1, Below w.heap.size w w1 → Calls Tryz.prog 22 #[.agg #[.int .i64 n, v]] w1 fun e w' => e = .returned (.bool true) ∧ Below w1.heap.size w1 w') := fun w1 h1 => by
    have := NetworkOk_c n lo hi v vs xss w1 (hv.below h1 hhi) (by have := h1.size; omega)
    rwa [hok] at this
  have HO : Hid (∀ w1, Below w.heap.size w w1 → Calls Tryz.prog 36 #[u, .int .i64 n] w1 fun e w' => e = .returned (.bool true) ∧ Below w1.heap.size w1 w') := fun w1 hb =>
    isOrder_c n lo2 hi2 u names w1 (hu.below hb hh2) (by have := hb.size; omega) hN h1 h8
  have HR : Hid (∀ w1 b, Below w.heap.size w w1 → b < w1.heap.size → w1.cell? ⟨b, 0, none⟩ = some u → Calls Tryz.prog 37 #[.agg #[.int .i64 n, v], .int .i64 n, .func (.func 38) #[] #[.pointer (some ⟨b, 0, none⟩)]] w1
      fun e w' => ∃ u us, e = .returned (.agg #[.int .i64 n, u]) ∧ OwnR w' w1.heap.size w'.heap.size u us (renP (namF names) xss) ∧ Below w1.heap.size w1 w') := fun w1 b hb hbl hc =>
    renamed_RenameWires n lo hi v vs xss w1 (hv.below hb hhi) (by have := hb.size; omega) hok n #[.pointer (some ⟨b, 0, none⟩)] (namF names) fun wr h2 i hi =>
      RenameWires1_c n b i lo2 hi2 u names wr (hu.below (hb.trans (h2.mono hb.size)) hh2) ((h2.cell (p := ⟨b, 0, none⟩) hbl).trans hc) hN.1 hi h8
  have HLEN : Hid ((renP (namF names) xss).length = xss.length) := renP_len _ _
  obtain ⟨RS, hRS⟩ : ∃ R, R = renP (namF names) xss := ⟨_, rfl⟩
  rw [← hRS] at HR HLEN ⊢
  obtain ⟨ao, g, cap, rfl, -, -, -⟩ := hv.rows
  obtain ⟨bo, h, off, cap2, rfl, -, -, -⟩ := hu
  obtain ⟨L, hL⟩ : ∃ L, L = xss.length := ⟨_, rfl⟩
  obtain ⟨M, hM⟩ : ∃ M, M = names.length := ⟨_, rfl⟩
  rw [← hL] at HC HR HLEN ⊢
  rw [← hM] at HO HR ⊢
  clear hv hL hM hok hN hRS
  go_enter Tryz.func14, Tryz.ntmps14
  go_wp2_with fail
  obtain ⟨W3, hW3⟩ : ∃ W, W = (((w.alloc (.cells #[.int .i64 n, .slice ao L cap] 25)).alloc (.cells #[.slice bo M cap2] 27)).alloc (.cells #[.int .i64 0, .slice none 0 0] 25)) := ⟨_, rfl⟩
  have q0 : W3.heap[w.heap.size]? = some (.cells #[.int .i64 n, .slice ao L cap] 25 (0, 0)) := by rw [hW3]; exact blk_old (blk_old (blk_new w _) _) _
  have q1 : W3.heap[w.heap.size + 1]? = some (.cells #[.slice bo M cap2] 27 (0, 0)) := by
    rw [hW3]
    have := blk_new (w.alloc (.cells #[.int .i64 n, .slice ao L cap] 25)) (.cells #[.slice bo M cap2] 27)
    rw [show (w.alloc (.cells #[.int .i64 n, .slice ao L cap] 25)).heap.size = w.heap.size + 1 from by simp] at this
    exact blk_old this _
  have q2 : W3.heap[w.heap.size + 2]? = some (.cells #[.int .i64 0, .slice none 0 0] 25 (0, 0)) := by
    rw [hW3]
    have := blk_new ((w.alloc (.cells #[.int .i64 n, .slice ao L cap] 25)).alloc (.cells #[.slice bo M cap2] 27)) (.cells #[.int .i64 0, .slice none 0 0] 25)
    rwa [show ((w.alloc (.cells #[.int .i64 n, .slice ao L cap] 25)).alloc (.cells #[.slice bo M cap2] 27)).heap.size = w.heap.size + 2 from by simp] at this
  have hB3 : Below w.heap.size w W3 := by
    rw [hW3]
    exact (((Below.refl _ _).alloc (Nat.le_refl _) _).alloc (by simp) _).alloc (by simp; omega) _
  have hz3 : W3.heap.size = w.heap.size + 3 := by rw [hW3]; simp
  rw [← hW3]
  clear hW3
  refine (HC.out W3 hB3).mono ?_
  rintro e w4 ⟨rfl, b4⟩
  have r0 := (b4.block w.heap.size (by omega)).trans q0
  have r1 := (b4.block (w.heap.size + 1) (by omega)).trans q1
  have HR2 := Lib.hid ((b4.block (w.heap.size + 2) (by omega)).trans q2)
  have HR0 := Lib.hid r0
  have HR1 := Lib.hid r1
  have c0 := blk_cell r0 0
  have c1 := blk_cell r0 1
  have c2 := blk_cell r1 0
  have hB4 := hB3.trans (b4.mono (by omega))
  have HB4 := Lib.hid hB4
  have hz4 := b4.size
  clear b4 q0 q1 q2 hB3 r0 r1
  go_wp2_with fail
  refine (HO.out w4 HB4.out).mono ?_
  rintro e w5 ⟨rfl, b5⟩
  have r0 := (b5.block w.heap.size (by omega)).trans HR0.out
  have r1 := (b5.block (w.heap.size + 1) (by omega)).trans HR1.out
  have HS2 := Lib.hid ((b5.block (w.heap.size + 2) (by omega)).trans HR2.out)
  have HB5 := Lib.hid (HB4.out.trans (b5.mono HB4.out.size))
  have hz5 := b5.size
  clear c0 c1 c2
  have c0 := blk_cell r0 0
  have c1 := blk_cell r0 1
  have c2 := blk_cell r1 0
  clear b5 r0 r1 hB4
  go_wp2_with fail
  refine (HR.out w5 (w.heap.size + 1) HB5.out (by omega) c2).mono ?_
  rintro e w6 ⟨u6, us6, rfl, o6, b6⟩
  obtain ⟨ao6, g6, cap6, e6, -, -, -⟩ := o6.rows
  rw [HLEN.out] at e6
  subst e6
  have HT2 := Lib.hid ((b6.block (w.heap.size + 2) (by omega)).trans HS2.out)
  have HB6 := Lib.hid (HB5.out.trans (b6.mono HB5.out.size))
  have hz6 := b6.size
  have x0 := blk_cell HT2.out 0
  have x1 := blk_cell HT2.out 1
  have y0 := blk_free HT2.out 0
  have y1 := blk_free HT2.out 1
  have HFN : Hid (NetC w n RS true (.returned (.tuple #[.agg #[.int .i64 n, .slice ao6 L cap6], .bool true])) ((w6.setCell ⟨w.heap.size + 2, 0, none⟩ (.int .i64 n)).setCell ⟨w.heap.size + 2, 1, none⟩ (.slice ao6 L cap6))) := by
    refine ⟨_, us6, rfl, ?_, (HB6.out.setCell (by show w.heap.size ≤ w.heap.size + 2; omega) _).setCell (by show w.heap.size ≤ w.heap.size + 2; omega) _⟩
    exact (o6.kept fun k h1 _ _ => by rw [Below.heap_setCell _ _ _ _ (by show k ≠ w.heap.size + 2; omega), Below.heap_setCell _ _ _ _ (by show k ≠ w.heap.size + 2; omega)]).mono (by omega) (by simp [World.setCell])
  have z0 := blk_cell (box_set1 (y := .slice ao6 L cap6) (box_set0 (y := .int .i64 n) HT2.out)) 0
  have z1 := blk_cell (box_set1 (y := .slice ao6 L cap6) (box_set0 (y := .int .i64 n) HT2.out)) 1
  clear o6 b6 c0 c1 c2
  go_wp2
  exact bodyPost_ret (v := .tuple #[.agg #[.int .i64 n, .slice ao6 L cap6], .bool true]) (by simp [results, Tryz.results14, go_sem, z0, z1]) rfl HFN.out
set_option maxHeartbeats 2000000 in
theorem PlaceNetwork_y (n d lo hi : Nat) (v : Value) (vs : List Value) (xss : List (List Int)) (w : World) (hv : OwnR w lo hi v vs xss) (hhi : hi ≤ w.heap.size) (hok : netOk n xss = true) (hd : d + n = 8) :
    Calls Tryz.prog 15 #[.agg #[.int .i64 n, v], .int .i64 d, .int .i64 8] w (NetC w 8 (renP (fun x => (d : Int) + x) xss) true) := by
  have h1 : 1 ≤ n := by have := (netOk_n hok).1; omega
  have HC : Hid (∀ w1, Below w.heap.size w w1 → Calls Tryz.prog 22 #[.agg #[.int .i64 n, v]] w1 fun e w' => e = .returned (.bool true) ∧ Below w1.heap.size w1 w') := fun w1 h1 => by
    have := NetworkOk_c n lo hi v vs xss w1 (hv.below h1 hhi) (by have := h1.size; omega)
    rwa [hok] at this
  have HR : Hid (∀ w1 b, Below w.heap.size w w1 → b < w1.heap.size → w1.cell? ⟨b, 0, none⟩ = some (.int .i64 d) → Calls Tryz.prog 37 #[.agg #[.int .i64 n, v], .int .i64 8, .func (.func 39) #[] #[.pointer (some ⟨b, 0, none⟩)]] w1
      fun e w' => ∃ u us, e = .returned (.agg #[.int .i64 8, u]) ∧ OwnR w' w1.heap.size w'.heap.size u us (renP (fun x => (d : Int) + x) xss) ∧ Below w1.heap.size w1 w') := fun w1 b hb hbl hc =>
    renamed_PlaceNetwork n lo hi v vs xss w1 (hv.below hb hhi) (by have := hb.size; omega) hok 8 #[.pointer (some ⟨b, 0, none⟩)] (fun x => (d : Int) + x) fun wr h2 i hi =>
      PlaceNetwork1_c n b i d wr ((h2.cell (p := ⟨b, 0, none⟩) hbl).trans hc) hi (by omega) (by omega)
  have HLEN : Hid ((renP (fun x => (d : Int) + x) xss).length = xss.length) := renP_len _ _
  obtain ⟨RS, hRS⟩ : ∃ R, R = renP (fun x => (d : Int) + x) xss := ⟨_, rfl⟩
  rw [← hRS] at HR HLEN ⊢
  obtain ⟨ao, g, cap, rfl, -, -, -⟩ := hv.rows
  obtain ⟨L, hL⟩ : ∃ L, L = xss.length := ⟨_, rfl⟩
  rw [← hL] at HC HR HLEN ⊢
  clear hv hL hok hRS
  have t1 : ¬ (d : Int) < 0 := by omega
  have t2 : ¬ (8 : Int) < (d : Int) := by omega
  have t3 : (d : Int) + (n : Int) = 8 := by omega
  go_enter Tryz.func15, Tryz.ntmps15
  go_wp2_with fail
  obtain ⟨W3, hW3⟩ : ∃ W, W = (((w.alloc (.cells #[.int .i64 n, .slice ao L cap] 25)).alloc (.cells #[.int .i64 d] 3)).alloc (.cells #[.int .i64 0, .slice none 0 0] 25)) := ⟨_, rfl⟩
  have q0 : W3.heap[w.heap.size]? = some (.cells #[.int .i64 n, .slice ao L cap] 25 (0, 0)) := by rw [hW3]; exact blk_old (blk_old (blk_new w _) _) _
  have q1 : W3.heap[w.heap.size + 1]? = some (.cells #[.int .i64 d] 3 (0, 0)) := by
    rw [hW3]
    have := blk_new (w.alloc (.cells #[.int .i64 n, .slice ao L cap] 25)) (.cells #[.int .i64 d] 3)
    rw [show (w.alloc (.cells #[.int .i64 n, .slice ao L cap] 25)).heap.size = w.heap.size + 1 from by simp] at this
    exact blk_old this _
  have q2 : W3.heap[w.heap.size + 2]? = some (.cells #[.int .i64 0, .slice none 0 0] 25 (0, 0)) := by
    rw [hW3]
    have := blk_new ((w.alloc (.cells #[.int .i64 n, .slice ao L cap] 25)).alloc (.cells #[.int .i64 d] 3)) (.cells #[.int .i64 0, .slice none 0 0] 25)
    rwa [show ((w.alloc (.cells #[.int .i64 n, .slice ao L cap] 25)).alloc (.cells #[.int .i64 d] 3)).heap.size = w.heap.size + 2 from by simp] at this
  have hB3 : Below w.heap.size w W3 := by
    rw [hW3]
    exact (((Below.refl _ _).alloc (Nat.le_refl _) _).alloc (by simp) _).alloc (by simp; omega) _
  have hz3 : W3.heap.size = w.heap.size + 3 := by rw [hW3]; simp
  rw [← hW3]
  clear hW3
  refine (HC.out W3 hB3).mono ?_
  rintro e w4 ⟨rfl, b4⟩
  have r0 := (b4.block w.heap.size (by omega)).trans q0
  have r1 := (b4.block (w.heap.size + 1) (by omega)).trans q1
  have HS2 := Lib.hid ((b4.block (w.heap.size + 2) (by omega)).trans q2)
  have c0 := blk_cell r0 0
  have c1 := blk_cell r0 1
  have c2 := blk_cell r1 0
  have HB5 := Lib.hid (hB3.trans (b4.mono (by omega)))
  have hz4 := b4.size
  clear b4 q0 q1 q2 hB3 r0 r1
  go_wp2_with fail
  refine (HR.out w4 (w.heap.size + 1) HB5.out (by omega) c2).mono ?_
  rintro e w6 ⟨u6, us6, rfl, o6, b6⟩
  obtain ⟨ao6, g6, cap6, e6, -, -, -⟩ := o6.rows
  rw [HLEN.out] at e6
  subst e6
  have HT2 := Lib.hid ((b6.block (w.heap.size + 2) (by omega)).trans HS2.out)
  have HB6 := Lib.hid (HB5.out.trans (b6.mono HB5.out.size))
  have hz6 := b6.size
  have x0 := blk_cell HT2.out 0
  have x1 := blk_cell HT2.out 1
  have y0 := blk_free HT2.out 0
  have y1 := blk_free HT2.out 1
  have HFN : Hid (NetC w 8 RS true (.returned (.tuple #[.agg #[.int .i64 8, .slice ao6 L cap6], .bool true])) ((w6.setCell ⟨w.heap.size + 2, 0, none⟩ (.int .i64 8)).setCell ⟨w.heap.size + 2, 1, none⟩ (.slice ao6 L cap6))) := by
    refine ⟨_, us6, rfl, ?_, (HB6.out.setCell (by show w.heap.size ≤ w.heap.size + 2; omega) _).setCell (by show w.heap.size ≤ w.heap.size + 2; omega) _⟩
    exact (o6.kept fun k h1 _ _ => by rw [Below.heap_setCell _ _ _ _ (by show k ≠ w.heap.size + 2; omega), Below.heap_setCell _ _ _ _ (by show k ≠ w.heap.size + 2; omega)]).mono (by omega) (by simp [World.setCell])
  have z0 := blk_cell (box_set1 (y := .slice ao6 L cap6) (box_set0 (y := .int .i64 8) HT2.out)) 0
  have z1 := blk_cell (box_set1 (y := .slice ao6 L cap6) (box_set0 (y := .int .i64 8) HT2.out)) 1
  clear o6 b6 c0 c1 c2
  go_wp2
  exact bodyPost_ret (v := .tuple #[.agg #[.int .i64 8, .slice ao6 L cap6], .bool true]) (by simp [results, Tryz.results15, go_sem, z0, z1]) rfl HFN.out
end Go.Proofs.YtiodolbgapjmkaaGreatDoor
