/- A network run on a list of ints, in the program and in the reference, by their contracts. Conditions: the comparators are of the list's positions. -/
import Derived.Test.YtiodolbgapjmkaaGreatDoorCopy
import Derived.Test.YtiodolbgapjmkaaGreatDoorNetBits
import Derived.Test.YtiodolbgapjmkaaGreatDoorWalkU
namespace Go.Proofs.YtiodolbgapjmkaaGreatDoor
open Go.RowKit
set_option maxRecDepth 100000
set_option linter.unusedVariables false

/-- A list of ints behind one comparator. -/
def cmpx (p : List Int) (l : List Int) : List Int :=
  (l.set (p.getD 0 0).toNat (min (l.getD (p.getD 0 0).toNat 0) (l.getD (p.getD 1 0).toNat 0))).set (p.getD 1 0).toNat (max (l.getD (p.getD 0 0).toNat 0) (l.getD (p.getD 1 0).toNat 0))
theorem cmpx_len (p l : List Int) : (cmpx p l).length = l.length := by simp [cmpx]
/-- A list of ints behind a network. -/
def applyP (xss : List (List Int)) (l : List Int) : List Int := xss.foldl (fun l p => cmpx p l) l
theorem applyP_len (xss : List (List Int)) : ∀ l : List Int, (applyP xss l).length = l.length := by
  induction xss with
  | nil => intro l; rfl
  | cons p r ih => intro l; show (applyP r (cmpx p l)).length = _; rw [ih, cmpx_len]
theorem applyP_take {xss : List (List Int)} {k : Nat} (hk : k < xss.length) {i j : Nat} (h : xss.getD k [] = [(i : Int), (j : Int)]) (l : List Int) :
    applyP (xss.take (k + 1)) l = ((applyP (xss.take k) l).set i (min ((applyP (xss.take k) l).getD i 0) ((applyP (xss.take k) l).getD j 0))).set j (max ((applyP (xss.take k) l).getD i 0) ((applyP (xss.take k) l).getD j 0)) := by
  rw [take_snoc_getD [] hk, applyP, List.foldl_append, h]
  rfl
theorem min_if (x y : Int) : min x y = if y < x then y else x := by
  by_cases h : y < x
  · rw [if_pos h]; omega
  · rw [if_neg h]; omega
theorem max_if (x y : Int) : max x y = if x < y then y else x := by
  by_cases h : x < y
  · rw [if_pos h]; omega
  · rw [if_neg h]; omega
/-- All rows are pairs of positions below n. -/
def pairsOf (n : Nat) (xss : List (List Int)) : Prop := ∀ k, k < xss.length → ∃ i j : Nat, xss.getD k [] = [(i : Int), (j : Int)] ∧ i < n ∧ j < n ∧ i ≠ j
theorem OwnI.store {w : World} {lo hi g L cap : Nat} {xs : List Int} (h : OwnI w lo hi (.slice (some ⟨g, 0, none⟩) L cap) xs) (hL : L = xs.length) (i : Nat) (x : Int) : OwnI (w.setCell ⟨g, i, none⟩ (.int .i64 x)) lo hi (.slice (some ⟨g, 0, none⟩) L cap) (xs.set i x) := by
  subst hL
  have hr := h.row
  rw [ivs_length] at hr
  have hst := (hr.stored i (.int .i64 x)).1
  have e : (ivs xs).set i (.int .i64 x) = ivs (xs.set i x) := by unfold ivs; rw [List.map_set]
  rw [e] at hst
  refine ⟨?_, h.lt⟩
  rw [ivs_length, List.length_set]
  exact hst
theorem OwnI.cellAt {w : World} {lo hi g L cap : Nat} {xs : List Int} (h : OwnI w lo hi (.slice (some ⟨g, 0, none⟩) L cap) xs) (i : Nat) (hi' : i < xs.length) : w.cell? ⟨g, i, none⟩ = some (.int .i64 (xs.getD i 0)) ∧ w.frozen? ⟨g, i, none⟩ = false ∧ g < w.heap.size := by
  obtain ⟨ao, g2, cap2, e, h1, h2, h3⟩ := h.view
  cases e
  obtain ⟨e2, -, -⟩ := h2 (by omega)
  cases e2
  exact ⟨(h3 i hi').1, (h3 i hi').2, (h.row.lt g rfl).2⟩
theorem getD_set_ne' (xs : List Int) (i j : Nat) (x : Int) (h : i ≠ j) : (xs.set i x).getD j 0 = xs.getD j 0 := by simp [List.getD, List.getElem?_set_ne h]

set_option maxHeartbeats 2000000 in
theorem apply_c (n : Nat) (lo hi lo2 hi2 : Nat) (a0 : Int) (v : Value) (vs : List Value) (xss : List (List Int)) (u : Value) (ls : List Int) (w : World) (hv : OwnR w lo hi v vs xss) (hhi : hi ≤ w.heap.size) (hP : pairsOf n xss) (hlx : xss.length ≤ 1000) (hu : IntsV w lo2 hi2 u ls) (hh2 : hi2 ≤ w.heap.size) (hln : ls.length = n) (hn1 : 1 ≤ n) (hn8 : n ≤ 8) :
    Calls Tryz.prog 32 #[.agg #[.int .i64 a0, v], u] w (IntC w (applyP xss ls)) := by
  have CC : Hid (∀ w, IntsV w lo2 hi2 u ls → hi2 ≤ w.heap.size → Calls Tryz.prog 29 #[u] w (IntC w ls)) := fun w h1 h2 => Clone_c lo2 hi2 u ls w h1 h2 (by omega) (by omega)
  have HU := Lib.hid hu
  have HPP := Lib.hid hP
  obtain ⟨ao, g, cap, A, G, C, rfl, hcap, hao, hrow⟩ := hv.view
  have HRW := Lib.hid hrow
  have HAO := Lib.hid hao
  obtain ⟨ao2, bb2, off2, cap2, eu, -, -, -⟩ := id hu
  obtain ⟨nn, hnn⟩ : ∃ nn, nn = ls.length := ⟨_, rfl⟩
  rw [← hnn] at eu hln
  subst hln
  subst eu
  obtain ⟨L, hlen⟩ : ∃ l, l = xss.length := ⟨_, rfl⟩
  have HLEN := Lib.hid hlen
  rw [← hlen] at hcap HAO HRW hlx ⊢
  have HLN : Hid (ls.length = nn) := hnn.symm
  clear hv hlen hu hrow hP hao hnn
  go_enter Tryz.func32, Tryz.ntmps32
  go_wp2_with fail
  obtain ⟨W1, hW1, c0, c1, hsz, hB1, -, -⟩ := box2 w (.int .i64 a0) (.slice ao L cap) 25
  rw [hW1]
  clear hW1
  refine (CC.out W1 (HU.out.below hB1 hh2) (by omega)).mono ?_
  rintro e w1 ⟨u1, rfl, o1, b1⟩
  obtain ⟨d0, d1, z1⟩ := boxC b1 (by omega) c0 c1
  obtain ⟨ao3, g3, cap3, e3, hc3, ha3, -⟩ := OwnI.view o1
  rw [HLN.out] at e3 hc3 ha3
  obtain ⟨e4, g31, g32⟩ := ha3 hn1
  subst e4
  subst e3
  have O1 := Lib.hid o1
  have HB1 : Hid (Below w.heap.size w w1) := hB1.trans (b1.mono (by omega))
  have zz1 := b1.size
  clear o1 b1 c0 c1 CC HU hB1 ha3
  go_wp2_with fail
  go_loopw [15] (fun i wr => ∃ k : Nat, k ≤ L ∧ i = .int .i64 k ∧ Hid (OwnI wr W1.heap.size w1.heap.size (.slice (some ⟨g3, 0, none⟩) nn cap3) (applyP (xss.take k) ls)) ∧ Below w.heap.size w wr ∧ w1.heap.size ≤ wr.heap.size) (fun i _ => L - (intOf i).toNat)
  case atStart => exact ⟨0, Nat.zero_le _, rfl, by show OwnI _ _ _ _ _; simpa [applyP] using O1.out, HB1.out, Nat.le_refl _⟩
  case round =>
    obtain ⟨k, hk, rfl, HO, hb, hsw⟩ := hrel
    have HB := Lib.hid hb
    have HSW := Lib.hid hsw
    clear O1
    by_cases hlt : k < L
    · obtain ⟨i, j, hr, hi1, hj1, hne⟩ := HPP.out k (by have := HLEN.out; omega)
      obtain ⟨q1, q2, q3, q4⟩ := HRW.out k hlt
      obtain ⟨ha0, hg1, hg2⟩ := HAO.out (by omega)
      subst ha0
      rw [hr] at q1 q2 q3 q4
      obtain ⟨ea, gk1, gk2⟩ := q3 (by simp)
      rw [ea] at q1
      have hclen : (applyP (xss.take k) ls).length = nn := by rw [applyP_len, HLN.out]
      obtain ⟨cur, hcur⟩ : ∃ cur, cur = applyP (xss.take k) ls := ⟨_, rfl⟩
      have HT : Hid (applyP (xss.take (k + 1)) ls = (cur.set i (min (cur.getD i 0) (cur.getD j 0))).set j (max (cur.getD i 0) (cur.getD j 0))) := by
        show _ = _
        rw [applyP_take (by have := HLEN.out; omega) hr, hcur]
      rw [← hcur] at HO hclen
      obtain ⟨a, ha⟩ : ∃ a, a = cur.getD i 0 := ⟨_, rfl⟩
      obtain ⟨b, hb2⟩ : ∃ b, b = cur.getD j 0 := ⟨_, rfl⟩
      rw [← ha, ← hb2] at HT
      have ci := HO.out.cellAt i (by omega)
      have cj := HO.out.cellAt j (by omega)
      rw [← ha] at ci
      rw [← hb2] at cj
      obtain ⟨ci1, ci2, ci3⟩ := ci
      obtain ⟨cj1, cj2, -⟩ := cj
      have c0 : wr.cell? ⟨g, k, none⟩ = some (.slice (some ⟨G k, 0, none⟩) 2 (C k)) := (hb.cell (p := ⟨g, k, none⟩) (by show g < _; omega)).trans q1
      have c1 : wr.cell? ⟨G k, 0, none⟩ = some (.int .i64 i) := (hb.cell (p := ⟨G k, 0, none⟩) (by show G k < _; omega)).trans (q4 0 (by simp))
      have c2 : wr.cell? ⟨G k, 1, none⟩ = some (.int .i64 j) := (hb.cell (p := ⟨G k, 1, none⟩) (by show G k < _; omega)).trans (q4 1 (by simp))
      have hGk : G k < wr.heap.size := by have := hb.size; omega
      clear hsw
      have hgne : g3 ≠ G k := by omega
      have HCL := Lib.hid hclen
      have hii : (i : Int) < (nn : Int) := by omega
      have hjj : (j : Int) < (nn : Int) := by omega
      have HA := Lib.hid ha
      have HBB := Lib.hid hb2
      clear hr ea q1 q2 q3 q4 hb hcur hclen ha hb2
      go_wp2_with fail
      refine wp_region_later wr.heap.size wr (by kernel_rfl) (by kernel_rfl) (Below.refl _ _) ?_
      have hLW := LW.cells (B := wr.heap.size) (w0 := wr)
      repeat (go_big_quiet_step (fail))
      refine wpQuiet_nil ?_
      rintro w2 ⟨⟨w2s, hb2⟩, rfl⟩
      clear hLW
      have f1 := (hb2.cell (p := ⟨G k, 0, none⟩) hGk).trans c1
      have f2 := (hb2.cell (p := ⟨G k, 1, none⟩) hGk).trans c2
      have f3 := (hb2.cell (p := ⟨g3, i, none⟩) ci3).trans ci1
      have f4 := (hb2.cell (p := ⟨g3, j, none⟩) ci3).trans cj1
      have f5 := (hb2.frozen (p := ⟨g3, i, none⟩) ci3).trans ci2
      have f6 := (hb2.frozen (p := ⟨g3, j, none⟩) ci3).trans cj2
      have F3 := Lib.hid f3
      have mnb : ∀ x y : Int, (if y < x then y else x) = min x y := fun x y => (min_if x y).symm
      have mxb : ∀ x y : Int, (if x < y then y else x) = max x y := fun x y => (max_if x y).symm
      go_wp2_with fail
      refine wpU_start (S := fun W' : World => W'.cell? ⟨G k, 0, none⟩ = some (.int .i64 i) ∧ W'.cell? ⟨G k, 1, none⟩ = some (.int .i64 j)) (m := 17) (by kernel_rfl) ?_
      have hHeld : (fun W' : World => W'.cell? ⟨G k, 0, none⟩ = some (.int .i64 i) ∧ W'.cell? ⟨G k, 1, none⟩ = some (.int .i64 j)) w2.drew := ⟨f1, f2⟩
      refine wpU_take (i := 0) (v := ?v0) rfl (by kernel_rfl) (fun _ _ _ h => h) ⟨by rfl, ?hy0⟩ hHeld ?rest0
      case hy0 => (intro w hSw; (try dsimp only at hSw); go_simp; try with_reducible rfl)
      try simp only [Act.put, List.setIfInBounds_toArray, List.set_cons_zero, List.set_cons_succ]
      refine wpU_take (i := 1) (v := ?v1) rfl (by kernel_rfl) (fun _ _ _ h => h) ⟨by rfl, ?hy1⟩ hHeld ?rest1
      case hy1 => (intro w hSw; (try dsimp only at hSw); go_simp; try with_reducible rfl)
      try simp only [Act.put, List.setIfInBounds_toArray, List.set_cons_zero, List.set_cons_succ]
      refine wpU_take (i := 2) (v := ?v2) rfl (by kernel_rfl) (fun _ _ _ h => h) ⟨by rfl, ?hy2⟩ hHeld ?rest2
      case hy2 => (intro w hSw; (try dsimp only at hSw); go_simp; try with_reducible rfl)
      try simp only [Act.put, List.setIfInBounds_toArray, List.set_cons_zero, List.set_cons_succ]
      refine wpU_take (i := 3) (v := ?v3) rfl (by kernel_rfl) (fun _ _ _ h => h) ⟨by rfl, ?hy3⟩ hHeld ?rest3
      case hy3 => (intro w hSw; (try dsimp only at hSw); go_simp; try with_reducible rfl)
      try simp only [Act.put, List.setIfInBounds_toArray, List.set_cons_zero, List.set_cons_succ]
      refine wpU_take (i := 4) (v := ?v4) rfl (by kernel_rfl) (fun _ _ _ h => h) ⟨by rfl, ?hy4⟩ hHeld ?rest4
      case hy4 => (intro w hSw; (try dsimp only at hSw); go_simp; try with_reducible rfl)
      try simp only [Act.put, List.setIfInBounds_toArray, List.set_cons_zero, List.set_cons_succ]
      refine wpU_take (i := 5) (v := ?v5) rfl (by kernel_rfl) (fun _ _ _ h => h) ⟨by rfl, ?hy5⟩ hHeld ?rest5
      case hy5 => (intro w hSw; (try dsimp only at hSw); go_simp; try with_reducible rfl)
      try simp only [Act.put, List.setIfInBounds_toArray, List.set_cons_zero, List.set_cons_succ]
      refine wpU_take (i := 6) (v := ?v6) rfl (by kernel_rfl) (fun _ _ _ h => h) ⟨by rfl, ?hy6⟩ hHeld ?rest6
      case hy6 => (intro w hSw; (try dsimp only at hSw); go_simp; try with_reducible rfl)
      try simp only [Act.put, List.setIfInBounds_toArray, List.set_cons_zero, List.set_cons_succ]
      refine wpU_take (i := 7) (v := ?v7) rfl (by kernel_rfl) (fun _ _ _ h => h) ⟨by rfl, ?hy7⟩ hHeld ?rest7
      case hy7 => (intro w hSw; (try dsimp only at hSw); go_simp; try with_reducible rfl)
      try simp only [Act.put, List.setIfInBounds_toArray, List.set_cons_zero, List.set_cons_succ]
      refine wpU_take (i := 8) (v := ?v8) rfl (by kernel_rfl) (fun _ _ _ h => h) ⟨by rfl, ?hy8⟩ hHeld ?rest8
      case hy8 => (intro w hSw; (try dsimp only at hSw); go_simp; try with_reducible rfl)
      try simp only [Act.put, List.setIfInBounds_toArray, List.set_cons_zero, List.set_cons_succ]
      refine wpU_take (i := 9) (v := ?v9) rfl (by kernel_rfl) (fun _ _ _ h => h) ⟨by rfl, ?hy9⟩ hHeld ?rest9
      case hy9 => (intro w hSw; (try dsimp only at hSw); go_simp; try with_reducible rfl)
      try simp only [Act.put, List.setIfInBounds_toArray, List.set_cons_zero, List.set_cons_succ]
      refine wpU_take (i := 11) (v := ?v11) rfl (by kernel_rfl) (fun _ _ _ h => h) ⟨by rfl, ?hy11⟩ hHeld ?rest11
      case hy11 => (intro w hSw; (try dsimp only at hSw); go_simp; try with_reducible rfl)
      try simp only [Act.put, List.setIfInBounds_toArray, List.set_cons_zero, List.set_cons_succ]
      refine wpU_take (i := 12) (v := ?v12) rfl (by kernel_rfl) (fun _ _ _ h => h) ⟨by rfl, ?hy12⟩ hHeld ?rest12
      case hy12 => (intro w hSw; (try dsimp only at hSw); go_simp; try with_reducible rfl)
      try simp only [Act.put, List.setIfInBounds_toArray, List.set_cons_zero, List.set_cons_succ]
      refine wpU_take (i := 10) (v := ?v10) rfl (by kernel_rfl) (fun _ _ _ h => h) ⟨by rfl, ?hy10⟩ hHeld ?rest10
      case hy10 => (intro w hSw; (try dsimp only at hSw); go_simp; try with_reducible rfl)
      try simp only [Act.put, List.setIfInBounds_toArray, List.set_cons_zero, List.set_cons_succ]
      refine wpU_take (i := 13) (v := ?v13) rfl (by kernel_rfl) (fun _ _ _ h => h) ⟨by rfl, ?hy13⟩ hHeld ?rest13
      case hy13 => (intro w hSw; (try dsimp only at hSw); go_simp; try with_reducible rfl)
      try simp only [Act.put, List.setIfInBounds_toArray, List.set_cons_zero, List.set_cons_succ]
      refine wpU_take (i := 14) (v := ?v14) rfl (by kernel_rfl) (fun _ _ _ h => h) ⟨by rfl, ?hy14⟩ hHeld ?rest14
      case hy14 => (intro w hSw; (try dsimp only at hSw); go_simp; try with_reducible rfl)
      try simp only [Act.put, List.setIfInBounds_toArray, List.set_cons_zero, List.set_cons_succ]
      refine wpU_one (i := 15) (by kernel_rfl) rfl (fun K hK => ?_)
      go_simp
      refine hK.out _ _ (⟨(World.cell?_setCell_far _ _ _ _ hgne).trans f1, (World.cell?_setCell_far _ _ _ _ hgne).trans f2⟩) (fun hHeld => ?_)
      clear hK K
      try simp only [Act.put, List.setIfInBounds_toArray, List.set_cons_zero, List.set_cons_succ]
      refine wpU_take (i := 16) (v := ?v16) rfl (by kernel_rfl) (fun _ _ _ h => h) ⟨by rfl, ?hy16⟩ hHeld ?rest16
      case hy16 => (intro w hSw; (try dsimp only at hSw); go_simp; try with_reducible rfl)
      try simp only [Act.put, List.setIfInBounds_toArray, List.set_cons_zero, List.set_cons_succ]
      refine wpU_last (by kernel_rfl) rfl (fun K hK => ?_)
      go_simp
      refine hK.out _ _ ?_
      clear hK K
      try simp only [Act.put, List.setIfInBounds_toArray, List.set_cons_zero, List.set_cons_succ]
      refine wpU_done (by kernel_rfl) ?_ _
      go_wp2
      go_roundw
      case rel =>
        have o2 : OwnI w2 W1.heap.size w1.heap.size (.slice (some ⟨g3, 0, none⟩) nn cap3) cur := Own.below HO.out hb2 HSW.out
        have o3 := OwnI.store o2 HCL.out.symm i (min a b)
        have o4 := OwnI.store o3 (by rw [List.length_set, HCL.out]) j (max a b)
        have z2 := hb2.size
        exact ⟨k + 1, by omega, by go_num, by show OwnI _ _ _ _ _; rw [HT.out]; exact Own.drew o4, (((HB.out.trans (hb2.mono HB.out.size)).setCell (by show w.heap.size ≤ g3; omega) _).setCell (by show w.heap.size ≤ g3; omega) _).drew, by have := HSW.out; simp [World.setCell, World.drew]; omega⟩
      case measure => simp [intOf]; omega
    · have HE : Hid (xss.take k = xss) := List.take_of_length_le (by have := HLEN.out; omega)
      clear hsw
      go_wp2
      go_ret
      exact ⟨_, rfl, by rw [← HE.out]; exact Own.mono HO.out (by omega) (by have := HSW.out; omega), HB.out⟩
end Go.Proofs.YtiodolbgapjmkaaGreatDoor
