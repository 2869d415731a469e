/- The reference's standard form of a network: its comparators are standard ones. Conditions: the network is valid. -/
import Derived.Test.YtgdkihabphihoaaDraw
import Derived.Test.YtgdkihabphihoaaApply
import Derived.Test.YtgdkihabphihoaaWires
namespace Go.Proofs.Ytgdkihabphihoaa
open Go.RowKit
set_option maxRecDepth 100000
set_option linter.unusedVariables false

theorem l04First_c (n : Nat) (w : World) (h2 : n ≤ 1000) : Calls Try.prog 192 #[.int .i64 n] w (IntC w (upI 0 n)) := by
  go_enter Try.func192, Try.ntmps192
  go_wp2
  obtain ⟨W, hW⟩ : ∃ W, W = w.alloc (.cells #[] 3) := ⟨_, rfl⟩
  have hi : OwnI W w.heap.size W.heap.size (.slice (some ⟨w.heap.size, 0, none⟩) 0 0) [] := by rw [hW]; exact Own.mono (ownI_empty w) (Nat.le_refl _) (by simp)
  have hb : Below w.heap.size w W := by rw [hW]; exact (Below.refl _ _).alloc (Nat.le_refl _) _
  rw [← hW]
  clear hW
  have HI := Lib.hid hi
  clear hi
  go_loopw [3, 4] (fun v i wr => ∃ k : Nat, k ≤ n ∧ i = .int .i64 (k : Int) ∧ OwnI wr w.heap.size wr.heap.size v (upI 0 k) ∧ Below w.heap.size w wr) (fun _ i _ => n - (intOf i).toNat)
  case atStart => exact ⟨0, by omega, by go_num, by simpa [upI] using HI.out, hb⟩
  case round =>
    obtain ⟨k, hk, rfl, hR, hB⟩ := hrel
    have HR := Lib.hid hR
    have HB := Lib.hid hB
    have hz := hB.size
    have HL : Hid ((upI 0 k).length ≤ 100000000) := by show _ ≤ _; rw [upI_length]; omega
    clear hR hB
    by_cases hlt : k < n
    · go_wp2_with (at_builtin; refine wpList_app_int rfl (.tmp 11) (.tmp 13) rfl wr (k : Int) w.heap.size wr.heap.size _ (upI 0 k) HR.out hz HL.out rfl rfl ?_; intro ao L cap w1 hL o1 b1 z1; have O1 := Lib.hid o1; clear o1)
      go_roundw
      case rel => exact ⟨k + 1, by omega, by go_num, by rw [upI_succ, Int.zero_add]; exact O1.out, HB.out.trans b1⟩
      case measure => simp [intOf]; omega
    · have HE : Hid (k = n) := by show k = n; omega
      go_wp2
      go_ret
      exact ⟨_, rfl, by rw [← HE.out]; exact HR.out, HB.out⟩
/-- 'out = append(out, []int{p, q})', where the world's size is known by another name. -/
theorem wpList_app_pair_z {ops : Array Oper} {rest : List Oper} {o : Oper} {a : Act} {Q : Exit → Act → World → Prop} (hgd : o.guard = none) (s x : Operand)
    (ho : o.op = .call { callee := .builtin .append, args := #[s, x], argTypes := #[22, 22] })
    (wr : World) (z : Nat) (hz : Hid (z = wr.heap.size)) (p q : Int) (lo : Nat) (v : Value) (vs : List Value) (xss : List (List Int)) (hR : OwnR wr lo wr.heap.size v vs xss) (hlo : lo ≤ wr.heap.size) (hlen : xss.length ≤ 1000000)
    (hs : a.eval s = v) (hx : a.eval x = .slice (some ⟨z + 1, 0, none⟩) 1 1)
    (h : ∀ g L cap w' vs', Hid (L = xss.length + 1) → OwnR w' lo w'.heap.size (.slice (some ⟨g, 0, none⟩) L cap) vs' (xss ++ [[p, q]]) → Below lo wr w' → lo ≤ w'.heap.size →
      wpList Try.prog ops Q rest (a.put o.dst (.slice (some ⟨g, 0, none⟩) L cap)) w') :
    wpList Try.prog ops Q (o :: rest) a ((wr.alloc (.cells #[.int .i64 p, .int .i64 q] 3)).alloc (.cells #[.slice (some ⟨z, 0, none⟩) 2 2] 31)) := by
  have e := hz.out
  subst e
  exact wpList_app_pair hgd s x ho wr p q lo v vs xss hR hlo hlen hs hx h
theorem NB.far {w : World} {X g i : Nat} {n : Int} {v y : Value} {vs : List Value} {xss : List (List Int)} (h : NB w X n v vs xss) (hg : g < X) : NB (w.setCell ⟨g, i, none⟩ y) X n v vs xss := by
  refine ⟨(Below.heap_setCell _ _ _ _ (by show X ≠ g; omega)).trans h.box, ?_⟩
  rw [show (w.setCell ⟨g, i, none⟩ y).heap.size = w.heap.size from by simp [World.setCell]]
  exact h.own.kept fun k h1 _ _ => Below.heap_setCell _ _ _ _ (by show k ≠ g; omega)
theorem size_two (w : World) (a b : Addr) (x y : Value) : w.heap.size = ((w.setCell a x).setCell b y).heap.size := by simp [World.setCell]
/-- n different numbers below n. -/
def permP (n : Nat) (ns : List Int) : Prop := ns.length = n ∧ (∀ i, i < n → 0 ≤ ns.getD i 0 ∧ ns.getD i 0 < n) ∧ ∀ i j, i < n → j < n → i ≠ j → ns.getD i 0 ≠ ns.getD j 0
theorem upI_getD (n i : Nat) (h : i < n) : (upI 0 n).getD i 0 = (i : Int) := by simp [upI, h]
theorem permP_up (n : Nat) : permP n (upI 0 n) := by
  refine ⟨upI_length _ _, fun i hi => ?_, fun i j hi hj hne => ?_⟩
  · rw [upI_getD n i hi]; omega
  · rw [upI_getD n i hi, upI_getD n j hj]; omega
theorem getD_set_eq' (xs : List Int) (i : Nat) (x : Int) (h : i < xs.length) : (xs.set i x).getD i 0 = x := by simp [List.getD, h]
theorem swap_getD (ns : List Int) (i j k : Nat) (hi : i < ns.length) (hj : j < ns.length) (hne : i ≠ j) :
    ((ns.set i (ns.getD j 0)).set j (ns.getD i 0)).getD k 0 = if k = i then ns.getD j 0 else if k = j then ns.getD i 0 else ns.getD k 0 := by
  by_cases h1 : k = i
  · rw [if_pos h1, h1, getD_set_ne' _ _ _ _ (Ne.symm hne), getD_set_eq' _ _ _ hi]
  · rw [if_neg h1]
    by_cases h2 : k = j
    · rw [if_pos h2, h2, getD_set_eq' _ _ _ (by simpa using hj)]
    · rw [if_neg h2, getD_set_ne' _ _ _ _ (fun e => h2 e.symm), getD_set_ne' _ _ _ _ (fun e => h1 e.symm)]
theorem permP_swap {n : Nat} {ns : List Int} (h : permP n ns) {i j : Nat} (hi : i < n) (hj : j < n) (hne : i ≠ j) : permP n ((ns.set i (ns.getD j 0)).set j (ns.getD i 0)) := by
  obtain ⟨h1, h2, h3⟩ := h
  have e := fun k => swap_getD ns i j k (by omega) (by omega) hne
  refine ⟨by simp [h1], fun k hk => ?_, fun k l hk hl hkl => ?_⟩
  · rw [e k]
    split
    · exact h2 j hj
    · split
      · exact h2 i hi
      · exact h2 k hk
  · rw [e k, e l]
    have a1 := h3 i j hi hj hne
    have a2 := h3 j i hj hi (Ne.symm hne)
    have a3 := fun q : k ≠ i => h3 k i hk hi q
    have a4 := fun q : k ≠ j => h3 k j hk hj q
    have a5 := fun q : i ≠ l => h3 i l hi hl q
    have a6 := fun q : j ≠ l => h3 j l hj hl q
    have a7 := h3 k l hk hl hkl
    split <;> split <;> (try split) <;> (try split) <;> (try omega) <;> first | (apply a6; omega) | (apply a5; omega) | (apply a4; omega) | (apply a3; omega) | exact a7 | exact a2 | exact a1
/-- A standard network of as many wires and comparators comes back, with a list and true. -/
def StdC (w : World) (n L : Nat) (e : Ending) (w' : World) : Prop :=
  ∃ (v u : Value) (us : List Value) (yss : List (List Int)), e = .returned (.tuple #[.agg #[.int .i64 n, v], u, .bool true]) ∧ pairUp n true yss ∧ yss.length = L ∧ OwnR w' w.heap.size w'.heap.size v us yss ∧ Below w.heap.size w w'
set_option maxHeartbeats 4000000 in
theorem StandardOf_s_yes (n : Nat) (lo hi : Nat) (v : Value) (vs : List Value) (xss : List (List Int)) (w : World) (hv : OwnR w lo hi v vs xss) (hhi : hi ≤ w.heap.size) (hok : netOk n xss = true) :
    Calls Try.prog 137 #[.agg #[.int .i64 n, v]] w (StdC w n xss.length) := by
  have HC : Hid (∀ w, OwnR w lo hi v vs xss → hi ≤ w.heap.size → Calls Try.prog 101 #[.agg #[.int .i64 n, v]] w fun e w' => e = .returned (.bool true) ∧ Below w.heap.size w w') := fun w h1 h2 => by
    have := SNetworkOk_c n lo hi v vs xss w h1 h2
    rwa [hok] at this
  have HP := Lib.hid (netOk_pair hok)
  have hl60 := netOk_len hok
  have hn := netOk_n hok
  have hn8 : n ≤ 8 := by omega
  have HN1 : Hid (1 ≤ n) := by show 1 ≤ n; omega
  obtain ⟨ao, g, cap, A, G, C, rfl, hcap, hao, hrow⟩ := hv.view
  have HRW := Lib.hid hrow
  have HV := Lib.hid hv
  obtain ⟨L, hlen⟩ : ∃ l, l = xss.length := ⟨_, rfl⟩
  have HLEN := Lib.hid hlen
  rw [← hlen] at HV HC hl60 hcap hao HRW HP ⊢
  clear hv hlen hok hrow hn
  go_enter Try.func137, Try.ntmps137
  go_wp2_with fail
  obtain ⟨W1, hW1, c0, c1, hsz, hB1, -, -⟩ := box2 w (.int .i64 n) (.slice ao L cap) 27
  have hb9 := blk_new W1 (.cells #[.int .i64 0, .slice none 0 0] 27)
  obtain ⟨W2, hW2⟩ : ∃ W, W = W1.alloc (.cells #[.int .i64 0, .slice none 0 0] 27) := ⟨_, rfl⟩
  have hBa : Below W1.heap.size W1 W2 := by rw [hW2]; exact (Below.refl _ _).alloc (Nat.le_refl _) _
  have hs2 : W2.heap.size = W1.heap.size + 1 := by rw [hW2]; simp
  rw [← hW2] at hb9
  obtain ⟨c0, c1, hz0⟩ := boxC hBa (by omega) c0 c1
  have hB2 : Below w.heap.size w W2 := hB1.trans (hBa.mono (by omega))
  rw [hsz] at hb9
  try rw [hW1, ← hW2]
  have hw2 : w.heap.size + 1 < W2.heap.size := by omega
  clear hW1 hW2 hBa hs2 hsz hB1
  refine (HC.out W2 (HV.out.below hB2 (by omega)) (by omega)).mono ?_
  rintro e w3 ⟨rfl, b3⟩
  obtain ⟨d0, d1, z3⟩ := boxC b3 hz0 c0 c1
  have HR9 := Lib.hid (blk_below hb9 b3 hw2)
  have HB3 : Hid (Below w.heap.size w w3) := hB2.trans (b3.mono (by omega))
  have hw3 : w.heap.size + 1 < w3.heap.size := by have := b3.size; omega
  clear c0 c1 hb9 b3 hB2 HC
  go_wp2_with fail
  refine (l04First_c n w3 (by omega)).mono ?_
  rintro e w4 ⟨u4, rfl, o4, b4⟩
  obtain ⟨d0, d1, z4⟩ := boxC b4 z3 d0 d1
  have HB4 : Hid (Below w.heap.size w w4) := HB3.out.trans (b4.mono (by omega))
  have HR4 := Lib.hid (blk_below HR9.out b4 hw3)
  have zb4 := b4.size
  obtain ⟨ao4, g4, cap4, e4, -, ha4, -⟩ := OwnI.view o4
  rw [upI_length] at e4 ha4
  have hn1 : 1 ≤ n := HN1.out
  obtain ⟨e5, gk1, gk2⟩ := ha4 (by omega)
  subst e5
  subst e4
  have O4 := Lib.hid o4
  clear o4 b4 HR9
  go_wp2_with fail
  obtain ⟨W5, hW5⟩ : ∃ W, W = w4.alloc (.cells #[.int .i64 n, .slice none 0 0] 27) := ⟨_, rfl⟩
  have hB5 : Below w4.heap.size w4 W5 := by rw [hW5]; exact (Below.refl _ _).alloc (Nat.le_refl _) _
  have hs5 : W5.heap.size = w4.heap.size + 1 := by rw [hW5]; simp
  have hN5 : NB W5 w4.heap.size n (.slice none 0 0) [] [] := by rw [hW5]; exact ⟨blk_new _ _, OwnR.nil _ _ _⟩
  rw [← hW5]
  clear hW5 ha4
  have hgX : g4 ≠ w4.heap.size := by omega
  have hgX' : w4.heap.size ≠ g4 := by omega
  go_loopw [24] (fun i wr => ∃ k : Nat, k ≤ L ∧ i = .int .i64 k ∧ ∃ v us yss ns, NB wr w4.heap.size n v us yss ∧ yss.length = k ∧ pairUp n true yss ∧ Hid (OwnI wr w3.heap.size w4.heap.size (.slice (some ⟨g4, 0, none⟩) n cap4) ns) ∧ permP n ns ∧ Below w3.heap.size w4 wr ∧ w4.heap.size < wr.heap.size) (fun i _ => L - (intOf i).toNat)
  case atStart => exact ⟨0, Nat.zero_le _, rfl, _, _, _, _, hN5, rfl, pairUp_nil _ _, Own.below O4.out hB5 (Nat.le_refl _), permP_up n, hB5.mono zb4, by omega⟩
  case round =>
    obtain ⟨k, hk, rfl, v, us, yss, ns, hN, hyl, hpu, HO, hpm, hB, hXl⟩ := hrel
    have HN := Lib.hid hN
    have HYL := Lib.hid hyl
    have HPU := Lib.hid hpu
    have HPM := Lib.hid hpm
    have HB := Lib.hid hB
    clear hyl hpu hN5 hB5
    by_cases hlt : k < L
    · obtain ⟨i, j, hr, hi1, hj1, hne⟩ := HP.out k hlt
      obtain ⟨q1, q2, q3, q4⟩ := HRW.out k hlt
      obtain ⟨ha0, hg1, hg2⟩ := hao (by omega)
      subst ha0
      rw [hr] at q1 q2 q3 q4
      obtain ⟨ea, gk3, gk4⟩ := q3 (by simp)
      rw [ea] at q1
      have hnl : ns.length = n := hpm.1
      have HNL := Lib.hid hnl
      obtain ⟨ci1, ci2, ci3⟩ := HO.out.cellAt i (by omega)
      obtain ⟨cj1, cj2, -⟩ := HO.out.cellAt j (by omega)
      obtain ⟨a, ha, han⟩ : ∃ a : Nat, ns.getD i 0 = (a : Int) ∧ a < n := ⟨(ns.getD i 0).toNat, by have := hpm.2.1 i hi1; omega, by have := hpm.2.1 i hi1; omega⟩
      obtain ⟨b, hb, hbn⟩ : ∃ b : Nat, ns.getD j 0 = (b : Int) ∧ b < n := ⟨(ns.getD j 0).toNat, by have := hpm.2.1 j hj1; omega, by have := hpm.2.1 j hj1; omega⟩
      have hab : a ≠ b := by have := hpm.2.2 i j hi1 hj1 hne; rw [ha, hb] at this; omega
      have hsw := permP_swap hpm hi1 hj1 hne
      rw [ha] at ci1 hsw
      rw [hb] at cj1 hsw
      have HSW := Lib.hid hsw
      have hbw : Below w.heap.size w wr := HB4.out.trans (hB.mono (by omega))
      have c0 : wr.cell? ⟨g, k, none⟩ = some (.slice (some ⟨G k, 0, none⟩) 2 (C k)) := (hbw.cell (p := ⟨g, k, none⟩) (by show g < _; omega)).trans q1
      have c1 : wr.cell? ⟨G k, 0, none⟩ = some (.int .i64 i) := (hbw.cell (p := ⟨G k, 0, none⟩) (by show G k < _; omega)).trans (q4 0 (by simp))
      have c2 : wr.cell? ⟨G k, 1, none⟩ = some (.int .i64 j) := (hbw.cell (p := ⟨G k, 1, none⟩) (by show G k < _; omega)).trans (q4 1 (by simp))
      have hGk : G k < wr.heap.size := by have := hbw.size; omega
      have hgne : g4 ≠ G k := by omega
      have hgne' : G k ≠ g4 := by omega
      have hii : (i : Int) < (n : Int) := by omega
      have hjj : (j : Int) < (n : Int) := by omega
      obtain ⟨x0, x1, y0, y1⟩ := hN.cells
      have HYLL : Hid (yss.length ≤ 1000000) := by show _ ≤ _; have := HYL.out; omega
      have HHB := Lib.hid hb
      have HHA := Lib.hid ha
      clear hpm hnl hsw ha hb hr ea q1 q2 q3 q4 hB hN hbw
      by_cases hba : b < a
      · have e1 : (b : Int) < (a : Int) := by omega
        have HN6 := Lib.hid ((HN.out.far (i := i) (y := .int .i64 b) gk2).far (i := j) (y := .int .i64 a) gk2)
        have HZ6 : Hid (wr.heap.size = ((wr.setCell ⟨g4, i, none⟩ (.int .i64 b)).setCell ⟨g4, j, none⟩ (.int .i64 a)).heap.size) := size_two _ _ _ _ _
        have HO6 : Hid (OwnI ((wr.setCell ⟨g4, i, none⟩ (.int .i64 b)).setCell ⟨g4, j, none⟩ (.int .i64 a)) w3.heap.size w4.heap.size (.slice (some ⟨g4, 0, none⟩) n cap4) ((ns.set i b).set j a)) := (HO.out.store HNL.out.symm i b).store (by rw [List.length_set]; exact HNL.out.symm) j a
        have HB6 : Hid (Below w3.heap.size w4 ((wr.setCell ⟨g4, i, none⟩ (.int .i64 b)).setCell ⟨g4, j, none⟩ (.int .i64 a))) := (HB.out.setCell gk1 _).setCell gk1 _
        have hX6 : w4.heap.size + 1 ≤ ((wr.setCell ⟨g4, i, none⟩ (.int .i64 b)).setCell ⟨g4, j, none⟩ (.int .i64 a)).heap.size := by rw [← HZ6.out]; omega
        have HX6 := Lib.hid hX6
        have HS6 := Lib.hid (pairUp_snoc HPU.out hbn han (Ne.symm hab) (fun _ => hba))
        clear hX6
        go_wp2_with (at_builtin; refine wpList_app_pair_z rfl (.tmp 56) (.tmp 64) rfl _ wr.heap.size HZ6 b a (w4.heap.size + 1) _ us yss HN6.out.own HX6.out HYLL.out rfl rfl ?_; intro g7 L7 cap7 w7 us7 hL7 o7 b7 z7; have O7 := Lib.hid o7; have B7 := Lib.hid b7; have bx7 := (b7.block w4.heap.size (by omega)).trans HN6.out.box; have BX7 := Lib.hid bx7; have r0 := blk_free bx7 1; have r1 := blk_cell bx7 1; clear o7 b7 bx7)
        go_roundw
        case rel => exact ⟨k + 1, by omega, by go_num, _, us7, _, _, NB.store BX7.out O7.out, by simp [HYL.out], HS6.out, (Own.below HO6.out B7.out (by omega)).kept fun k _ h2 _ => Below.heap_setCell _ _ _ _ (by show k ≠ w4.heap.size; omega), HSW.out, (HB6.out.trans (B7.out.mono (by omega))).setCell (by show w3.heap.size ≤ w4.heap.size; omega) _, by simp [World.setCell]; omega⟩
        case measure => simp [intOf]; omega
      · have e1 : ¬ (b : Int) < (a : Int) := by omega
        have HOW := Lib.hid HN.out.own
        have HBX := Lib.hid HN.out.box
        have HXl : Hid (w4.heap.size + 1 ≤ wr.heap.size) := hXl
        have HS6 := Lib.hid (pairUp_snoc HPU.out han hbn hab (fun _ => by omega))
        go_wp2_with (at_builtin; refine wpList_app_pair rfl (.tmp 56) (.tmp 64) rfl wr a b (w4.heap.size + 1) _ us yss HOW.out HXl.out HYLL.out rfl rfl ?_; intro g7 L7 cap7 w7 us7 hL7 o7 b7 z7; have O7 := Lib.hid o7; have B7 := Lib.hid b7; have bx7 := (b7.block w4.heap.size (by omega)).trans HBX.out; have BX7 := Lib.hid bx7; have r0 := blk_free bx7 1; have r1 := blk_cell bx7 1; clear o7 b7 bx7)
        go_roundw
        case rel => exact ⟨k + 1, by omega, by go_num, _, us7, _, _, NB.store BX7.out O7.out, by simp [HYL.out], HS6.out, (Own.below HO.out B7.out (by omega)).kept fun k _ h2 _ => Below.heap_setCell _ _ _ _ (by show k ≠ w4.heap.size; omega), HPM.out, (HB.out.trans (B7.out.mono (by omega))).setCell (by show w3.heap.size ≤ w4.heap.size; omega) _, by simp [World.setCell]; omega⟩
        case measure => simp [intOf]; omega
    · have HE : Hid (yss.length = L) := by show _ = _; rw [HYL.out]; omega
      obtain ⟨x0, x1, y0, y1⟩ := hN.cells
      have hb9 := (HB.out.block (w.heap.size + 1) (by omega)).trans HR4.out
      have r0 := blk_cell hb9 0
      have r1 := blk_cell hb9 1
      have y0 := blk_free hb9 0
      have y1 := blk_free hb9 1
      have HO9 := Lib.hid (set_two_ownR (X := w.heap.size + 1) (y0 := .int .i64 n) (y1 := v) hN.own (by omega))
      have HB9 : Hid (Below w.heap.size w ((wr.setCell ⟨w.heap.size + 1, 0, none⟩ (.int .i64 n)).setCell ⟨w.heap.size + 1, 1, none⟩ v)) := ((HB4.out.trans (hB.mono (by omega))).setCell (by show w.heap.size ≤ w.heap.size + 1; omega) _).setCell (by show w.heap.size ≤ w.heap.size + 1; omega) _
      obtain ⟨ao9, g9, cap9, ev, -, -, -⟩ := hN.own.rows
      obtain ⟨M, hM⟩ : ∃ M, M = yss.length := ⟨_, rfl⟩
      rw [← hM] at ev
      subst ev
      have hXw : w.heap.size + 1 ≠ w4.heap.size := by omega
      clear hN hB hb9 hM HN hpm
      go_wp2
      refine bodyPost_ret (v := .tuple #[.agg #[.int .i64 n, .slice ao9 M cap9], .slice (some ⟨g4, 0, none⟩) n cap4, .bool true]) (by simp [results, Try.results137, go_sem, r0, r1]) rfl ?_
      exact ⟨_, _, us, yss, rfl, HPU.out, HE.out, HO9.out.mono (by omega) (by simp [World.setCell]), HB9.out⟩
end Go.Proofs.Ytgdkihabphihoaa
