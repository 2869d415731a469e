/- What the laws draw from their code: networks and orders. Conditions: the code has at most 1048576 bytes. -/
import Derived.Test.YtiodolbgapjmkaaGreatDoorMake
import Derived.Test.YtiodolbgapjmkaaGreatDoorNetBits
namespace Go.Proofs.YtiodolbgapjmkaaGreatDoor
open Go.RowKit
set_option maxRecDepth 100000
set_option linter.unusedVariables false

/-- Pairs of wires of n; the first the lesser one if so asked. -/
def pairUp (n : Nat) (up : Bool) (xss : List (List Int)) : Prop := ∀ r ∈ xss, ∃ a b : Nat, r = [(a : Int), (b : Int)] ∧ a < n ∧ b < n ∧ a ≠ b ∧ (up = true → a < b)
theorem pairUp_nil (n : Nat) (up : Bool) : pairUp n up [] := by simp [pairUp]
theorem pairUp_snoc {n : Nat} {up : Bool} {xss : List (List Int)} (h : pairUp n up xss) {a b : Nat} (h1 : a < n) (h2 : b < n) (h3 : a ≠ b) (h4 : up = true → a < b) : pairUp n up (xss ++ [[(a : Int), (b : Int)]]) := by
  intro r hr
  rw [List.mem_append] at hr
  rcases hr with hr | hr
  · exact h r hr
  · simp at hr
    exact ⟨a, b, hr, h1, h2, h3, h4⟩
theorem pairUp_app {n : Nat} {up : Bool} {xss yss : List (List Int)} (h : pairUp n up xss) (h2 : pairUp n up yss) : pairUp n up (xss ++ yss) := by
  intro r hr
  rw [List.mem_append] at hr
  rcases hr with hr | hr
  · exact h r hr
  · exact h2 r hr
theorem netOk_of_pairUp {n : Nat} {up : Bool} {xss : List (List Int)} (h : pairUp n up xss) (h1 : 1 ≤ n) (h8 : n ≤ 8) (hl : xss.length ≤ 60) : netOk n xss = true := by
  simp only [netOk, Bool.and_eq_true, List.all_eq_true, decide_eq_true_eq]
  refine ⟨⟨inB_mk ⟨by omega, by omega⟩, hl⟩, fun r hr => ?_⟩
  obtain ⟨a, b, rfl, ha, hb, hne, -⟩ := h r hr
  simp only [pairOk, Bool.and_eq_true, decide_eq_true_eq]
  refine ⟨⟨⟨rfl, ?_⟩, inB_mk ⟨?_, ?_⟩⟩, inB_mk ⟨?_, ?_⟩⟩ <;> simp <;> omega
theorem pairUp_of_netOk {n : Nat} {xss : List (List Int)} (h : netOk n xss = true) : pairUp n false xss := by
  intro r hr
  obtain ⟨k, hk, rfl⟩ := List.getElem_of_mem hr
  obtain ⟨i, j, e, h1, h2, h3⟩ := netOk_pair h k hk
  rw [List.getD_eq_getElem?_getD, List.getElem?_eq_getElem hk] at e
  exact ⟨i, j, e, h1, h2, h3, by simp⟩
/-- Such pairs come back beside a cursor. -/
def CurPairs (w : World) (p B n most : Nat) (up : Bool) (e : Ending) (w' : World) : Prop :=
  ∃ (v : Value) (vs : List Value) (xss : List (List Int)), e = .returned v ∧ pairUp n up xss ∧ xss.length ≤ most ∧ OwnR w' w.heap.size w'.heap.size v vs xss ∧ Cur w' p B ∧ But w.heap.size p w w'
theorem mod_other (a d n : Nat) (ha : a < n) (hd : d + 1 < n) : ∃ b : Nat, ((a : Int) + 1 + (d : Int)) % (n : Int) = (b : Int) ∧ b < n ∧ b ≠ a := by
  refine ⟨(a + 1 + d) % n, by simp, Nat.mod_lt _ (by omega), ?_⟩
  rcases (by omega : a + 1 + d < n ∨ n ≤ a + 1 + d) with h | h
  · rw [Nat.mod_eq_of_lt h]; omega
  · rw [Nat.mod_eq_sub_mod h, Nat.mod_eq_of_lt (by omega)]; omega
set_option maxHeartbeats 2000000 in
theorem l02Pairs_c (p B n most : Nat) (up : Bool) (w : World) (hc : Cur w p B) (hn : n ≤ 200) (hmost : most ≤ 100) :
    Calls Tryz.prog 48 #[.pointer (some ⟨p, 0, none⟩), .int .i64 n, .int .i64 most, .bool up] w (CurPairs w p B n most up) := by
  have HC := Lib.hid hc
  have hp := hc.lt
  obtain ⟨W0, hW0⟩ : ∃ W, W = w.alloc (.cells #[] 27) := ⟨_, rfl⟩
  have HO : Hid (OwnR W0 w.heap.size W0.heap.size (.slice (some ⟨w.heap.size, 0, none⟩) 0 0) [] []) := by show OwnR _ _ _ _ _ _; rw [hW0]; exact (ownR_empty w).mono (Nat.le_refl _) (by simp)
  have HB0 : Hid (Below w.heap.size w W0) := by show Below _ _ _; rw [hW0]; exact (Below.refl _ _).alloc (Nat.le_refl _) _
  have HW := Lib.hid hW0
  clear hc hW0
  go_enter Tryz.func48, Tryz.ntmps48
  go_wp2_with fail
  try rw [← HW.out]
  have HC0 := Lib.hid (HC.out.below HB0.out hp)
  have HBB : Hid (But w.heap.size p w W0) := But.of_below HB0.out (by omega) (Nat.le_refl _)
  have hz0 := HB0.out.size
  refine (l01Below_c p B _ W0 HC0.out (by omega) (by omega)).mono ?_
  rintro e w1 ⟨x, rfl, x0, x1, c1, b1⟩
  obtain ⟨r, rfl⟩ : ∃ r : Nat, x = r := ⟨x.toNat, by omega⟩
  have hr : r ≤ most := by omega
  have z1 := b1.size
  have C1 := Lib.hid c1
  have O1 : Hid (OwnR w1 w.heap.size w1.heap.size _ [] []) := (b1.ownR HO.out hp (Nat.le_refl _)).mono (Nat.le_refl _) z1
  have B1 : Hid (But w.heap.size p w w1) := HBB.out.trans (b1.mono (by omega))
  clear c1 b1 x0 x1
  go_wp2_with fail
  go_loopw [9, 10] (fun v i wr => ∃ (k : Nat) (vs : List Value) (xss : List (List Int)), i = .int .i64 k ∧ xss.length + k ≤ most ∧ pairUp n up xss ∧ OwnR wr w.heap.size wr.heap.size v vs xss ∧ Cur wr p B ∧ But w.heap.size p w wr) (fun _ i _ => (intOf i).toNat)
  case atStart => exact ⟨r, [], [], rfl, by simpa using hr, pairUp_nil _ _, O1.out, C1.out, B1.out⟩
  case round =>
    obtain ⟨k, vs, xss, rfl, hlen, hpu, ho, hc, hb⟩ := hrel
    have HLEN := Lib.hid hlen
    have HPU := Lib.hid hpu
    have HOW := Lib.hid ho
    have HCR := Lib.hid hc
    have HB := Lib.hid hb
    have hz := hb.size
    have HL : Hid (xss.length ≤ 1000000) := by show _ ≤ _; omega
    have hk100 : k ≤ 100 := by omega
    clear hlen hpu ho hc hb
    by_cases hlt : 0 < k
    · have e1 : 0 < (k : Int) := by omega
      by_cases hn1 : 1 < n
      · have e2 : 1 < (n : Int) := by omega
        go_wp2_with fail
        refine (l01Below_c p B n wr HCR.out (by omega) (by omega)).mono ?_
        rintro e w2 ⟨x, rfl, x0, x1, c2, b2⟩
        obtain ⟨a, rfl⟩ : ∃ a : Nat, x = a := ⟨x.toNat, by omega⟩
        have ha : a < n := by omega
        have z2 := b2.size
        have C2 := Lib.hid c2
        have O2 : Hid (OwnR w2 w.heap.size w2.heap.size _ vs xss) := (b2.ownR HOW.out hp (Nat.le_refl _)).mono (Nat.le_refl _) z2
        have B2 : Hid (But w.heap.size p w w2) := HB.out.trans (b2.mono (by omega))
        clear c2 b2 x0 x1
        go_wp2_with fail
        refine (l01Below_c p B _ w2 C2.out (by omega) (by omega)).mono ?_
        rintro e w3 ⟨y, rfl, y0, y1, c3, b3⟩
        obtain ⟨d, rfl⟩ : ∃ d : Nat, y = d := ⟨y.toNat, by omega⟩
        obtain ⟨b, hb, hb1, hb2⟩ := mod_other a d n ha (by omega)
        have z3 := b3.size
        have z4 : w.heap.size ≤ w3.heap.size := by omega
        have C3 := Lib.hid c3
        have O3 : Hid (OwnR w3 w.heap.size w3.heap.size _ vs xss) := (b3.ownR O2.out hp (Nat.le_refl _)).mono (Nat.le_refl _) z3
        have B3 : Hid (But w.heap.size p w w3) := B2.out.trans (b3.mono (by omega))
        clear c3 b3
        by_cases hs : up = true ∧ b < a
        · obtain ⟨hu, hba⟩ := hs
          have e3 : (b : Int) < (a : Int) := by omega
          subst hu
          have HS := Lib.hid (pairUp_snoc HPU.out hb1 ha hb2 (fun _ => hba))
          go_wp2_with (at_builtin; refine wpList_app_pair rfl (.tmp 44) (.tmp 48) rfl w3 b a w.heap.size _ vs xss O3.out z4 HL.out rfl rfl ?_; intro g5 L5 cap5 w5 vs5 hL5 o5 b5 z5; have O5 := Lib.hid o5; have B5 := Lib.hid b5; clear o5 b5)
          go_roundw
          case rel => exact ⟨k - 1, vs5, _, by go_num, by have := HLEN.out; simp; omega, HS.out, O5.out, C3.out.below B5.out hp, B3.out.trans (But.of_below B5.out (by omega) (Nat.le_refl _))⟩
          case measure => simp [intOf]; omega
        · have HS := Lib.hid (pairUp_snoc HPU.out ha hb1 (Ne.symm hb2) (fun hu => Nat.lt_of_le_of_ne (Nat.le_of_not_lt fun h => hs ⟨hu, h⟩) (Ne.symm hb2)))
          cases up
          · clear hs
            go_wp2_with (at_builtin; refine wpList_app_pair rfl (.tmp 50) (.tmp 54) rfl w3 a b w.heap.size _ vs xss O3.out z4 HL.out rfl rfl ?_; intro g5 L5 cap5 w5 vs5 hL5 o5 b5 z5; have O5 := Lib.hid o5; have B5 := Lib.hid b5; clear o5 b5)
            go_roundw
            case rel => exact ⟨k - 1, vs5, _, by go_num, by have := HLEN.out; simp; omega, HS.out, O5.out, C3.out.below B5.out hp, B3.out.trans (But.of_below B5.out (by omega) (Nat.le_refl _))⟩
            case measure => simp [intOf]; omega
          · have e3 : ¬ (b : Int) < (a : Int) := by simp at hs; omega
            clear hs
            go_wp2_with (at_builtin; refine wpList_app_pair rfl (.tmp 50) (.tmp 54) rfl w3 a b w.heap.size _ vs xss O3.out z4 HL.out rfl rfl ?_; intro g5 L5 cap5 w5 vs5 hL5 o5 b5 z5; have O5 := Lib.hid o5; have B5 := Lib.hid b5; clear o5 b5)
            go_roundw
            case rel => exact ⟨k - 1, vs5, _, by go_num, by have := HLEN.out; simp; omega, HS.out, O5.out, C3.out.below B5.out hp, B3.out.trans (But.of_below B5.out (by omega) (Nat.le_refl _))⟩
            case measure => simp [intOf]; omega
      · have e2 : ¬ 1 < (n : Int) := by omega
        go_wp2
        go_ret
        exact ⟨_, vs, xss, rfl, HPU.out, by have := HLEN.out; omega, HOW.out, HCR.out, HB.out⟩
    · have e1 : ¬ 0 < (k : Int) := by omega
      go_wp2
      go_ret
      exact ⟨_, vs, xss, rfl, HPU.out, by have := HLEN.out; omega, HOW.out, HCR.out, HB.out⟩
theorem set_two_ownR {w : World} {X lo hi : Nat} {y0 y1 v : Value} {vs : List Value} {xss : List (List Int)} (ho : OwnR w lo hi v vs xss) (h : X < lo) : OwnR ((w.setCell ⟨X, 0, none⟩ y0).setCell ⟨X, 1, none⟩ y1) lo hi v vs xss :=
  ho.kept fun k h1 _ _ => by rw [Below.heap_setCell _ _ _ _ (by show k ≠ X; omega), Below.heap_setCell _ _ _ _ (by show k ≠ X; omega)]
theorem Cur.set_far {w : World} {p B X i : Nat} {y : Value} (h : Cur w p B) (hX : p < X) : Cur (w.setCell ⟨X, i, none⟩ y) p B :=
  h.kept fun k hk => Below.heap_setCell _ _ _ _ (by show k ≠ X; omega)
theorem But.set_far {D p X i : Nat} {w : World} {y : Value} (hX : D ≤ X) (hp : p < X) : But D p w (w.setCell ⟨X, i, none⟩ y) :=
  ⟨(Below.refl p w).setCell (by show p ≤ X; omega) _, fun k _ h2 => Below.heap_setCell _ _ _ _ (by show k ≠ X; omega)⟩
/-- A network whose pairs are of its own wires comes back beside a cursor. -/
def CurNet (w : World) (p B wmost most : Nat) (e : Ending) (w' : World) : Prop :=
  ∃ (n : Nat) (v : Value) (vs : List Value) (xss : List (List Int)), e = .returned (.agg #[.int .i64 n, v]) ∧ 1 ≤ n ∧ n ≤ wmost ∧ pairUp n false xss ∧ xss.length ≤ most ∧ OwnR w' w.heap.size w'.heap.size v vs xss ∧ Cur w' p B ∧ But w.heap.size p w w'
theorem pairUp_any {n : Nat} {up : Bool} {xss : List (List Int)} (h : pairUp n up xss) : pairUp n false xss := by
  intro r hr
  obtain ⟨a, b, e, h1, h2, h3, -⟩ := h r hr
  exact ⟨a, b, e, h1, h2, h3, by simp⟩
set_option maxHeartbeats 1000000 in
theorem l02Draw_c (p B m : Nat) (w : World) (hc : Cur w p B) (hm : 1 ≤ m) (hm2 : m ≤ 100) :
    Calls Tryz.prog 20 #[.pointer (some ⟨p, 0, none⟩), .int .i64 m] w (CurNet w p B m 12) := by
  have HC := Lib.hid hc
  have hp := hc.lt
  clear hc
  have hbx := blk_new w (.cells #[.int .i64 0, .slice none 0 0] 25)
  obtain ⟨W0, hW0⟩ : ∃ W, W = w.alloc (.cells #[.int .i64 0, .slice none 0 0] 25) := ⟨_, rfl⟩
  have HB0 : Hid (Below w.heap.size w W0) := by show Below _ _ _; rw [hW0]; exact (Below.refl _ _).alloc (Nat.le_refl _) _
  have hs0 : W0.heap.size = w.heap.size + 1 := by rw [hW0]; simp
  have HW := Lib.hid hW0
  rw [← hW0] at hbx
  have HBX := Lib.hid hbx
  have hs0' : w.heap.size < W0.heap.size := by omega
  clear hW0 hbx hs0
  go_enter Tryz.func20, Tryz.ntmps20
  go_wp2_with fail
  try rw [← HW.out]
  have HC0 := Lib.hid (HC.out.below HB0.out hp)
  refine (l01Below_c p B _ W0 HC0.out (by omega) (by omega)).mono ?_
  rintro e w1 ⟨x, rfl, x0, x1, c1, b1⟩
  obtain ⟨a, rfl⟩ : ∃ a : Nat, x = a := ⟨x.toNat, by omega⟩
  have ha : a < m := by omega
  have z1 := b1.size
  have C1 := Lib.hid c1
  have HBX1 := Lib.hid (b1.blk HBX.out (by omega) (by omega))
  have B1 : Hid (But w.heap.size p w w1) := (But.of_below HB0.out (by omega) (Nat.le_refl _)).trans (b1.mono (by omega))
  obtain ⟨n, hn⟩ : ∃ n, n = 1 + a := ⟨_, rfl⟩
  have hn1 : 1 ≤ n := by omega
  have hnm : n ≤ m := by omega
  have e1 : 1 + (a : Int) = (n : Int) := by omega
  clear c1 b1 x0 x1 hn
  go_wp2_with fail
  refine (l01Below_c p B 4 w1 C1.out (by omega) (by omega)).mono ?_
  rintro e w2 ⟨y, rfl, y0, y1, c2, b2⟩
  have z2 := b2.size
  have C2 := Lib.hid c2
  have HBX2 := Lib.hid (b2.blk HBX1.out (by omega) (by omega))
  have B2 : Hid (But w.heap.size p w w2) := B1.out.trans (b2.mono (by omega))
  obtain ⟨up, hup⟩ : ∃ b, b = decide (0 < y) := ⟨_, rfl⟩
  have HUP := Lib.hid hup
  clear c2 b2 y0 y1 hup
  go_wp2_with fail
  try rw [← HUP.out]
  refine (l02Pairs_c p B n 12 up w2 C2.out (by omega) (by omega)).mono ?_
  rintro e w3 ⟨v, vs, xss, rfl, h1, h2, o3, c3, b3⟩
  have z3 := b3.size
  have hb3 := b3.blk HBX2.out (by omega) (by omega)
  have c0 := blk_cell hb3 0
  have c1 := blk_cell hb3 1
  have f0 := blk_free hb3 0
  have f1 := blk_free hb3 1
  obtain ⟨ao, g, cap, ev, -, -, -⟩ := o3.rows
  have HF : Hid (CurNet w p B m 12 (.returned (.agg #[.int .i64 n, v])) ((w3.setCell ⟨w.heap.size, 0, none⟩ (.int .i64 n)).setCell ⟨w.heap.size, 1, none⟩ v)) := by
    refine ⟨n, v, vs, xss, rfl, hn1, hnm, pairUp_any h1, h2, ?_, (c3.set_far hp).set_far hp, (((B2.out.trans (b3.mono (by omega))).trans (But.set_far (Nat.le_refl _) hp)).trans (But.set_far (Nat.le_refl _) hp))⟩
    exact (set_two_ownR o3 (by omega)).mono (by omega) (by simp [World.setCell])
  obtain ⟨L, hL⟩ : ∃ L, L = xss.length := ⟨_, rfl⟩
  rw [← hL] at ev
  subst ev
  clear o3 c3 b3 hb3 hL h1 h2
  go_wp2
  exact bodyPost_ret (v := .agg #[.int .i64 n, .slice ao L cap]) (by simp [results, Tryz.results20, go_sem, c0, c1]) rfl HF.out
/-- A network that has a property comes back, in new memory. -/
def NetMade (w : World) (P : Nat → List (List Int) → Prop) (e : Ending) (w' : World) : Prop :=
  ∃ (n : Nat) (v : Value) (vs : List Value) (xss : List (List Int)), e = .returned (.agg #[.int .i64 n, v]) ∧ P n xss ∧ OwnR w' w.heap.size w'.heap.size v vs xss ∧ Below w.heap.size w w'
/-- A drawn network. -/
def drawnN (n : Nat) (xss : List (List Int)) : Prop := 1 ≤ n ∧ n ≤ 6 ∧ pairUp n false xss ∧ xss.length ≤ 12
set_option maxHeartbeats 1000000 in
theorem MakeNetwork_c (B n m : Nat) (v : Value) (w : World) (hv : BytesV w B v n) (hB : B ≤ w.heap.size) (hn : n ≤ 1048576) (hm : m ≤ 1000) :
    Calls Tryz.prog 4 #[v, .int .i64 m] w (NetMade w drawnN) := by
  have HV := Lib.hid hv
  clear hv
  have hbx := blk_new w (.cells #[.int .i64 0, .slice none 0 0] 25)
  obtain ⟨W0, hW0⟩ : ∃ W, W = w.alloc (.cells #[.int .i64 0, .slice none 0 0] 25) := ⟨_, rfl⟩
  have HB0 : Hid (Below w.heap.size w W0) := by show Below _ _ _; rw [hW0]; exact (Below.refl _ _).alloc (Nat.le_refl _) _
  have hs0 : W0.heap.size = w.heap.size + 1 := by rw [hW0]; simp
  have HW := Lib.hid hW0
  rw [← hW0] at hbx
  have HBX := Lib.hid hbx
  have hs0' : w.heap.size < W0.heap.size := by omega
  clear hW0 hbx hs0
  have HN := Lib.hid (l31New_c B n m v W0 (HV.out.kept fun k hk => HB0.out.block k (by omega)) (by omega) hn hm)
  go_enter Tryz.func4, Tryz.ntmps4
  go_wp2_with fail
  try rw [← HW.out]
  refine HN.out.mono ?_
  rintro e w1 ⟨p, rfl, hp, c1, b1⟩
  have C1 := Lib.hid c1
  have z1 := b1.size
  have HBX1 := Lib.hid (blk_below HBX.out b1 (by omega))
  have B1 : Hid (Below w.heap.size w w1) := HB0.out.trans (b1.mono (by omega))
  have hpl := c1.lt
  clear c1 b1
  go_wp2_with fail
  refine (l02Draw_c p B 6 w1 C1.out (by omega) (by omega)).mono ?_
  rintro e w3 ⟨n, v, vs, xss, rfl, h1, h6, hpu, h2, o3, c3, b3⟩
  have z3 := b3.size
  have hb3 := b3.blk HBX1.out (by omega) (by omega)
  have c0 := blk_cell hb3 0
  have c1 := blk_cell hb3 1
  have f0 := blk_free hb3 0
  have f1 := blk_free hb3 1
  obtain ⟨ao, g, cap, ev, -, -, -⟩ := o3.rows
  have HF : Hid (NetMade w drawnN (.returned (.agg #[.int .i64 n, v])) ((w3.setCell ⟨w.heap.size, 0, none⟩ (.int .i64 n)).setCell ⟨w.heap.size, 1, none⟩ v)) := by
    refine ⟨n, v, vs, xss, rfl, ⟨h1, h6, hpu, h2⟩, ?_, ((B1.out.trans (b3.below (by omega))).setCell (Nat.le_refl _) _).setCell (Nat.le_refl _) _⟩
    exact (set_two_ownR o3 (by omega)).mono (by omega) (by simp [World.setCell])
  obtain ⟨L, hL⟩ : ∃ L, L = xss.length := ⟨_, rfl⟩
  rw [← hL] at ev
  subst ev
  clear o3 c3 b3 hb3 hL h1 h2 hpu
  go_wp2
  exact bodyPost_ret (v := .agg #[.int .i64 n, .slice ao L cap]) (by simp [results, Tryz.results4, go_sem, c0, c1]) rfl HF.out
end Go.Proofs.YtiodolbgapjmkaaGreatDoor
