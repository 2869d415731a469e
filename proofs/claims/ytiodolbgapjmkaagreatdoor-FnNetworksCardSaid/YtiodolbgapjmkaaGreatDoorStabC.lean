/- The library's stable sort of at most 21 ints with a comparison that reads memory: insertion, and one merge of a last element. Conditions: at most 21 elements; the comparison goes by a key. -/
import Derived.Test.YtiodolbgapjmkaaGreatDoorStabP
import Derived.Test.YtiodolbgapjmkaaGreatDoorCur
import Derived.Test.YtiodolbgapjmkaaGreatDoorLater
import Derived.Test.YtiodolbgapjmkaaGreatDoorWalkV
import Derived.Test.YtiodolbgapjmkaaGreatDoorApply
import Derived.Deep.DeepCutAuto
namespace Go.Proofs.YtiodolbgapjmkaaGreatDoor
open Go.RowKit
set_option maxRecDepth 100000
set_option linter.unusedVariables false
set_option linter.unusedSimpArgs false

/-- What the sort is told of the comparison: in every world that differs from w in block g alone it hands back cf x y, which is negative exactly if x's key is the lesser one. -/
structure CmpOk (w : World) (g L : Nat) (ca cb : Nat) (cf : Int → Int → Int) (key : Int → Int) : Prop where
  sign : ∀ x y : Int, 0 ≤ x → x < L → 0 ≤ y → y < L → (cf x y < 0 ↔ key x < key y)
  call : ∀ (W : World) (x y : Int), But w.heap.size g w W → 0 ≤ x → x < L → 0 ≤ y → y < L →
    Calls Tryz.prog 25 #[.int .i64 x, .int .i64 y, .pointer (some ⟨ca, 0, none⟩), .pointer (some ⟨cb, 0, none⟩)] W fun e w' => e = .returned (.int .i64 (cf x y)) ∧ Below W.heap.size W w'
/-- A list of numbers below L. -/
def belowL (L : Nat) (l : List Int) : Prop := ∀ x ∈ l, 0 ≤ x ∧ x < L
theorem belowL_getD {L : Nat} {l : List Int} (h : belowL L l) {p : Nat} (hp : p < l.length) : 0 ≤ l.getD p 0 ∧ l.getD p 0 < L := by
  refine h _ ?_
  rw [List.getD_eq_getElem?_getD, List.getElem?_eq_getElem hp]
  exact List.getElem_mem hp
theorem belowL_perm {L : Nat} {l m : List Int} (h : belowL L l) (hp : m.Perm l) : belowL L m := fun x hx => h x (hp.mem_iff.1 hx)
set_option maxHeartbeats 4000000 in
theorem insertionSort_c (w0 : World) (g L cap lo hi ca cb a b : Nat) (cf : Int → Int → Int) (key : Int → Int) (HK : CmpOk w0 g L ca cb cf key) (l0 : List Int) (w : World) (hw : But w0.heap.size g w0 w) (hg : g < w0.heap.size) (hL : l0.length = L) (hL21 : L ≤ 1000) (hbl : belowL L l0)
    (ho : OwnI w lo hi (.slice (some ⟨g, 0, none⟩) L cap) l0) (hhi : hi ≤ w0.heap.size) (hab : a ≤ b) (hb : b ≤ L) :
    Calls Tryz.prog 61 #[.slice (some ⟨g, 0, none⟩) L cap, .int .i64 a, .int .i64 b, .func (.func 25) #[] #[.pointer (some ⟨ca, 0, none⟩), .pointer (some ⟨cb, 0, none⟩)]] w
      fun e w' => e = .returned (.tuple #[]) ∧ ∃ l, SortP key l0 l a b ∧ OwnI w' lo hi (.slice (some ⟨g, 0, none⟩) L cap) l ∧ But w0.heap.size g w0 w' := by
  have HCO := Lib.hid HK
  have HO := Lib.hid ho
  have HW := Lib.hid hw
  have HBL := Lib.hid hbl
  have HL := Lib.hid hL
  have EG : Hid (∀ (args : Array Value) (w : World), (callFunc 25 args).run Tryz.prog w = .ok (.enter 25 args) w) := fun args w => by kernel_rfl
  clear HK ho hw hbl hL
  go_enter Tryz.func61, Tryz.ntmps61
  go_wp2_with fail
  go_loopw [8] (fun t wr => ∃ (i : Nat) (l : List Int), a + 1 ≤ i ∧ (i ≤ b ∨ (i = a + 1 ∧ l = l0)) ∧ t = .int .i64 i ∧ SortP key l0 l a i ∧ OwnI wr lo hi (.slice (some ⟨g, 0, none⟩) L cap) l ∧ But w0.heap.size g w0 wr) (fun t _ => b - (intOf t).toNat)
  case atStart => exact ⟨a + 1, l0, Nat.le_refl _, Or.inr ⟨rfl, rfl⟩, by go_num, SortP.short (Nat.le_refl _), HO.out, HW.out⟩
  case round =>
    obtain ⟨i, l, hi1, hi2, rfl, hs, ho, hw⟩ := hrel
    have HS := Lib.hid hs
    have HO1 := Lib.hid ho
    have HW1 := Lib.hid hw
    clear hs ho hw
    by_cases hlt : i < b
    · have hii : (i : Int) < (b : Int) := by omega
      go_wp2_with fail
      go_loopw [9] (fun t wr => ∃ (j : Nat) (l : List Int), a ≤ j ∧ j ≤ i ∧ t = .int .i64 j ∧ (l.Perm l0 ∧ insOn key l a i j ∧ keptOff l0 l a (i + 1)) ∧ OwnI wr lo hi (.slice (some ⟨g, 0, none⟩) L cap) l ∧ But w0.heap.size g w0 wr) (fun t _ => (intOf t).toNat)
      case atStart => exact ⟨i, l, by omega, Nat.le_refl _, rfl, ⟨HS.out.perm, ins_start HS.out.ord, fun p hp => HS.out.off p (by omega)⟩, HO1.out, HW1.out⟩
      case round =>
        obtain ⟨j, l2, hj1, hj2, rfl, ⟨hp2, hin2, hk2⟩, ho2, hw2⟩ := hrel
        have HP2 := Lib.hid hp2
        have HIN := Lib.hid hin2
        have HKO := Lib.hid hk2
        have HO2 := Lib.hid ho2
        have HW2 := Lib.hid hw2
        have hl2 : l2.length = L := by rw [hp2.length_eq]; exact HL.out
        have HL2 := Lib.hid hl2
        have hzw : w0.heap.size ≤ wr.heap.size := hw2.size
        clear hp2 hin2 hk2
        by_cases hja : j = a
        · have e1 : decide ((a : Int) < (j : Int)) = false := by rw [decide_eq_false_iff_not]; omega
          have e2 : decide (a < j) = false := decide_eq_false (by omega)
          have e3 : ¬ (a : Int) < (j : Int) := by omega
          have HS2 : Hid (SortP key l0 l2 a (i + 1)) := ⟨HP2.out, ins_end HIN.out hj1 hj2 (Or.inl hja), HKO.out⟩
          clear ho2 hw2 hja
          go_wp2_with fail
          refine wp_region_later wr.heap.size wr (by kernel_rfl) (by kernel_rfl) (Below.refl _ _) ?_
          have hLW := LW.cells (B := wr.heap.size) (w0 := wr)
          repeat (go_big_quiet_step (fail))
          refine wpQuiet_nil ?_
          rintro w2 ⟨⟨w2s, hb2⟩, rfl⟩
          clear hLW
          have HO3 : Hid (OwnI w2 lo hi (.slice (some ⟨g, 0, none⟩) L cap) l2) := Own.below HO2.out hb2 (by omega)
          have HW3 : Hid (But w0.heap.size g w0 w2) := HW2.out.trans (But.of_below hb2 (by omega) (by omega))
          go_wp2_with fail
          go_roundw
          case rel => exact ⟨i + 1, l2, by omega, Or.inl (by omega), by go_num, HS2.out, HO3.out, HW3.out⟩
          case measure => simp [intOf]; omega
        · have hja2 : a < j := by omega
          have e1 : decide ((a : Int) < (j : Int)) = true := by rw [decide_eq_true_eq]; omega
          have e2 : decide (a < j) = true := decide_eq_true (by omega)
          have e3 : (a : Int) < (j : Int) := by omega
          obtain ⟨c1, f1, hgw⟩ := ho2.cellAt j (by omega)
          obtain ⟨c2, f2, -⟩ := ho2.cellAt (j - 1) (by omega)
          have hbx := belowL_getD (belowL_perm HBL.out HP2.out) (p := j) (by omega)
          have hby := belowL_getD (belowL_perm HBL.out HP2.out) (p := j - 1) (by omega)
          obtain ⟨x, hx⟩ : ∃ x, x = l2.getD j 0 := ⟨_, rfl⟩
          obtain ⟨y, hy⟩ : ∃ y, y = l2.getD (j - 1) 0 := ⟨_, rfl⟩
          rw [← hx] at c1 hbx
          rw [← hy] at c2 hby
          have HX := Lib.hid hx
          have HY := Lib.hid hy
          have hj1i : (j : Int) - 1 = ((j - 1 : Nat) : Int) := by omega
          have hwj : IntKind.i64.wrap ((j - 1 : Nat) : Int) = ((j - 1 : Nat) : Int) := by rw [IntKind.wrap_i64]; omega
          have hjl : (j : Int) < (L : Int) := by omega
          have hjl2 : ((j - 1 : Nat) : Int) < (L : Int) := by omega
          have hSG := HCO.out.sign x y hbx.1 hbx.2 hby.1 hby.2
          have HCL : Hid (∀ W, Below wr.heap.size wr W → Calls Tryz.prog 25 #[.int .i64 x, .int .i64 y, .pointer (some ⟨ca, 0, none⟩), .pointer (some ⟨cb, 0, none⟩)] W fun e w' => e = .returned (.int .i64 (cf x y)) ∧ Below W.heap.size W w') := fun W hb => HCO.out.call W x y (HW2.out.trans (But.of_below hb (by omega) (by omega))) hbx.1 hbx.2 hby.1 hby.2
          obtain ⟨c, hc⟩ : ∃ c, c = cf x y := ⟨_, rfl⟩
          rw [← hc] at hSG HCL
          clear ho2 hw2 hx hy hc hja hbx hby
          by_cases hc : c < 0
          · have hkl : key x < key y := hSG.1 hc
            have HIN2 : Hid (insOn key (swL l2 j (j - 1)) a i (j - 1)) := ins_step HIN.out hja2 hj2 (by omega) (by rw [← HX.out, ← HY.out]; exact hkl)
            have HKO2 : Hid (keptOff l0 (swL l2 j (j - 1)) a (i + 1)) := keptOff_swL HKO.out (by omega) (by omega) (by omega) ⟨by omega, by omega⟩ ⟨by omega, by omega⟩
            have HP3 : Hid ((swL l2 j (j - 1)).Perm l0) := (swL_perm l2 j (j - 1) (by omega) (by omega) (by omega)).trans HP2.out
            have HSW : Hid (swL l2 j (j - 1) = (l2.set j y).set (j - 1) x) := by show _ = _; rw [HX.out, HY.out]; rfl
            clear hSG hkl
            go_wp2_with fail
            refine wp_region_later wr.heap.size wr (by kernel_rfl) (by kernel_rfl) (Below.refl _ _) ?_
            have hLW := LW.cells (B := wr.heap.size) (w0 := wr)
            repeat (go_big_quiet_step ((go_at_call 25; refine LW.call (Nat.le_refl _) (HCL.out _ (LW.h _)))))
            refine wpQuiet_nil ?_
            rintro w2 ⟨⟨w2s, hb2⟩, rfl⟩
            clear hLW
            have hz2 := hb2.size
            have f3 := (hb2.cell (p := ⟨g, j, none⟩) hgw).trans c1
            have f4 := (hb2.cell (p := ⟨g, j - 1, none⟩) hgw).trans c2
            have f5 := (hb2.frozen (p := ⟨g, j, none⟩) hgw).trans f1
            have f6 := (hb2.frozen (p := ⟨g, j - 1, none⟩) hgw).trans f2
            have HO3 : Hid (OwnI w2 lo hi (.slice (some ⟨g, 0, none⟩) L cap) l2) := Own.below HO2.out hb2 (by omega)
            have HW3 : Hid (But w0.heap.size g w0 w2) := HW2.out.trans (But.of_below hb2 (by omega) (by omega))
            clear c1 c2 f1 f2 hb2
            go_wp2_with fail
            refine wpV_start (S := fun W' : World => W'.cell? ⟨g, j, none⟩ = some (.int .i64 x) ∧ W'.cell? ⟨g, j - 1, none⟩ = some (.int .i64 y)) (m := 15) (S2 := fun _ : World => True) (m2 := 17) (by kernel_rfl) ?_
            have hHeld : (fun W' : World => W'.cell? ⟨g, j, none⟩ = some (.int .i64 x) ∧ W'.cell? ⟨g, j - 1, none⟩ = some (.int .i64 y)) w2.drew ∧ (fun _ : World => True) w2.drew := ⟨⟨f3, f4⟩, trivial⟩
            refine wpV_take (i := 0) (v := ?_) rfl (by kernel_rfl) (fun _ _ _ h => h) ⟨by rfl, ?_⟩ hHeld ?_
            rotate_left
            · (intro w hSw; (try dsimp only at hSw); go_simp; try with_reducible rfl)
            try simp only [Act.put, List.setIfInBounds_toArray, List.set_cons_zero, List.set_cons_succ]
            refine wpV_take (i := 1) (v := ?_) rfl (by kernel_rfl) (fun _ _ _ h => h) ⟨by rfl, ?_⟩ hHeld ?_
            rotate_left
            · (intro w hSw; (try dsimp only at hSw); go_simp; try with_reducible rfl)
            try simp only [Act.put, List.setIfInBounds_toArray, List.set_cons_zero, List.set_cons_succ]
            refine wpV_swap ?_
            refine wpV_take (i := 2) (v := ?_) rfl (by kernel_rfl) (fun _ _ _ h => h) ⟨by rfl, ?_⟩ hHeld.symm ?_
            rotate_left
            · (intro w hSw; (try dsimp only at hSw); go_simp; try with_reducible rfl)
            try simp only [Act.put, List.setIfInBounds_toArray, List.set_cons_zero, List.set_cons_succ]
            refine wpV_take (i := 3) (v := ?_) rfl (by kernel_rfl) (fun _ _ _ h => h) ⟨by rfl, ?_⟩ hHeld.symm ?_
            rotate_left
            · (intro w hSw; (try dsimp only at hSw); go_simp; try with_reducible rfl)
            try simp only [Act.put, List.setIfInBounds_toArray, List.set_cons_zero, List.set_cons_succ]
            refine wpV_take (i := 4) (v := ?_) rfl (by kernel_rfl) (fun _ _ _ h => h) ⟨by rfl, ?_⟩ hHeld.symm ?_
            rotate_left
            · (intro w hSw; (try dsimp only at hSw); go_simp; try with_reducible rfl)
            try simp only [Act.put, List.setIfInBounds_toArray, List.set_cons_zero, List.set_cons_succ]
            refine wpV_swap ?_
            refine wpV_take (i := 5) (v := ?_) rfl (by kernel_rfl) (fun _ _ _ h => h) ⟨by rfl, ?_⟩ hHeld ?_
            rotate_left
            · (intro w hSw; (try dsimp only at hSw); go_simp; try with_reducible rfl)
            try simp only [Act.put, List.setIfInBounds_toArray, List.set_cons_zero, List.set_cons_succ]
            refine wpV_take (i := 6) (v := ?_) rfl (by kernel_rfl) (fun _ _ _ h => h) ⟨by rfl, ?_⟩ hHeld ?_
            rotate_left
            · (intro w hSw; (try dsimp only at hSw); go_simp; try with_reducible rfl)
            try simp only [Act.put, List.setIfInBounds_toArray, List.set_cons_zero, List.set_cons_succ]
            refine wpV_take (i := 7) (v := ?_) rfl (by kernel_rfl) (fun _ _ _ h => h) ⟨by rfl, ?_⟩ hHeld ?_
            rotate_left
            · (intro w hSw; (try dsimp only at hSw); go_simp; try with_reducible rfl)
            try simp only [Act.put, List.setIfInBounds_toArray, List.set_cons_zero, List.set_cons_succ]
            refine wpV_take (i := 8) (v := ?_) rfl (by kernel_rfl) (fun _ _ _ h => h) ⟨by rfl, ?_⟩ hHeld ?_
            rotate_left
            · (intro w hSw; (try dsimp only at hSw); go_simp; try with_reducible rfl)
            try simp only [Act.put, List.setIfInBounds_toArray, List.set_cons_zero, List.set_cons_succ]
            refine wpV_take (i := 9) (v := ?_) rfl (by kernel_rfl) (fun _ _ _ h => h) ⟨by rfl, ?_⟩ hHeld ?_
            rotate_left
            · (intro w hSw; (try dsimp only at hSw); go_simp; try with_reducible rfl)
            try simp only [Act.put, List.setIfInBounds_toArray, List.set_cons_zero, List.set_cons_succ]
            refine wpV_swap ?_
            refine wpV_take (i := 10) (v := ?_) rfl (by kernel_rfl) (fun _ _ _ h => h) ⟨by rfl, ?_⟩ hHeld.symm ?_
            rotate_left
            · (intro w hSw; (try dsimp only at hSw); go_simp; try with_reducible rfl)
            try simp only [Act.put, List.setIfInBounds_toArray, List.set_cons_zero, List.set_cons_succ]
            refine wpV_take (i := 11) (v := ?_) rfl (by kernel_rfl) (fun _ _ _ h => h) ⟨by rfl, ?_⟩ hHeld.symm ?_
            rotate_left
            · (intro w hSw; (try dsimp only at hSw); go_simp; try with_reducible rfl)
            try simp only [Act.put, List.setIfInBounds_toArray, List.set_cons_zero, List.set_cons_succ]
            refine wpV_take (i := 12) (v := ?_) rfl (by kernel_rfl) (fun _ _ _ h => h) ⟨by rfl, ?_⟩ hHeld.symm ?_
            rotate_left
            · (intro w hSw; (try dsimp only at hSw); go_simp; try with_reducible rfl)
            try simp only [Act.put, List.setIfInBounds_toArray, List.set_cons_zero, List.set_cons_succ]
            refine wpV_swap ?_
            refine wpV_take (i := 13) (v := ?_) rfl (by kernel_rfl) (fun _ _ _ h => h) ⟨by rfl, ?_⟩ hHeld ?_
            rotate_left
            · (intro w hSw; (try dsimp only at hSw); go_simp; try with_reducible rfl)
            try simp only [Act.put, List.setIfInBounds_toArray, List.set_cons_zero, List.set_cons_succ]
            refine wpV_take (i := 14) (v := ?_) rfl (by kernel_rfl) (fun _ _ _ h => h) ⟨by rfl, ?_⟩ hHeld ?_
            rotate_left
            · (intro w hSw; (try dsimp only at hSw); go_simp; try with_reducible rfl)
            try simp only [Act.put, List.setIfInBounds_toArray, List.set_cons_zero, List.set_cons_succ]
            refine wpV_one (by kernel_rfl) rfl (fun K hK => ?_)
            go_simp
            refine hK.out _ _ (trivial) ?_
            clear hK K
            try simp only [Act.put, List.setIfInBounds_toArray, List.set_cons_zero, List.set_cons_succ]
            refine wpV_next (i := 16) (by kernel_rfl) rfl (by kernel_rfl) (fun K hK => ?_)
            go_simp
            refine hK.out _ _ (.inr (trivial)) ?_
            clear hK K
            try simp only [Act.put, List.setIfInBounds_toArray, List.set_cons_zero, List.set_cons_succ]
            refine wpV_next (i := 17) (by kernel_rfl) rfl (by kernel_rfl) (fun K hK => ?_)
            go_simp
            refine hK.out _ _ (.inl rfl) ?_
            clear hK K
            try simp only [Act.put, List.setIfInBounds_toArray, List.set_cons_zero, List.set_cons_succ]
            refine wpV_done (by kernel_rfl) ?_ _
            obtain ⟨W6, hW6⟩ : ∃ W, W = ((w2.setCell ⟨g, j, none⟩ (.int .i64 y)).setCell ⟨g, j - 1, none⟩ (.int .i64 x)).drew := ⟨_, rfl⟩
            have HO6 : Hid (OwnI W6 lo hi (.slice (some ⟨g, 0, none⟩) L cap) (swL l2 j (j - 1))) := by
              show OwnI _ _ _ _ _
              rw [hW6, HSW.out]
              exact (OwnI.store (Own.kept (w' := w2.drew) HO3.out fun _ _ _ _ => rfl) HL2.out.symm j y).store (by rw [List.length_set]; exact HL2.out.symm) (j - 1) x
            have HW6 : Hid (But w0.heap.size g w0 W6) := by
              show But _ _ _ _
              rw [hW6]
              have e9 : ((w2.setCell ⟨g, j, none⟩ (.int .i64 y)).setCell ⟨g, j - 1, none⟩ (.int .i64 x)).heap.size = w2.heap.size := by simp [World.setCell]
              exact (HW3.out.trans (But.set _ g j w2 _)).trans ((But.set _ g (j - 1) _ _).trans (But.of_below ((Below.refl w0.heap.size _).drew) (by omega) (Nat.le_refl _)))
            try rw [← hW6]
            clear hW6
            go_wp2_with fail
            go_roundw
            case rel => exact ⟨j - 1, swL l2 j (j - 1), by omega, by omega, by go_num, ⟨HP3.out, HIN2.out, HKO2.out⟩, HO6.out, HW6.out⟩
            case measure => simp [intOf]; omega
          · have HS2 : Hid (SortP key l0 l2 a (i + 1)) := ⟨HP2.out, ins_end HIN.out hj1 hj2 (Or.inr (by rw [← HX.out, ← HY.out]; exact fun h => hc (hSG.2 h))), HKO.out⟩
            clear hSG
            go_wp2_with fail
            refine wp_region_later wr.heap.size wr (by kernel_rfl) (by kernel_rfl) (Below.refl _ _) ?_
            have hLW := LW.cells (B := wr.heap.size) (w0 := wr)
            repeat (go_big_quiet_step ((go_at_call 25; refine LW.call (Nat.le_refl _) (HCL.out _ (LW.h _)))))
            refine wpQuiet_nil ?_
            rintro w2 ⟨⟨w2s, hb2⟩, rfl⟩
            clear hLW
            have HO3 : Hid (OwnI w2 lo hi (.slice (some ⟨g, 0, none⟩) L cap) l2) := Own.below HO2.out hb2 (by omega)
            have HW3 : Hid (But w0.heap.size g w0 w2) := HW2.out.trans (But.of_below hb2 (by omega) (by omega))
            clear c1 c2 f1 f2 hb2
            go_wp2_with fail
            go_roundw
            case rel => exact ⟨i + 1, l2, by omega, Or.inl (by omega), by go_num, HS2.out, HO3.out, HW3.out⟩
            case measure => simp [intOf]; omega
    · have hii : ¬ (i : Int) < (b : Int) := by omega
      have HSF : Hid (SortP key l0 l a b) := by
        show SortP _ _ _ _ _
        by_cases h : i = b
        · rw [← h]; exact HS.out
        · rcases hi2 with h2 | ⟨h2, h3⟩
          · omega
          · rw [h3]; exact SortP.short (by omega)
      go_wp2
      go_end0
      exact ⟨rfl, l, HSF.out, HO1.out, HW1.out⟩
set_option maxHeartbeats 4000000 in
theorem symMerge_c (w0 : World) (g L cap lo hi ca cb a m : Nat) (cf : Int → Int → Int) (key : Int → Int) (HK : CmpOk w0 g L ca cb cf key) (l0 : List Int) (w : World) (hw : But w0.heap.size g w0 w) (hg : g < w0.heap.size) (hL : l0.length = L) (hL21 : L ≤ 1000) (hbl : belowL L l0)
    (ho : OwnI w lo hi (.slice (some ⟨g, 0, none⟩) L cap) l0) (hhi : hi ≤ w0.heap.size) (hab : a + 1 < m) (hmL : m < L) (hord : ordOn key l0 a m) :
    Calls Tryz.prog 62 #[.slice (some ⟨g, 0, none⟩) L cap, .int .i64 a, .int .i64 m, .int .i64 ((m : Int) + 1), .func (.func 25) #[] #[.pointer (some ⟨ca, 0, none⟩), .pointer (some ⟨cb, 0, none⟩)]] w
      fun e w' => e = .returned (.tuple #[]) ∧ ∃ l, SortP key l0 l a (m + 1) ∧ OwnI w' lo hi (.slice (some ⟨g, 0, none⟩) L cap) l ∧ But w0.heap.size g w0 w' := by
  have HCO := Lib.hid HK
  have HO := Lib.hid ho
  have HW := Lib.hid hw
  have HBL := Lib.hid hbl
  have HL := Lib.hid hL
  have HORD := Lib.hid hord
  have EG : Hid (∀ (args : Array Value) (w : World), (callFunc 25 args).run Tryz.prog w = .ok (.enter 25 args) w) := fun args w => by kernel_rfl
  have t1 : ((m : Int) - (a : Int) == 1) = false := by simp; omega
  have t2 : ((m : Int) + 1 - (m : Int) == 1) = true := by simp; omega
  have t3 : (m : Int) + 1 - (m : Int) = 1 := by omega
  have hzw0 : w0.heap.size ≤ w.heap.size := hw.size
  clear HK ho hw hbl hL hord
  go_enter Tryz.func62, Tryz.ntmps62
  go_wp2_with fail
  go_loopw [14, 15] (fun iv jv wr => ∃ i j : Nat, a ≤ i ∧ i ≤ j ∧ j ≤ m ∧ iv = .int .i64 i ∧ jv = .int .i64 j ∧ (∀ p, a ≤ p → p < i → key (l0.getD p 0) ≤ key (l0.getD m 0)) ∧ (∀ p, j ≤ p → p < m → key (l0.getD m 0) < key (l0.getD p 0)) ∧ Below w.heap.size w wr) (fun iv jv _ => (intOf jv).toNat - (intOf iv).toNat)
  case atStart => exact ⟨a, m, Nat.le_refl _, by omega, Nat.le_refl _, rfl, rfl, fun p h1 h2 => by omega, fun p h1 h2 => by omega, Below.refl _ _⟩
  case round =>
    obtain ⟨i, j, hai, hij, hjm, rfl, rfl, hlo, hhi2, hb⟩ := hrel
    have HLO := Lib.hid hlo
    have HHI := Lib.hid hhi2
    have HB := Lib.hid hb
    have HW1 : Hid (But w0.heap.size g w0 wr) := HW.out.trans (But.of_below hb (by omega) (by omega))
    have HO1 : Hid (OwnI wr lo hi (.slice (some ⟨g, 0, none⟩) L cap) l0) := Own.below HO.out hb (by omega)
    have hzr := hb.size
    clear hlo hhi2 hb
    by_cases hlt : i < j
    · have hii : (i : Int) < (j : Int) := by omega
      obtain ⟨h, hh⟩ : ∃ h, h = (i + j) / 2 := ⟨_, rfl⟩
      have hh1 : i ≤ h := by omega
      have hh2 : h < j := by omega
      have hdiv : ((i : Int) + (j : Int)) / 2 = (h : Int) := by omega
      obtain ⟨c1, f1, hgw⟩ := HO1.out.cellAt m (by rw [HL.out]; exact hmL)
      obtain ⟨c2, f2, -⟩ := HO1.out.cellAt h (by rw [HL.out]; omega)
      have hmi : (m : Int) < (L : Int) := by omega
      have hhi3 : (h : Int) < (L : Int) := by omega
      clear hh
      have hbx := belowL_getD HBL.out (p := m) (by rw [HL.out]; exact hmL)
      have hby := belowL_getD HBL.out (p := h) (by rw [HL.out]; omega)
      obtain ⟨x, hx⟩ : ∃ x, x = l0.getD m 0 := ⟨_, rfl⟩
      obtain ⟨y, hy⟩ : ∃ y, y = l0.getD h 0 := ⟨_, rfl⟩
      rw [← hx] at c1 hbx
      rw [← hy] at c2 hby
      have HX := Lib.hid hx
      have HY := Lib.hid hy
      have hSG := HCO.out.sign x y hbx.1 hbx.2 hby.1 hby.2
      have HCL : Hid (∀ W, Below wr.heap.size wr W → Calls Tryz.prog 25 #[.int .i64 x, .int .i64 y, .pointer (some ⟨ca, 0, none⟩), .pointer (some ⟨cb, 0, none⟩)] W fun e w' => e = .returned (.int .i64 (cf x y)) ∧ Below W.heap.size W w') := fun W hb => HCO.out.call W x y (HW1.out.trans (But.of_below hb (by omega) (by omega))) hbx.1 hbx.2 hby.1 hby.2
      obtain ⟨c, hc⟩ : ∃ c, c = cf x y := ⟨_, rfl⟩
      rw [← hc] at hSG HCL
      clear hx hy hc hbx hby
      by_cases hc : c < 0
      · have hhi4 : ∀ p, h ≤ p → p < m → key (l0.getD m 0) < key (l0.getD p 0) := by
          intro p h1 h2
          have k1 : key (l0.getD m 0) < key (l0.getD h 0) := by rw [← HX.out, ← HY.out]; exact hSG.1 hc
          by_cases hp : p = h
          · rw [hp]; exact k1
          · have := HORD.out h p (by omega) (by omega) h2
            omega
        have HHI4 := Lib.hid hhi4
        have hcd : decide (c < 0) = true := decide_eq_true hc
        clear hSG hhi4
        go_wp2_with fail
        refine wp_region_later wr.heap.size wr (by kernel_rfl) (by kernel_rfl) (Below.refl _ _) ?_
        have hLW := LW.cells (B := wr.heap.size) (w0 := wr)
        repeat (go_big_quiet_step ((go_at_call 25; refine LW.call (Nat.le_refl _) (HCL.out _ (LW.h _)))))
        refine wpQuiet_nil ?_
        rintro w2 ⟨⟨w2s, hb2⟩, rfl⟩
        clear hLW
        have HB3 : Hid (Below w.heap.size w w2) := HB.out.trans (hb2.mono (by omega))
        clear c1 c2 f1 f2 hb2
        go_wp2_with fail
        go_roundw
        case rel => exact ⟨i, h, hai, by omega, by omega, rfl, by go_num, HLO.out, HHI4.out, HB3.out⟩
        case measure => simp [intOf]; omega
      · have hlo4 : ∀ p, a ≤ p → p < h + 1 → key (l0.getD p 0) ≤ key (l0.getD m 0) := by
          intro p h1 h2
          have k1 : ¬ key (l0.getD m 0) < key (l0.getD h 0) := by rw [← HX.out, ← HY.out]; exact fun k => hc (hSG.2 k)
          by_cases hp : p = h
          · rw [hp]; omega
          · have := HORD.out p h (by omega) (by omega) (by omega)
            omega
        have HLO4 := Lib.hid hlo4
        have hcd : decide (c < 0) = false := decide_eq_false hc
        clear hSG hlo4
        go_wp2_with fail
        refine wp_region_later wr.heap.size wr (by kernel_rfl) (by kernel_rfl) (Below.refl _ _) ?_
        have hLW := LW.cells (B := wr.heap.size) (w0 := wr)
        repeat (go_big_quiet_step ((go_at_call 25; refine LW.call (Nat.le_refl _) (HCL.out _ (LW.h _)))))
        refine wpQuiet_nil ?_
        rintro w2 ⟨⟨w2s, hb2⟩, rfl⟩
        clear hLW
        have HB3 : Hid (Below w.heap.size w w2) := HB.out.trans (hb2.mono (by omega))
        clear c1 c2 f1 f2 hb2
        go_wp2_with fail
        go_roundw
        case rel => exact ⟨h + 1, j, by omega, by omega, by omega, by go_num, rfl, HLO4.out, HHI.out, HB3.out⟩
        case measure => simp [intOf]; omega
    · have hii : ¬ (i : Int) < (j : Int) := by omega
      have hjie : j = i := by omega
      subst hjie
      go_wp2_with fail
      go_loopw [17] (fun kv wr => ∃ (k : Nat) (l : List Int), j ≤ k ∧ k ≤ m ∧ kv = .int .i64 k ∧ (l.Perm l0 ∧ insOn key l a m k ∧ keptOff l0 l a (m + 1) ∧ (∀ p, p < k → l.getD p 0 = l0.getD p 0) ∧ l.getD k 0 = l0.getD m 0) ∧ OwnI wr lo hi (.slice (some ⟨g, 0, none⟩) L cap) l ∧ But w0.heap.size g w0 wr) (fun kv _ => (intOf kv).toNat)
      case atStart => exact ⟨m, l0, hjm, Nat.le_refl _, rfl, ⟨List.Perm.refl _, ins_start HORD.out, keptOff_refl _ _ _, fun _ _ => rfl, rfl⟩, HO1.out, HW1.out⟩
      case round =>
        obtain ⟨k, l2, hik, hkm, rfl, ⟨hp2, hin2, hk2, hun, hkx⟩, ho2, hw2⟩ := hrel
        have HP2 := Lib.hid hp2
        have HIN := Lib.hid hin2
        have HKO := Lib.hid hk2
        have HUN := Lib.hid hun
        have HKX := Lib.hid hkx
        have HO2 := Lib.hid ho2
        have HW2 := Lib.hid hw2
        have hl2 : l2.length = L := by rw [hp2.length_eq]; exact HL.out
        have HL2 := Lib.hid hl2
        have hzw : w0.heap.size ≤ wr.heap.size := hw2.size
        clear hp2 hin2 hk2 hun hkx
        by_cases hja : j < k
        · have e3 : (j : Int) < (k : Int) := by omega
          obtain ⟨c1, f1, hgw⟩ := ho2.cellAt k (by omega)
          obtain ⟨c2, f2, -⟩ := ho2.cellAt (k - 1) (by omega)
          have hkl : key (l2.getD k 0) < key (l2.getD (k - 1) 0) := by
            rw [HKX.out, HUN.out (k - 1) (by omega)]
            exact HHI.out (k - 1) (by omega) (by omega)
          obtain ⟨x, hx⟩ : ∃ x, x = l2.getD k 0 := ⟨_, rfl⟩
          obtain ⟨y, hy⟩ : ∃ y, y = l2.getD (k - 1) 0 := ⟨_, rfl⟩
          have HIN2 : Hid (insOn key (swL l2 k (k - 1)) a m (k - 1)) := ins_step HIN.out (by omega) (by omega) (by omega) hkl
          have HKO2 : Hid (keptOff l0 (swL l2 k (k - 1)) a (m + 1)) := keptOff_swL HKO.out (by omega) (by omega) (by omega) ⟨by omega, by omega⟩ ⟨by omega, by omega⟩
          have HP3 : Hid ((swL l2 k (k - 1)).Perm l0) := (swL_perm l2 k (k - 1) (by omega) (by omega) (by omega)).trans HP2.out
          have HUN2 : Hid (∀ p, p < k - 1 → (swL l2 k (k - 1)).getD p 0 = l0.getD p 0) := fun p hp => by
            rw [swL_getD _ _ _ _ (by omega) (by omega) (by omega), if_neg (by omega), if_neg (by omega)]
            exact HUN.out p (by omega)
          have HKX2 : Hid ((swL l2 k (k - 1)).getD (k - 1) 0 = l0.getD m 0) := by
            show _ = _
            rw [swL_getD _ _ _ _ (by omega) (by omega) (by omega), if_neg (by omega), if_pos rfl]
            exact HKX.out
          rw [← hx] at c1
          rw [← hy] at c2
          have HX := Lib.hid hx
          have HY := Lib.hid hy
          have HSW : Hid (swL l2 k (k - 1) = (l2.set k y).set (k - 1) x) := by show _ = _; rw [HX.out, HY.out]; rfl
          have hj1i : (k : Int) - 1 = ((k - 1 : Nat) : Int) := by omega
          have hwj : IntKind.i64.wrap ((k - 1 : Nat) : Int) = ((k - 1 : Nat) : Int) := by rw [IntKind.wrap_i64]; omega
          have hjl : (k : Int) < (L : Int) := by omega
          have hjl2 : ((k - 1 : Nat) : Int) < (L : Int) := by omega
          clear ho2 hw2 hx hy hkl
          go_wp2_with fail
          refine wpV_start (S := fun W' : World => W'.cell? ⟨g, k, none⟩ = some (.int .i64 x) ∧ W'.cell? ⟨g, k - 1, none⟩ = some (.int .i64 y)) (m := 15) (S2 := fun _ : World => True) (m2 := 17) (by kernel_rfl) ?_
          have hHeld : (fun W' : World => W'.cell? ⟨g, k, none⟩ = some (.int .i64 x) ∧ W'.cell? ⟨g, k - 1, none⟩ = some (.int .i64 y)) wr.drew ∧ (fun _ : World => True) wr.drew := ⟨⟨c1, c2⟩, trivial⟩
          refine wpV_take (i := 0) (v := ?_) rfl (by kernel_rfl) (fun _ _ _ h => h) ⟨by rfl, ?_⟩ hHeld ?_
          rotate_left
          · (intro w hSw; (try dsimp only at hSw); go_simp; try with_reducible rfl)
          try simp only [Act.put, List.setIfInBounds_toArray, List.set_cons_zero, List.set_cons_succ]
          refine wpV_take (i := 1) (v := ?_) rfl (by kernel_rfl) (fun _ _ _ h => h) ⟨by rfl, ?_⟩ hHeld ?_
          rotate_left
          · (intro w hSw; (try dsimp only at hSw); go_simp; try with_reducible rfl)
          try simp only [Act.put, List.setIfInBounds_toArray, List.set_cons_zero, List.set_cons_succ]
          refine wpV_swap ?_
          refine wpV_take (i := 2) (v := ?_) rfl (by kernel_rfl) (fun _ _ _ h => h) ⟨by rfl, ?_⟩ hHeld.symm ?_
          rotate_left
          · (intro w hSw; (try dsimp only at hSw); go_simp; try with_reducible rfl)
          try simp only [Act.put, List.setIfInBounds_toArray, List.set_cons_zero, List.set_cons_succ]
          refine wpV_take (i := 3) (v := ?_) rfl (by kernel_rfl) (fun _ _ _ h => h) ⟨by rfl, ?_⟩ hHeld.symm ?_
          rotate_left
          · (intro w hSw; (try dsimp only at hSw); go_simp; try with_reducible rfl)
          try simp only [Act.put, List.setIfInBounds_toArray, List.set_cons_zero, List.set_cons_succ]
          refine wpV_take (i := 4) (v := ?_) rfl (by kernel_rfl) (fun _ _ _ h => h) ⟨by rfl, ?_⟩ hHeld.symm ?_
          rotate_left
          · (intro w hSw; (try dsimp only at hSw); go_simp; try with_reducible rfl)
          try simp only [Act.put, List.setIfInBounds_toArray, List.set_cons_zero, List.set_cons_succ]
          refine wpV_swap ?_
          refine wpV_take (i := 5) (v := ?_) rfl (by kernel_rfl) (fun _ _ _ h => h) ⟨by rfl, ?_⟩ hHeld ?_
          rotate_left
          · (intro w hSw; (try dsimp only at hSw); go_simp; try with_reducible rfl)
          try simp only [Act.put, List.setIfInBounds_toArray, List.set_cons_zero, List.set_cons_succ]
          refine wpV_take (i := 6) (v := ?_) rfl (by kernel_rfl) (fun _ _ _ h => h) ⟨by rfl, ?_⟩ hHeld ?_
          rotate_left
          · (intro w hSw; (try dsimp only at hSw); go_simp; try with_reducible rfl)
          try simp only [Act.put, List.setIfInBounds_toArray, List.set_cons_zero, List.set_cons_succ]
          refine wpV_take (i := 7) (v := ?_) rfl (by kernel_rfl) (fun _ _ _ h => h) ⟨by rfl, ?_⟩ hHeld ?_
          rotate_left
          · (intro w hSw; (try dsimp only at hSw); go_simp; try with_reducible rfl)
          try simp only [Act.put, List.setIfInBounds_toArray, List.set_cons_zero, List.set_cons_succ]
          refine wpV_take (i := 8) (v := ?_) rfl (by kernel_rfl) (fun _ _ _ h => h) ⟨by rfl, ?_⟩ hHeld ?_
          rotate_left
          · (intro w hSw; (try dsimp only at hSw); go_simp; try with_reducible rfl)
          try simp only [Act.put, List.setIfInBounds_toArray, List.set_cons_zero, List.set_cons_succ]
          refine wpV_take (i := 9) (v := ?_) rfl (by kernel_rfl) (fun _ _ _ h => h) ⟨by rfl, ?_⟩ hHeld ?_
          rotate_left
          · (intro w hSw; (try dsimp only at hSw); go_simp; try with_reducible rfl)
          try simp only [Act.put, List.setIfInBounds_toArray, List.set_cons_zero, List.set_cons_succ]
          refine wpV_swap ?_
          refine wpV_take (i := 10) (v := ?_) rfl (by kernel_rfl) (fun _ _ _ h => h) ⟨by rfl, ?_⟩ hHeld.symm ?_
          rotate_left
          · (intro w hSw; (try dsimp only at hSw); go_simp; try with_reducible rfl)
          try simp only [Act.put, List.setIfInBounds_toArray, List.set_cons_zero, List.set_cons_succ]
          refine wpV_take (i := 11) (v := ?_) rfl (by kernel_rfl) (fun _ _ _ h => h) ⟨by rfl, ?_⟩ hHeld.symm ?_
          rotate_left
          · (intro w hSw; (try dsimp only at hSw); go_simp; try with_reducible rfl)
          try simp only [Act.put, List.setIfInBounds_toArray, List.set_cons_zero, List.set_cons_succ]
          refine wpV_take (i := 12) (v := ?_) rfl (by kernel_rfl) (fun _ _ _ h => h) ⟨by rfl, ?_⟩ hHeld.symm ?_
          rotate_left
          · (intro w hSw; (try dsimp only at hSw); go_simp; try with_reducible rfl)
          try simp only [Act.put, List.setIfInBounds_toArray, List.set_cons_zero, List.set_cons_succ]
          refine wpV_swap ?_
          refine wpV_take (i := 13) (v := ?_) rfl (by kernel_rfl) (fun _ _ _ h => h) ⟨by rfl, ?_⟩ hHeld ?_
          rotate_left
          · (intro w hSw; (try dsimp only at hSw); go_simp; try with_reducible rfl)
          try simp only [Act.put, List.setIfInBounds_toArray, List.set_cons_zero, List.set_cons_succ]
          refine wpV_take (i := 14) (v := ?_) rfl (by kernel_rfl) (fun _ _ _ h => h) ⟨by rfl, ?_⟩ hHeld ?_
          rotate_left
          · (intro w hSw; (try dsimp only at hSw); go_simp; try with_reducible rfl)
          try simp only [Act.put, List.setIfInBounds_toArray, List.set_cons_zero, List.set_cons_succ]
          refine wpV_one (by kernel_rfl) rfl (fun K hK => ?_)
          go_simp
          refine hK.out _ _ (trivial) ?_
          clear hK K
          try simp only [Act.put, List.setIfInBounds_toArray, List.set_cons_zero, List.set_cons_succ]
          refine wpV_next (i := 16) (by kernel_rfl) rfl (by kernel_rfl) (fun K hK => ?_)
          go_simp
          refine hK.out _ _ (.inr (trivial)) ?_
          clear hK K
          try simp only [Act.put, List.setIfInBounds_toArray, List.set_cons_zero, List.set_cons_succ]
          refine wpV_next (i := 17) (by kernel_rfl) rfl (by kernel_rfl) (fun K hK => ?_)
          go_simp
          refine hK.out _ _ (.inl rfl) ?_
          clear hK K
          try simp only [Act.put, List.setIfInBounds_toArray, List.set_cons_zero, List.set_cons_succ]
          refine wpV_done (by kernel_rfl) ?_ _
          obtain ⟨W6, hW6⟩ : ∃ W, W = ((wr.setCell ⟨g, k, none⟩ (.int .i64 y)).setCell ⟨g, k - 1, none⟩ (.int .i64 x)).drew := ⟨_, rfl⟩
          have HO6 : Hid (OwnI W6 lo hi (.slice (some ⟨g, 0, none⟩) L cap) (swL l2 k (k - 1))) := by
            show OwnI _ _ _ _ _
            rw [hW6, HSW.out]
            exact (OwnI.store (Own.kept (w' := wr.drew) HO2.out fun _ _ _ _ => rfl) HL2.out.symm k y).store (by rw [List.length_set]; exact HL2.out.symm) (k - 1) x
          have HW6 : Hid (But w0.heap.size g w0 W6) := by
            show But _ _ _ _
            rw [hW6]
            have e9 : ((wr.setCell ⟨g, k, none⟩ (.int .i64 y)).setCell ⟨g, k - 1, none⟩ (.int .i64 x)).heap.size = wr.heap.size := by simp [World.setCell]
            exact (HW2.out.trans (But.set _ g k wr _)).trans ((But.set _ g (k - 1) _ _).trans (But.of_below ((Below.refl w0.heap.size _).drew) (by omega) (Nat.le_refl _)))
          try rw [← hW6]
          clear hW6
          go_wp2_with fail
          go_roundw
          case rel => exact ⟨k - 1, swL l2 k (k - 1), by omega, by omega, by go_num, ⟨HP3.out, HIN2.out, HKO2.out, HUN2.out, HKX2.out⟩, HO6.out, HW6.out⟩
          case measure => simp [intOf]; omega
        · have e3 : ¬ (j : Int) < (k : Int) := by omega
          have hkj : k = j := by omega
          have HSF : Hid (SortP key l0 l2 a (m + 1)) := ⟨HP2.out, ins_end HIN.out (by omega) hkm (by
            by_cases hka : k = a
            · exact Or.inl hka
            · right
              rw [HKX.out, HUN.out (k - 1) (by omega)]
              have := HLO.out (k - 1) (by omega) (by omega)
              omega), HKO.out⟩
          clear ho2 hw2 hkj
          go_wp2
          refine bodyPost_ret (results_none (by rfl) _ _ _) rfl ?_
          exact ⟨rfl, l2, HSF.out, HO2.out, HW2.out⟩
/-- A sort of the places from a to the middle, and no more. -/
theorem sortP_all {key : Int → Int} {l0 l : List Int} {b : Nat} (h : SortP key l0 l 0 b) : SortP key l0 l 0 b := h
set_option maxHeartbeats 4000000 in
theorem stable_c (w0 : World) (g L cap lo hi ca cb : Nat) (cf : Int → Int → Int) (key : Int → Int) (HK : CmpOk w0 g L ca cb cf key) (l0 : List Int) (w : World) (hw : But w0.heap.size g w0 w) (hg : g < w0.heap.size) (hL : l0.length = L) (hL21 : L ≤ 21) (hbl : belowL L l0)
    (ho : OwnI w lo hi (.slice (some ⟨g, 0, none⟩) L cap) l0) (hhi : hi ≤ w0.heap.size) :
    Calls Tryz.prog 53 #[.slice (some ⟨g, 0, none⟩) L cap, .int .i64 L, .func (.func 25) #[] #[.pointer (some ⟨ca, 0, none⟩), .pointer (some ⟨cb, 0, none⟩)]] w
      fun e w' => e = .returned (.tuple #[]) ∧ ∃ l, SortP key l0 l 0 L ∧ OwnI w' lo hi (.slice (some ⟨g, 0, none⟩) L cap) l ∧ But w0.heap.size g w0 w' := by
  have IS := Lib.hid (fun (a b : Nat) (l : List Int) (w : World) (hw : But w0.heap.size g w0 w) (hL : l.length = L) (hbl : belowL L l) (ho : OwnI w lo hi (.slice (some ⟨g, 0, none⟩) L cap) l) (hab : a ≤ b) (hb : b ≤ L) => insertionSort_c w0 g L cap lo hi ca cb a b cf key HK l w hw hg hL (by omega) hbl ho hhi hab hb)
  by_cases h20 : L < 20
  · have c1 := IS.out 0 L l0 w hw hL hbl ho (Nat.zero_le _) (Nat.le_refl _)
    have k1 : ¬ (20 : Int) ≤ (L : Int) := by omega
    have k2 : ¬ (20 : Int) < (L : Int) := by omega
    clear HK ho hw hbl hL IS
    go_enter Tryz.func53, Tryz.ntmps53
    go_wp2_with fail
    refine wp_loop_rounds 1 ?_
    rw [rounds_succ]
    go_wp2_with (refine c1.mono ?_; rintro e w1 ⟨rfl, l, hs, ho, hw⟩)
    have HS := Lib.hid hs
    have HO := Lib.hid ho
    have HW := Lib.hid hw
    clear hs ho hw
    refine wp_loop_rounds 1 ?_
    rw [rounds_succ]
    go_wp2
    go_end0
    exact ⟨rfl, l, HS.out, HO.out, HW.out⟩
  · obtain ⟨w', hw'⟩ : ∃ w' : World, w' = w := ⟨w, rfl⟩
    have c1 : Calls Tryz.prog 61 #[.slice (some ⟨g, 0, none⟩) L cap, .int .i64 0, .int .i64 20, .func (.func 25) #[] #[.pointer (some ⟨ca, 0, none⟩), .pointer (some ⟨cb, 0, none⟩)]] w fun e w' => e = .returned (.tuple #[]) ∧ ∃ l, SortP key l0 l 0 20 ∧ OwnI w' lo hi (.slice (some ⟨g, 0, none⟩) L cap) l ∧ But w0.heap.size g w0 w' := IS.out 0 20 l0 w hw hL hbl ho (Nat.zero_le _) (by omega)
    have HC1 := Lib.hid c1
    have HK1 := Lib.hid HK
    have HL := Lib.hid hL
    have HBL := Lib.hid hbl
    clear HK ho hw hbl hL c1 hw'
    by_cases h21 : L = 20
    · have k1 : (20 : Int) ≤ (L : Int) := by omega
      have k2 : ¬ (20 : Int) < (L : Int) := by omega
      have k3 : ¬ (40 : Int) ≤ (L : Int) := by omega
      have h21' := Lib.hid h21
      clear h21
      go_enter Tryz.func53, Tryz.ntmps53
      go_wp2_with fail
      refine wp_loop_rounds 2 ?_
      rw [rounds_succ]
      go_wp2_with (refine HC1.out.mono ?_; rintro e w1 ⟨rfl, l, hs, ho, hw⟩)
      have c2 : Calls Tryz.prog 61 #[.slice (some ⟨g, 0, none⟩) L cap, .int .i64 20, .int .i64 L, .func (.func 25) #[] #[.pointer (some ⟨ca, 0, none⟩), .pointer (some ⟨cb, 0, none⟩)]] w1 fun e w' => e = .returned (.tuple #[]) ∧ ∃ l', SortP key l l' 20 L ∧ OwnI w' lo hi (.slice (some ⟨g, 0, none⟩) L cap) l' ∧ But w0.heap.size g w0 w' := IS.out 20 L l w1 hw (by rw [hs.len]; exact HL.out) (belowL_perm HBL.out hs.perm) ho (by have := h21'.out; omega) (Nat.le_refl _)
      have HC2 := Lib.hid c2
      have HS := Lib.hid hs
      clear hs ho hw c2
      rw [rounds_succ]
      go_wp2_with (refine HC2.out.mono ?_; rintro e w2 ⟨rfl, l', hs, ho, hw⟩)
      have HS2 := Lib.hid hs
      have HO := Lib.hid ho
      have HW := Lib.hid hw
      clear hs ho hw
      refine wp_loop_rounds 1 ?_
      rw [rounds_succ]
      go_wp2
      go_end0
      refine ⟨rfl, l', ?_, HO.out, HW.out⟩
      have h1 := HS.out
      have h2 := HS2.out
      have e := h21'.out
      refine ⟨h2.perm.trans h1.perm, fun p q a b c => ?_, fun p hp => ?_⟩
      · rw [h2.off p (by omega), h2.off q (by omega)]
        exact h1.ord p q a b (by omega)
      · rw [h2.off p (by omega), h1.off p (by omega)]
    · have hL1 : L = 21 := by omega
      have k1 : (20 : Int) ≤ (L : Int) := by omega
      have k2 : (20 : Int) < (L : Int) := by omega
      have k3 : ¬ (40 : Int) ≤ (L : Int) := by omega
      have k4 : ¬ (40 : Int) < (L : Int) := by omega
      have h21' := Lib.hid hL1
      clear h21 hL1 h20
      go_enter Tryz.func53, Tryz.ntmps53
      go_wp2_with fail
      refine wp_loop_rounds 2 ?_
      rw [rounds_succ]
      go_wp2_with (refine HC1.out.mono ?_; rintro e w1 ⟨rfl, l, hs, ho, hw⟩)
      have c2 : Calls Tryz.prog 61 #[.slice (some ⟨g, 0, none⟩) L cap, .int .i64 20, .int .i64 L, .func (.func 25) #[] #[.pointer (some ⟨ca, 0, none⟩), .pointer (some ⟨cb, 0, none⟩)]] w1 fun e w' => e = .returned (.tuple #[]) ∧ ∃ l', SortP key l l' 20 L ∧ OwnI w' lo hi (.slice (some ⟨g, 0, none⟩) L cap) l' ∧ But w0.heap.size g w0 w' := IS.out 20 L l w1 hw (by rw [hs.len]; exact HL.out) (belowL_perm HBL.out hs.perm) ho (by have := h21'.out; omega) (Nat.le_refl _)
      have HC2 := Lib.hid c2
      have HS := Lib.hid hs
      clear hs ho hw c2
      rw [rounds_succ]
      go_wp2_with (refine HC2.out.mono ?_; rintro e w2 ⟨rfl, l', hs, ho, hw⟩)
      have c3 : Calls Tryz.prog 62 #[.slice (some ⟨g, 0, none⟩) L cap, .int .i64 0, .int .i64 20, .int .i64 L, .func (.func 25) #[] #[.pointer (some ⟨ca, 0, none⟩), .pointer (some ⟨cb, 0, none⟩)]] w2 fun e w' => e = .returned (.tuple #[]) ∧ ∃ l2, SortP key l' l2 0 21 ∧ OwnI w' lo hi (.slice (some ⟨g, 0, none⟩) L cap) l2 ∧ But w0.heap.size g w0 w' := by
        have h1 := HS.out
        have e := h21'.out
        have c := symMerge_c w0 g L cap lo hi ca cb 0 20 cf key HK1.out l' w2 hw hg (by rw [hs.len, h1.len]; exact HL.out) (by omega) (belowL_perm (belowL_perm HBL.out h1.perm) hs.perm) ho hhi (by omega) (by omega) (fun p q a b c => by
          rw [hs.off p (by omega), hs.off q (by omega)]
          exact h1.ord p q a b (by omega))
        have e9 : (((20 : Nat) : Int) + 1) = (L : Int) := by omega
        rw [e9] at c
        exact c
      have HC3 := Lib.hid c3
      have HS2 := Lib.hid hs
      clear hs ho hw c3
      refine wp_loop_rounds 2 ?_
      rw [rounds_succ]
      go_wp2_with fail
      refine wp_loop_rounds 1 ?_
      rw [rounds_succ]
      go_wp2_with (refine HC3.out.mono ?_; rintro e w3 ⟨rfl, l2, hs, ho, hw⟩)
      have HS3 := Lib.hid hs
      have HO := Lib.hid ho
      have HW := Lib.hid hw
      clear hs ho hw
      rw [rounds_succ]
      go_wp2
      go_end0
      refine ⟨rfl, l2, ?_, HO.out, HW.out⟩
      have h1 := HS.out
      have h2 := HS2.out
      have h3 := HS3.out
      have e := h21'.out
      refine ⟨(h3.perm.trans h2.perm).trans h1.perm, fun p q a b c => h3.ord p q a b (by omega), fun p hp => ?_⟩
      rw [h3.off p (by omega), h2.off p (by omega), h1.off p (by omega)]
end Go.Proofs.YtiodolbgapjmkaaGreatDoor
