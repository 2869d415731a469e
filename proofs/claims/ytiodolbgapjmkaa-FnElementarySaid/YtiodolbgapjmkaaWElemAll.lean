/- The library's stable sort of at most 21 numbers by a key, as changes of a list. Conditions: none. -/
import Derived.Test.YtiodolbgapjmkaaThrL
import Derived.Test.YtiodolbgapjmkaaCur
import Derived.Test.YtiodolbgapjmkaaLater
import Derived.Test.YtiodolbgapjmkaaWalkV
import Derived.Test.YtiodolbgapjmkaaApply
import Derived.Deep.DeepCutAuto
import Derived.Test.YtiodolbgapjmkaaNetBits
import Derived.Test.YtiodolbgapjmkaaShelf
import Derived.Deep.RegionHeld3
import Derived.Test.YtiodolbgapjmkaaLevels
import Derived.Test.YtiodolbgapjmkaaCopy
import Derived.Test.YtiodolbgapjmkaaPast
import Derived.Test.YtiodolbgapjmkaaWires
import Derived.Test.YtiodolbgapjmkaaDraw
import Derived.Deep.OwnRows
import Derived.Test.YtiodolbgapjmkaaCopy2
import Derived.Test.YtiodolbgapjmkaaRenamed
import Derived.Test.YtiodolbgapjmkaaWalkU
import Derived.Test.YtiodolbgapjmkaaNet2
import Derived.Test.YtiodolbgapjmkaaBrickS
import Derived.Test.YtiodolbgapjmkaaNBrick
import Derived.Test.YtiodolbgapjmkaaRises
import Derived.Test.YtiodolbgapjmkaaNetOk
import Derived.Test.YtiodolbgapjmkaaMaskL
import Derived.Test.YtiodolbgapjmkaaIsSorting
import Derived.Test.YtiodolbgapjmkaaParts
import Derived.Test.YtiodolbgapjmkaaStdB
import Derived.Test.YtiodolbgapjmkaaMkSort
import Derived.Test.YtiodolbgapjmkaaApplyN
import Derived.Test.YtiodolbgapjmkaaSortL
import Derived.Test.YtiodolbgapjmkaaNInsertion
import Derived.Test.YtiodolbgapjmkaaMake
namespace Go.Proofs.Ytiodolbgapjmkaa
open Go.RowKit
set_option linter.unusedVariables false

/-- Two places exchanged. -/
def swL (l : List Int) (i j : Nat) : List Int := (l.set i (l.getD j 0)).set j (l.getD i 0)
theorem swL_len (l : List Int) (i j : Nat) : (swL l i j).length = l.length := by simp [swL]
theorem swL_getD (l : List Int) (i j p : Nat) (hi : i < l.length) (hj : j < l.length) (hne : i ≠ j) : (swL l i j).getD p 0 = if p = i then l.getD j 0 else if p = j then l.getD i 0 else l.getD p 0 := by
  unfold swL
  by_cases h1 : p = i
  · rw [if_pos h1, h1, getD_set_ne' _ _ _ _ (Ne.symm hne)]
    simp [List.getD, hi]
  · rw [if_neg h1]
    by_cases h2 : p = j
    · rw [if_pos h2, h2]
      simp [List.getD, hj]
    · rw [if_neg h2, getD_set_ne' _ _ _ _ (fun e => h2 e.symm), getD_set_ne' _ _ _ _ (fun e => h1 e.symm)]
theorem swL_perm (l : List Int) (i j : Nat) (hi : i < l.length) (hj : j < l.length) (hne : i ≠ j) : (swL l i j).Perm l := swap_perm l i j hi hj hne
variable {key : Int → Int}
/-- In order from a up to b. -/
def ordOn (key : Int → Int) (l : List Int) (a b : Nat) : Prop := ∀ p q, a ≤ p → p < q → q < b → key (l.getD p 0) ≤ key (l.getD q 0)
/-- In order from a up to i, but for what stands at j, which is no greater than what follows it. -/
def insOn (key : Int → Int) (l : List Int) (a i j : Nat) : Prop := ∀ p q, a ≤ p → p < q → q ≤ i → q ≠ j → key (l.getD p 0) ≤ key (l.getD q 0)
theorem ins_start {l : List Int} {a i : Nat} (h : ordOn key l a i) : insOn key l a i i := fun p q h1 h2 h3 h4 => h p q h1 h2 (by omega)
theorem ins_step {l : List Int} {a i j : Nat} (h : insOn key l a i j) (haj : a < j) (hji : j ≤ i) (hil : i < l.length) (hlt : key (l.getD j 0) < key (l.getD (j - 1) 0)) : insOn key (swL l j (j - 1)) a i (j - 1) := by
  intro p q h1 h2 h3 h4
  rw [swL_getD _ _ _ _ (by omega) (by omega) (by omega), swL_getD _ _ _ _ (by omega) (by omega) (by omega)]
  by_cases hqj : q = j
  · subst hqj
    rw [if_pos rfl, if_neg (by omega)]
    by_cases hp : p = q - 1
    · rw [if_pos hp]; omega
    · rw [if_neg hp]; exact h p (q - 1) h1 (by omega) (by omega) (by omega)
  · rw [if_neg hqj, if_neg h4]
    by_cases hp : p = j
    · rw [if_pos hp]; exact h (j - 1) q (by omega) (by omega) h3 hqj
    · rw [if_neg hp]
      by_cases hp2 : p = j - 1
      · rw [if_pos hp2]
        by_cases hq2 : j < q
        · exact h j q (by omega) hq2 h3 hqj
        · omega
      · rw [if_neg hp2]; exact h p q h1 h2 h3 hqj
theorem ins_end {l : List Int} {a i j : Nat} (h : insOn key l a i j) (haj : a ≤ j) (hji : j ≤ i) (hs : j = a ∨ ¬ key (l.getD j 0) < key (l.getD (j - 1) 0)) : ordOn key l a (i + 1) := by
  intro p q h1 h2 h3
  by_cases hqj : q = j
  · subst hqj
    rcases hs with hs | hs
    · omega
    · by_cases hp : p = q - 1
      · rw [hp]; omega
      · have := h p (q - 1) h1 (by omega) (by omega) (by omega)
        omega
  · exact h p q h1 h2 (by omega) hqj
/-- The order of the places outside of [a, b) is kept. -/
def keptOff (l0 l : List Int) (a b : Nat) : Prop := ∀ p, (p < a ∨ b ≤ p) → l.getD p 0 = l0.getD p 0
theorem keptOff_refl (l : List Int) (a b : Nat) : keptOff l l a b := fun _ _ => rfl
theorem keptOff_swL {l0 l : List Int} {a b i j : Nat} (h : keptOff l0 l a b) (hi : i < l.length) (hj : j < l.length) (hne : i ≠ j) (ha : a ≤ i ∧ i < b) (hb : a ≤ j ∧ j < b) : keptOff l0 (swL l i j) a b := by
  intro p hp
  rw [swL_getD _ _ _ _ hi hj hne, if_neg (by omega), if_neg (by omega)]
  exact h p hp
/-- What a sort of the places from a up to b makes of a list. -/
structure SortP (key : Int → Int) (l0 l : List Int) (a b : Nat) : Prop where
  perm : l.Perm l0
  ord : ordOn key l a b
  off : keptOff l0 l a b
theorem SortP.len {l0 l : List Int} {a b : Nat} (h : SortP key l0 l a b) : l.length = l0.length := h.perm.length_eq
theorem ordOn_short {l : List Int} {a b : Nat} (h : b ≤ a + 1) : ordOn key l a b := fun p q h1 h2 h3 => by omega
theorem SortP.short {l : List Int} {a b : Nat} (h : b ≤ a + 1) : SortP key l l a b := ⟨List.Perm.refl _, ordOn_short h, keptOff_refl _ _ _⟩
/-- The one list in the key's order, where the keys differ. -/
theorem ord_unique {l m : List Int} (hl : ordOn key l 0 l.length) (hm : ordOn key m 0 m.length) (hp : l.Perm m) (hk : ∀ x ∈ l, ∀ y ∈ l, key x = key y → x = y) : l = m := by
  have pw : ∀ {l : List Int}, ordOn key l 0 l.length → l.Pairwise (fun a b => key a ≤ key b) := by
    intro l h
    rw [List.pairwise_iff_getElem]
    intro i j hi hj hij
    have := h i j (Nat.zero_le _) hij hj
    simpa [List.getD, hi, hj] using this
  refine List.Perm.eq_of_pairwise (le := fun a b => key a ≤ key b) ?_ (pw hl) (pw hm) hp
  intro a b ha hb h1 h2
  exact hk a ha b (hp.mem_iff.2 hb) (by omega)
end Go.Proofs.Ytiodolbgapjmkaa

namespace Go.Proofs.Ytiodolbgapjmkaa
open Go.RowKit
set_option maxRecDepth 100000
set_option linter.unusedVariables false
set_option linter.unusedSimpArgs false

/-- What the sort is told of the comparison: in every world that differs from w in block g alone it hands back cf x y, which is negative exactly if x's key is the lesser one. -/
structure CmpOk (w : World) (g L : Nat) (ca cb : Nat) (cf : Int → Int → Int) (key : Int → Int) : Prop where
  sign : ∀ x y : Int, 0 ≤ x → x < L → 0 ≤ y → y < L → (cf x y < 0 ↔ key x < key y)
  call : ∀ (W : World) (x y : Int), But w.heap.size g w W → 0 ≤ x → x < L → 0 ≤ y → y < L →
    Calls Try.prog 135 #[.int .i64 x, .int .i64 y, .pointer (some ⟨ca, 0, none⟩), .pointer (some ⟨cb, 0, none⟩)] W fun e w' => e = .returned (.int .i64 (cf x y)) ∧ Below W.heap.size W w'
/-- A list of numbers below L. -/
def belowL (L : Nat) (l : List Int) : Prop := ∀ x ∈ l, 0 ≤ x ∧ x < L
theorem belowL_getD {L : Nat} {l : List Int} (h : belowL L l) {p : Nat} (hp : p < l.length) : 0 ≤ l.getD p 0 ∧ l.getD p 0 < L := by
  refine h _ ?_
  rw [List.getD_eq_getElem?_getD, List.getElem?_eq_getElem hp]
  exact List.getElem_mem hp
theorem belowL_perm {L : Nat} {l m : List Int} (h : belowL L l) (hp : m.Perm l) : belowL L m := fun x hx => h x (hp.mem_iff.1 hx)
set_option maxHeartbeats 4000000 in
theorem insertionSort_c (w0 : World) (g L cap lo hi ca cb a b : Nat) (cf : Int → Int → Int) (key : Int → Int) (HK : CmpOk w0 g L ca cb cf key) (l0 : List Int) (w : World) (hw : But w0.heap.size g w0 w) (hg : g < w0.heap.size) (hL : l0.length = L) (hL21 : L ≤ 1000) (hbl : belowL L l0)
    (ho : OwnI w lo hi (.slice (some ⟨g, 0, none⟩) L cap) l0) (hhi : hi ≤ w0.heap.size) (hab : a ≤ b) (hb : b ≤ L) :
    Calls Try.prog 210 #[.slice (some ⟨g, 0, none⟩) L cap, .int .i64 a, .int .i64 b, .func (.func 135) #[] #[.pointer (some ⟨ca, 0, none⟩), .pointer (some ⟨cb, 0, none⟩)]] w
      fun e w' => e = .returned (.tuple #[]) ∧ ∃ l, SortP key l0 l a b ∧ OwnI w' lo hi (.slice (some ⟨g, 0, none⟩) L cap) l ∧ But w0.heap.size g w0 w' := by
  have HCO := Lib.hid HK
  have HO := Lib.hid ho
  have HW := Lib.hid hw
  have HBL := Lib.hid hbl
  have HL := Lib.hid hL
  have EG : Hid (∀ (args : Array Value) (w : World), (callFunc 135 args).run Try.prog w = .ok (.enter 135 args) w) := fun args w => by kernel_rfl
  clear HK ho hw hbl hL
  go_enter Try.func210, Try.ntmps210
  go_wp2_with fail
  go_loopw [8] (fun t wr => ∃ (i : Nat) (l : List Int), a + 1 ≤ i ∧ (i ≤ b ∨ (i = a + 1 ∧ l = l0)) ∧ t = .int .i64 i ∧ SortP key l0 l a i ∧ OwnI wr lo hi (.slice (some ⟨g, 0, none⟩) L cap) l ∧ But w0.heap.size g w0 wr) (fun t _ => b - (intOf t).toNat)
  case atStart => exact ⟨a + 1, l0, Nat.le_refl _, Or.inr ⟨rfl, rfl⟩, by go_num, SortP.short (Nat.le_refl _), HO.out, HW.out⟩
  case round =>
    obtain ⟨i, l, hi1, hi2, rfl, hs, ho, hw⟩ := hrel
    have HS := Lib.hid hs
    have HO1 := Lib.hid ho
    have HW1 := Lib.hid hw
    clear hs ho hw
    by_cases hlt : i < b
    · have hii : (i : Int) < (b : Int) := by omega
      go_wp2_with fail
      go_loopw [9] (fun t wr => ∃ (j : Nat) (l : List Int), a ≤ j ∧ j ≤ i ∧ t = .int .i64 j ∧ (l.Perm l0 ∧ insOn key l a i j ∧ keptOff l0 l a (i + 1)) ∧ OwnI wr lo hi (.slice (some ⟨g, 0, none⟩) L cap) l ∧ But w0.heap.size g w0 wr) (fun t _ => (intOf t).toNat)
      case atStart => exact ⟨i, l, by omega, Nat.le_refl _, rfl, ⟨HS.out.perm, ins_start HS.out.ord, fun p hp => HS.out.off p (by omega)⟩, HO1.out, HW1.out⟩
      case round =>
        obtain ⟨j, l2, hj1, hj2, rfl, ⟨hp2, hin2, hk2⟩, ho2, hw2⟩ := hrel
        have HP2 := Lib.hid hp2
        have HIN := Lib.hid hin2
        have HKO := Lib.hid hk2
        have HO2 := Lib.hid ho2
        have HW2 := Lib.hid hw2
        have hl2 : l2.length = L := by rw [hp2.length_eq]; exact HL.out
        have HL2 := Lib.hid hl2
        have hzw : w0.heap.size ≤ wr.heap.size := hw2.size
        clear hp2 hin2 hk2
        by_cases hja : j = a
        · have e1 : decide ((a : Int) < (j : Int)) = false := by rw [decide_eq_false_iff_not]; omega
          have e2 : decide (a < j) = false := decide_eq_false (by omega)
          have e3 : ¬ (a : Int) < (j : Int) := by omega
          have HS2 : Hid (SortP key l0 l2 a (i + 1)) := ⟨HP2.out, ins_end HIN.out hj1 hj2 (Or.inl hja), HKO.out⟩
          clear ho2 hw2 hja
          go_wp2_with fail
          refine wp_region_later wr.heap.size wr (by kernel_rfl) (by kernel_rfl) (Below.refl _ _) ?_
          have hLW := LW.cells (B := wr.heap.size) (w0 := wr)
          repeat (go_big_quiet_step (fail))
          refine wpQuiet_nil ?_
          rintro w2 ⟨⟨w2s, hb2⟩, rfl⟩
          clear hLW
          have HO3 : Hid (OwnI w2 lo hi (.slice (some ⟨g, 0, none⟩) L cap) l2) := Own.below HO2.out hb2 (by omega)
          have HW3 : Hid (But w0.heap.size g w0 w2) := HW2.out.trans (But.of_below hb2 (by omega) (by omega))
          go_wp2_with fail
          go_roundw
          case rel => exact ⟨i + 1, l2, by omega, Or.inl (by omega), by go_num, HS2.out, HO3.out, HW3.out⟩
          case measure => simp [intOf]; omega
        · have hja2 : a < j := by omega
          have e1 : decide ((a : Int) < (j : Int)) = true := by rw [decide_eq_true_eq]; omega
          have e2 : decide (a < j) = true := decide_eq_true (by omega)
          have e3 : (a : Int) < (j : Int) := by omega
          obtain ⟨c1, f1, hgw⟩ := ho2.cellAt j (by omega)
          obtain ⟨c2, f2, -⟩ := ho2.cellAt (j - 1) (by omega)
          have hbx := belowL_getD (belowL_perm HBL.out HP2.out) (p := j) (by omega)
          have hby := belowL_getD (belowL_perm HBL.out HP2.out) (p := j - 1) (by omega)
          obtain ⟨x, hx⟩ : ∃ x, x = l2.getD j 0 := ⟨_, rfl⟩
          obtain ⟨y, hy⟩ : ∃ y, y = l2.getD (j - 1) 0 := ⟨_, rfl⟩
          rw [← hx] at c1 hbx
          rw [← hy] at c2 hby
          have HX := Lib.hid hx
          have HY := Lib.hid hy
          have hj1i : (j : Int) - 1 = ((j - 1 : Nat) : Int) := by omega
          have hwj : IntKind.i64.wrap ((j - 1 : Nat) : Int) = ((j - 1 : Nat) : Int) := by rw [IntKind.wrap_i64]; omega
          have hjl : (j : Int) < (L : Int) := by omega
          have hjl2 : ((j - 1 : Nat) : Int) < (L : Int) := by omega
          have hSG := HCO.out.sign x y hbx.1 hbx.2 hby.1 hby.2
          have HCL : Hid (∀ W, Below wr.heap.size wr W → Calls Try.prog 135 #[.int .i64 x, .int .i64 y, .pointer (some ⟨ca, 0, none⟩), .pointer (some ⟨cb, 0, none⟩)] W fun e w' => e = .returned (.int .i64 (cf x y)) ∧ Below W.heap.size W w') := fun W hb => HCO.out.call W x y (HW2.out.trans (But.of_below hb (by omega) (by omega))) hbx.1 hbx.2 hby.1 hby.2
          obtain ⟨c, hc⟩ : ∃ c, c = cf x y := ⟨_, rfl⟩
          rw [← hc] at hSG HCL
          clear ho2 hw2 hx hy hc hja hbx hby
          by_cases hc : c < 0
          · have hkl : key x < key y := hSG.1 hc
            have HIN2 : Hid (insOn key (swL l2 j (j - 1)) a i (j - 1)) := ins_step HIN.out hja2 hj2 (by omega) (by rw [← HX.out, ← HY.out]; exact hkl)
            have HKO2 : Hid (keptOff l0 (swL l2 j (j - 1)) a (i + 1)) := keptOff_swL HKO.out (by omega) (by omega) (by omega) ⟨by omega, by omega⟩ ⟨by omega, by omega⟩
            have HP3 : Hid ((swL l2 j (j - 1)).Perm l0) := (swL_perm l2 j (j - 1) (by omega) (by omega) (by omega)).trans HP2.out
            have HSW : Hid (swL l2 j (j - 1) = (l2.set j y).set (j - 1) x) := by show _ = _; rw [HX.out, HY.out]; rfl
            clear hSG hkl
            go_wp2_with fail
            refine wp_region_later wr.heap.size wr (by kernel_rfl) (by kernel_rfl) (Below.refl _ _) ?_
            have hLW := LW.cells (B := wr.heap.size) (w0 := wr)
            repeat (go_big_quiet_step ((go_at_call 135; refine LW.call (Nat.le_refl _) (HCL.out _ (LW.h _)))))
            refine wpQuiet_nil ?_
            rintro w2 ⟨⟨w2s, hb2⟩, rfl⟩
            clear hLW
            have hz2 := hb2.size
            have f3 := (hb2.cell (p := ⟨g, j, none⟩) hgw).trans c1
            have f4 := (hb2.cell (p := ⟨g, j - 1, none⟩) hgw).trans c2
            have f5 := (hb2.frozen (p := ⟨g, j, none⟩) hgw).trans f1
            have f6 := (hb2.frozen (p := ⟨g, j - 1, none⟩) hgw).trans f2
            have HO3 : Hid (OwnI w2 lo hi (.slice (some ⟨g, 0, none⟩) L cap) l2) := Own.below HO2.out hb2 (by omega)
            have HW3 : Hid (But w0.heap.size g w0 w2) := HW2.out.trans (But.of_below hb2 (by omega) (by omega))
            clear c1 c2 f1 f2 hb2
            go_wp2_with fail
            refine wpV_start (S := fun W' : World => W'.cell? ⟨g, j, none⟩ = some (.int .i64 x) ∧ W'.cell? ⟨g, j - 1, none⟩ = some (.int .i64 y)) (m := 15) (S2 := fun _ : World => True) (m2 := 17) (by kernel_rfl) ?_
            have hHeld : (fun W' : World => W'.cell? ⟨g, j, none⟩ = some (.int .i64 x) ∧ W'.cell? ⟨g, j - 1, none⟩ = some (.int .i64 y)) w2.drew ∧ (fun _ : World => True) w2.drew := ⟨⟨f3, f4⟩, trivial⟩
            refine wpV_take (i := 0) (v := ?_) rfl (by kernel_rfl) (fun _ _ _ h => h) ⟨by rfl, ?_⟩ hHeld ?_
            rotate_left
            · (intro w hSw; (try dsimp only at hSw); go_simp; try with_reducible rfl)
            try simp only [Act.put, List.setIfInBounds_toArray, List.set_cons_zero, List.set_cons_succ]
            refine wpV_take (i := 1) (v := ?_) rfl (by kernel_rfl) (fun _ _ _ h => h) ⟨by rfl, ?_⟩ hHeld ?_
            rotate_left
            · (intro w hSw; (try dsimp only at hSw); go_simp; try with_reducible rfl)
            try simp only [Act.put, List.setIfInBounds_toArray, List.set_cons_zero, List.set_cons_succ]
            refine wpV_swap ?_
            refine wpV_take (i := 2) (v := ?_) rfl (by kernel_rfl) (fun _ _ _ h => h) ⟨by rfl, ?_⟩ hHeld.symm ?_
            rotate_left
            · (intro w hSw; (try dsimp only at hSw); go_simp; try with_reducible rfl)
            try simp only [Act.put, List.setIfInBounds_toArray, List.set_cons_zero, List.set_cons_succ]
            refine wpV_take (i := 3) (v := ?_) rfl (by kernel_rfl) (fun _ _ _ h => h) ⟨by rfl, ?_⟩ hHeld.symm ?_
            rotate_left
            · (intro w hSw; (try dsimp only at hSw); go_simp; try with_reducible rfl)
            try simp only [Act.put, List.setIfInBounds_toArray, List.set_cons_zero, List.set_cons_succ]
            refine wpV_take (i := 4) (v := ?_) rfl (by kernel_rfl) (fun _ _ _ h => h) ⟨by rfl, ?_⟩ hHeld.symm ?_
            rotate_left
            · (intro w hSw; (try dsimp only at hSw); go_simp; try with_reducible rfl)
            try simp only [Act.put, List.setIfInBounds_toArray, List.set_cons_zero, List.set_cons_succ]
            refine wpV_swap ?_
            refine wpV_take (i := 5) (v := ?_) rfl (by kernel_rfl) (fun _ _ _ h => h) ⟨by rfl, ?_⟩ hHeld ?_
            rotate_left
            · (intro w hSw; (try dsimp only at hSw); go_simp; try with_reducible rfl)
            try simp only [Act.put, List.setIfInBounds_toArray, List.set_cons_zero, List.set_cons_succ]
            refine wpV_take (i := 6) (v := ?_) rfl (by kernel_rfl) (fun _ _ _ h => h) ⟨by rfl, ?_⟩ hHeld ?_
            rotate_left
            · (intro w hSw; (try dsimp only at hSw); go_simp; try with_reducible rfl)
            try simp only [Act.put, List.setIfInBounds_toArray, List.set_cons_zero, List.set_cons_succ]
            refine wpV_take (i := 7) (v := ?_) rfl (by kernel_rfl) (fun _ _ _ h => h) ⟨by rfl, ?_⟩ hHeld ?_
            rotate_left
            · (intro w hSw; (try dsimp only at hSw); go_simp; try with_reducible rfl)
            try simp only [Act.put, List.setIfInBounds_toArray, List.set_cons_zero, List.set_cons_succ]
            refine wpV_take (i := 8) (v := ?_) rfl (by kernel_rfl) (fun _ _ _ h => h) ⟨by rfl, ?_⟩ hHeld ?_
            rotate_left
            · (intro w hSw; (try dsimp only at hSw); go_simp; try with_reducible rfl)
            try simp only [Act.put, List.setIfInBounds_toArray, List.set_cons_zero, List.set_cons_succ]
            refine wpV_take (i := 9) (v := ?_) rfl (by kernel_rfl) (fun _ _ _ h => h) ⟨by rfl, ?_⟩ hHeld ?_
            rotate_left
            · (intro w hSw; (try dsimp only at hSw); go_simp; try with_reducible rfl)
            try simp only [Act.put, List.setIfInBounds_toArray, List.set_cons_zero, List.set_cons_succ]
            refine wpV_swap ?_
            refine wpV_take (i := 10) (v := ?_) rfl (by kernel_rfl) (fun _ _ _ h => h) ⟨by rfl, ?_⟩ hHeld.symm ?_
            rotate_left
            · (intro w hSw; (try dsimp only at hSw); go_simp; try with_reducible rfl)
            try simp only [Act.put, List.setIfInBounds_toArray, List.set_cons_zero, List.set_cons_succ]
            refine wpV_take (i := 11) (v := ?_) rfl (by kernel_rfl) (fun _ _ _ h => h) ⟨by rfl, ?_⟩ hHeld.symm ?_
            rotate_left
            · (intro w hSw; (try dsimp only at hSw); go_simp; try with_reducible rfl)
            try simp only [Act.put, List.setIfInBounds_toArray, List.set_cons_zero, List.set_cons_succ]
            refine wpV_take (i := 12) (v := ?_) rfl (by kernel_rfl) (fun _ _ _ h => h) ⟨by rfl, ?_⟩ hHeld.symm ?_
            rotate_left
            · (intro w hSw; (try dsimp only at hSw); go_simp; try with_reducible rfl)
            try simp only [Act.put, List.setIfInBounds_toArray, List.set_cons_zero, List.set_cons_succ]
            refine wpV_swap ?_
            refine wpV_take (i := 13) (v := ?_) rfl (by kernel_rfl) (fun _ _ _ h => h) ⟨by rfl, ?_⟩ hHeld ?_
            rotate_left
            · (intro w hSw; (try dsimp only at hSw); go_simp; try with_reducible rfl)
            try simp only [Act.put, List.setIfInBounds_toArray, List.set_cons_zero, List.set_cons_succ]
            refine wpV_take (i := 14) (v := ?_) rfl (by kernel_rfl) (fun _ _ _ h => h) ⟨by rfl, ?_⟩ hHeld ?_
            rotate_left
            · (intro w hSw; (try dsimp only at hSw); go_simp; try with_reducible rfl)
            try simp only [Act.put, List.setIfInBounds_toArray, List.set_cons_zero, List.set_cons_succ]
            refine wpV_one (by kernel_rfl) rfl (fun K hK => ?_)
            go_simp
            refine hK.out _ _ (trivial) ?_
            clear hK K
            try simp only [Act.put, List.setIfInBounds_toArray, List.set_cons_zero, List.set_cons_succ]
            refine wpV_next (i := 16) (by kernel_rfl) rfl (by kernel_rfl) (fun K hK => ?_)
            go_simp
            refine hK.out _ _ (.inr (trivial)) ?_
            clear hK K
            try simp only [Act.put, List.setIfInBounds_toArray, List.set_cons_zero, List.set_cons_succ]
            refine wpV_next (i := 17) (by kernel_rfl) rfl (by kernel_rfl) (fun K hK => ?_)
            go_simp
            refine hK.out _ _ (.inl rfl) ?_
            clear hK K
            try simp only [Act.put, List.setIfInBounds_toArray, List.set_cons_zero, List.set_cons_succ]
            refine wpV_done (by kernel_rfl) ?_ _
            obtain ⟨W6, hW6⟩ : ∃ W, W = ((w2.setCell ⟨g, j, none⟩ (.int .i64 y)).setCell ⟨g, j - 1, none⟩ (.int .i64 x)).drew := ⟨_, rfl⟩
            have HO6 : Hid (OwnI W6 lo hi (.slice (some ⟨g, 0, none⟩) L cap) (swL l2 j (j - 1))) := by
              show OwnI _ _ _ _ _
              rw [hW6, HSW.out]
              exact (OwnI.store (Own.kept (w' := w2.drew) HO3.out fun _ _ _ _ => rfl) HL2.out.symm j y).store (by rw [List.length_set]; exact HL2.out.symm) (j - 1) x
            have HW6 : Hid (But w0.heap.size g w0 W6) := by
              show But _ _ _ _
              rw [hW6]
              have e9 : ((w2.setCell ⟨g, j, none⟩ (.int .i64 y)).setCell ⟨g, j - 1, none⟩ (.int .i64 x)).heap.size = w2.heap.size := by simp [World.setCell]
              exact (HW3.out.trans (But.set _ g j w2 _)).trans ((But.set _ g (j - 1) _ _).trans (But.of_below ((Below.refl w0.heap.size _).drew) (by omega) (Nat.le_refl _)))
            try rw [← hW6]
            clear hW6
            go_wp2_with fail
            go_roundw
            case rel => exact ⟨j - 1, swL l2 j (j - 1), by omega, by omega, by go_num, ⟨HP3.out, HIN2.out, HKO2.out⟩, HO6.out, HW6.out⟩
            case measure => simp [intOf]; omega
          · have HS2 : Hid (SortP key l0 l2 a (i + 1)) := ⟨HP2.out, ins_end HIN.out hj1 hj2 (Or.inr (by rw [← HX.out, ← HY.out]; exact fun h => hc (hSG.2 h))), HKO.out⟩
            clear hSG
            go_wp2_with fail
            refine wp_region_later wr.heap.size wr (by kernel_rfl) (by kernel_rfl) (Below.refl _ _) ?_
            have hLW := LW.cells (B := wr.heap.size) (w0 := wr)
            repeat (go_big_quiet_step ((go_at_call 135; refine LW.call (Nat.le_refl _) (HCL.out _ (LW.h _)))))
            refine wpQuiet_nil ?_
            rintro w2 ⟨⟨w2s, hb2⟩, rfl⟩
            clear hLW
            have HO3 : Hid (OwnI w2 lo hi (.slice (some ⟨g, 0, none⟩) L cap) l2) := Own.below HO2.out hb2 (by omega)
            have HW3 : Hid (But w0.heap.size g w0 w2) := HW2.out.trans (But.of_below hb2 (by omega) (by omega))
            clear c1 c2 f1 f2 hb2
            go_wp2_with fail
            go_roundw
            case rel => exact ⟨i + 1, l2, by omega, Or.inl (by omega), by go_num, HS2.out, HO3.out, HW3.out⟩
            case measure => simp [intOf]; omega
    · have hii : ¬ (i : Int) < (b : Int) := by omega
      have HSF : Hid (SortP key l0 l a b) := by
        show SortP _ _ _ _ _
        by_cases h : i = b
        · rw [← h]; exact HS.out
        · rcases hi2 with h2 | ⟨h2, h3⟩
          · omega
          · rw [h3]; exact SortP.short (by omega)
      go_wp2
      go_end0
      exact ⟨rfl, l, HSF.out, HO1.out, HW1.out⟩
set_option maxHeartbeats 4000000 in
theorem symMerge_c (w0 : World) (g L cap lo hi ca cb a m : Nat) (cf : Int → Int → Int) (key : Int → Int) (HK : CmpOk w0 g L ca cb cf key) (l0 : List Int) (w : World) (hw : But w0.heap.size g w0 w) (hg : g < w0.heap.size) (hL : l0.length = L) (hL21 : L ≤ 1000) (hbl : belowL L l0)
    (ho : OwnI w lo hi (.slice (some ⟨g, 0, none⟩) L cap) l0) (hhi : hi ≤ w0.heap.size) (hab : a + 1 < m) (hmL : m < L) (hord : ordOn key l0 a m) :
    Calls Try.prog 211 #[.slice (some ⟨g, 0, none⟩) L cap, .int .i64 a, .int .i64 m, .int .i64 ((m : Int) + 1), .func (.func 135) #[] #[.pointer (some ⟨ca, 0, none⟩), .pointer (some ⟨cb, 0, none⟩)]] w
      fun e w' => e = .returned (.tuple #[]) ∧ ∃ l, SortP key l0 l a (m + 1) ∧ OwnI w' lo hi (.slice (some ⟨g, 0, none⟩) L cap) l ∧ But w0.heap.size g w0 w' := by
  have HCO := Lib.hid HK
  have HO := Lib.hid ho
  have HW := Lib.hid hw
  have HBL := Lib.hid hbl
  have HL := Lib.hid hL
  have HORD := Lib.hid hord
  have EG : Hid (∀ (args : Array Value) (w : World), (callFunc 135 args).run Try.prog w = .ok (.enter 135 args) w) := fun args w => by kernel_rfl
  have t1 : ((m : Int) - (a : Int) == 1) = false := by simp; omega
  have t2 : ((m : Int) + 1 - (m : Int) == 1) = true := by simp; omega
  have t3 : (m : Int) + 1 - (m : Int) = 1 := by omega
  have hzw0 : w0.heap.size ≤ w.heap.size := hw.size
  clear HK ho hw hbl hL hord
  go_enter Try.func211, Try.ntmps211
  go_wp2_with fail
  go_loopw [14, 15] (fun iv jv wr => ∃ i j : Nat, a ≤ i ∧ i ≤ j ∧ j ≤ m ∧ iv = .int .i64 i ∧ jv = .int .i64 j ∧ (∀ p, a ≤ p → p < i → key (l0.getD p 0) ≤ key (l0.getD m 0)) ∧ (∀ p, j ≤ p → p < m → key (l0.getD m 0) < key (l0.getD p 0)) ∧ Below w.heap.size w wr) (fun iv jv _ => (intOf jv).toNat - (intOf iv).toNat)
  case atStart => exact ⟨a, m, Nat.le_refl _, by omega, Nat.le_refl _, rfl, rfl, fun p h1 h2 => by omega, fun p h1 h2 => by omega, Below.refl _ _⟩
  case round =>
    obtain ⟨i, j, hai, hij, hjm, rfl, rfl, hlo, hhi2, hb⟩ := hrel
    have HLO := Lib.hid hlo
    have HHI := Lib.hid hhi2
    have HB := Lib.hid hb
    have HW1 : Hid (But w0.heap.size g w0 wr) := HW.out.trans (But.of_below hb (by omega) (by omega))
    have HO1 : Hid (OwnI wr lo hi (.slice (some ⟨g, 0, none⟩) L cap) l0) := Own.below HO.out hb (by omega)
    have hzr := hb.size
    clear hlo hhi2 hb
    by_cases hlt : i < j
    · have hii : (i : Int) < (j : Int) := by omega
      obtain ⟨h, hh⟩ : ∃ h, h = (i + j) / 2 := ⟨_, rfl⟩
      have hh1 : i ≤ h := by omega
      have hh2 : h < j := by omega
      have hdiv : ((i : Int) + (j : Int)) / 2 = (h : Int) := by omega
      obtain ⟨c1, f1, hgw⟩ := HO1.out.cellAt m (by rw [HL.out]; exact hmL)
      obtain ⟨c2, f2, -⟩ := HO1.out.cellAt h (by rw [HL.out]; omega)
      have hmi : (m : Int) < (L : Int) := by omega
      have hhi3 : (h : Int) < (L : Int) := by omega
      clear hh
      have hbx := belowL_getD HBL.out (p := m) (by rw [HL.out]; exact hmL)
      have hby := belowL_getD HBL.out (p := h) (by rw [HL.out]; omega)
      obtain ⟨x, hx⟩ : ∃ x, x = l0.getD m 0 := ⟨_, rfl⟩
      obtain ⟨y, hy⟩ : ∃ y, y = l0.getD h 0 := ⟨_, rfl⟩
      rw [← hx] at c1 hbx
      rw [← hy] at c2 hby
      have HX := Lib.hid hx
      have HY := Lib.hid hy
      have hSG := HCO.out.sign x y hbx.1 hbx.2 hby.1 hby.2
      have HCL : Hid (∀ W, Below wr.heap.size wr W → Calls Try.prog 135 #[.int .i64 x, .int .i64 y, .pointer (some ⟨ca, 0, none⟩), .pointer (some ⟨cb, 0, none⟩)] W fun e w' => e = .returned (.int .i64 (cf x y)) ∧ Below W.heap.size W w') := fun W hb => HCO.out.call W x y (HW1.out.trans (But.of_below hb (by omega) (by omega))) hbx.1 hbx.2 hby.1 hby.2
      obtain ⟨c, hc⟩ : ∃ c, c = cf x y := ⟨_, rfl⟩
      rw [← hc] at hSG HCL
      clear hx hy hc hbx hby
      by_cases hc : c < 0
      · have hhi4 : ∀ p, h ≤ p → p < m → key (l0.getD m 0) < key (l0.getD p 0) := by
          intro p h1 h2
          have k1 : key (l0.getD m 0) < key (l0.getD h 0) := by rw [← HX.out, ← HY.out]; exact hSG.1 hc
          by_cases hp : p = h
          · rw [hp]; exact k1
          · have := HORD.out h p (by omega) (by omega) h2
            omega
        have HHI4 := Lib.hid hhi4
        have hcd : decide (c < 0) = true := decide_eq_true hc
        clear hSG hhi4
        go_wp2_with fail
        refine wp_region_later wr.heap.size wr (by kernel_rfl) (by kernel_rfl) (Below.refl _ _) ?_
        have hLW := LW.cells (B := wr.heap.size) (w0 := wr)
        repeat (go_big_quiet_step ((go_at_call 135; refine LW.call (Nat.le_refl _) (HCL.out _ (LW.h _)))))
        refine wpQuiet_nil ?_
        rintro w2 ⟨⟨w2s, hb2⟩, rfl⟩
        clear hLW
        have HB3 : Hid (Below w.heap.size w w2) := HB.out.trans (hb2.mono (by omega))
        clear c1 c2 f1 f2 hb2
        go_wp2_with fail
        go_roundw
        case rel => exact ⟨i, h, hai, by omega, by omega, rfl, by go_num, HLO.out, HHI4.out, HB3.out⟩
        case measure => simp [intOf]; omega
      · have hlo4 : ∀ p, a ≤ p → p < h + 1 → key (l0.getD p 0) ≤ key (l0.getD m 0) := by
          intro p h1 h2
          have k1 : ¬ key (l0.getD m 0) < key (l0.getD h 0) := by rw [← HX.out, ← HY.out]; exact fun k => hc (hSG.2 k)
          by_cases hp : p = h
          · rw [hp]; omega
          · have := HORD.out p h (by omega) (by omega) (by omega)
            omega
        have HLO4 := Lib.hid hlo4
        have hcd : decide (c < 0) = false := decide_eq_false hc
        clear hSG hlo4
        go_wp2_with fail
        refine wp_region_later wr.heap.size wr (by kernel_rfl) (by kernel_rfl) (Below.refl _ _) ?_
        have hLW := LW.cells (B := wr.heap.size) (w0 := wr)
        repeat (go_big_quiet_step ((go_at_call 135; refine LW.call (Nat.le_refl _) (HCL.out _ (LW.h _)))))
        refine wpQuiet_nil ?_
        rintro w2 ⟨⟨w2s, hb2⟩, rfl⟩
        clear hLW
        have HB3 : Hid (Below w.heap.size w w2) := HB.out.trans (hb2.mono (by omega))
        clear c1 c2 f1 f2 hb2
        go_wp2_with fail
        go_roundw
        case rel => exact ⟨h + 1, j, by omega, by omega, by omega, by go_num, rfl, HLO4.out, HHI.out, HB3.out⟩
        case measure => simp [intOf]; omega
    · have hii : ¬ (i : Int) < (j : Int) := by omega
      have hjie : j = i := by omega
      subst hjie
      go_wp2_with fail
      go_loopw [17] (fun kv wr => ∃ (k : Nat) (l : List Int), j ≤ k ∧ k ≤ m ∧ kv = .int .i64 k ∧ (l.Perm l0 ∧ insOn key l a m k ∧ keptOff l0 l a (m + 1) ∧ (∀ p, p < k → l.getD p 0 = l0.getD p 0) ∧ l.getD k 0 = l0.getD m 0) ∧ OwnI wr lo hi (.slice (some ⟨g, 0, none⟩) L cap) l ∧ But w0.heap.size g w0 wr) (fun kv _ => (intOf kv).toNat)
      case atStart => exact ⟨m, l0, hjm, Nat.le_refl _, rfl, ⟨List.Perm.refl _, ins_start HORD.out, keptOff_refl _ _ _, fun _ _ => rfl, rfl⟩, HO1.out, HW1.out⟩
      case round =>
        obtain ⟨k, l2, hik, hkm, rfl, ⟨hp2, hin2, hk2, hun, hkx⟩, ho2, hw2⟩ := hrel
        have HP2 := Lib.hid hp2
        have HIN := Lib.hid hin2
        have HKO := Lib.hid hk2
        have HUN := Lib.hid hun
        have HKX := Lib.hid hkx
        have HO2 := Lib.hid ho2
        have HW2 := Lib.hid hw2
        have hl2 : l2.length = L := by rw [hp2.length_eq]; exact HL.out
        have HL2 := Lib.hid hl2
        have hzw : w0.heap.size ≤ wr.heap.size := hw2.size
        clear hp2 hin2 hk2 hun hkx
        by_cases hja : j < k
        · have e3 : (j : Int) < (k : Int) := by omega
          obtain ⟨c1, f1, hgw⟩ := ho2.cellAt k (by omega)
          obtain ⟨c2, f2, -⟩ := ho2.cellAt (k - 1) (by omega)
          have hkl : key (l2.getD k 0) < key (l2.getD (k - 1) 0) := by
            rw [HKX.out, HUN.out (k - 1) (by omega)]
            exact HHI.out (k - 1) (by omega) (by omega)
          obtain ⟨x, hx⟩ : ∃ x, x = l2.getD k 0 := ⟨_, rfl⟩
          obtain ⟨y, hy⟩ : ∃ y, y = l2.getD (k - 1) 0 := ⟨_, rfl⟩
          have HIN2 : Hid (insOn key (swL l2 k (k - 1)) a m (k - 1)) := ins_step HIN.out (by omega) (by omega) (by omega) hkl
          have HKO2 : Hid (keptOff l0 (swL l2 k (k - 1)) a (m + 1)) := keptOff_swL HKO.out (by omega) (by omega) (by omega) ⟨by omega, by omega⟩ ⟨by omega, by omega⟩
          have HP3 : Hid ((swL l2 k (k - 1)).Perm l0) := (swL_perm l2 k (k - 1) (by omega) (by omega) (by omega)).trans HP2.out
          have HUN2 : Hid (∀ p, p < k - 1 → (swL l2 k (k - 1)).getD p 0 = l0.getD p 0) := fun p hp => by
            rw [swL_getD _ _ _ _ (by omega) (by omega) (by omega), if_neg (by omega), if_neg (by omega)]
            exact HUN.out p (by omega)
          have HKX2 : Hid ((swL l2 k (k - 1)).getD (k - 1) 0 = l0.getD m 0) := by
            show _ = _
            rw [swL_getD _ _ _ _ (by omega) (by omega) (by omega), if_neg (by omega), if_pos rfl]
            exact HKX.out
          rw [← hx] at c1
          rw [← hy] at c2
          have HX := Lib.hid hx
          have HY := Lib.hid hy
          have HSW : Hid (swL l2 k (k - 1) = (l2.set k y).set (k - 1) x) := by show _ = _; rw [HX.out, HY.out]; rfl
          have hj1i : (k : Int) - 1 = ((k - 1 : Nat) : Int) := by omega
          have hwj : IntKind.i64.wrap ((k - 1 : Nat) : Int) = ((k - 1 : Nat) : Int) := by rw [IntKind.wrap_i64]; omega
          have hjl : (k : Int) < (L : Int) := by omega
          have hjl2 : ((k - 1 : Nat) : Int) < (L : Int) := by omega
          clear ho2 hw2 hx hy hkl
          go_wp2_with fail
          refine wpV_start (S := fun W' : World => W'.cell? ⟨g, k, none⟩ = some (.int .i64 x) ∧ W'.cell? ⟨g, k - 1, none⟩ = some (.int .i64 y)) (m := 15) (S2 := fun _ : World => True) (m2 := 17) (by kernel_rfl) ?_
          have hHeld : (fun W' : World => W'.cell? ⟨g, k, none⟩ = some (.int .i64 x) ∧ W'.cell? ⟨g, k - 1, none⟩ = some (.int .i64 y)) wr.drew ∧ (fun _ : World => True) wr.drew := ⟨⟨c1, c2⟩, trivial⟩
          refine wpV_take (i := 0) (v := ?_) rfl (by kernel_rfl) (fun _ _ _ h => h) ⟨by rfl, ?_⟩ hHeld ?_
          rotate_left
          · (intro w hSw; (try dsimp only at hSw); go_simp; try with_reducible rfl)
          try simp only [Act.put, List.setIfInBounds_toArray, List.set_cons_zero, List.set_cons_succ]
          refine wpV_take (i := 1) (v := ?_) rfl (by kernel_rfl) (fun _ _ _ h => h) ⟨by rfl, ?_⟩ hHeld ?_
          rotate_left
          · (intro w hSw; (try dsimp only at hSw); go_simp; try with_reducible rfl)
          try simp only [Act.put, List.setIfInBounds_toArray, List.set_cons_zero, List.set_cons_succ]
          refine wpV_swap ?_
          refine wpV_take (i := 2) (v := ?_) rfl (by kernel_rfl) (fun _ _ _ h => h) ⟨by rfl, ?_⟩ hHeld.symm ?_
          rotate_left
          · (intro w hSw; (try dsimp only at hSw); go_simp; try with_reducible rfl)
          try simp only [Act.put, List.setIfInBounds_toArray, List.set_cons_zero, List.set_cons_succ]
          refine wpV_take (i := 3) (v := ?_) rfl (by kernel_rfl) (fun _ _ _ h => h) ⟨by rfl, ?_⟩ hHeld.symm ?_
          rotate_left
          · (intro w hSw; (try dsimp only at hSw); go_simp; try with_reducible rfl)
          try simp only [Act.put, List.setIfInBounds_toArray, List.set_cons_zero, List.set_cons_succ]
          refine wpV_take (i := 4) (v := ?_) rfl (by kernel_rfl) (fun _ _ _ h => h) ⟨by rfl, ?_⟩ hHeld.symm ?_
          rotate_left
          · (intro w hSw; (try dsimp only at hSw); go_simp; try with_reducible rfl)
          try simp only [Act.put, List.setIfInBounds_toArray, List.set_cons_zero, List.set_cons_succ]
          refine wpV_swap ?_
          refine wpV_take (i := 5) (v := ?_) rfl (by kernel_rfl) (fun _ _ _ h => h) ⟨by rfl, ?_⟩ hHeld ?_
          rotate_left
          · (intro w hSw; (try dsimp only at hSw); go_simp; try with_reducible rfl)
          try simp only [Act.put, List.setIfInBounds_toArray, List.set_cons_zero, List.set_cons_succ]
          refine wpV_take (i := 6) (v := ?_) rfl (by kernel_rfl) (fun _ _ _ h => h) ⟨by rfl, ?_⟩ hHeld ?_
          rotate_left
          · (intro w hSw; (try dsimp only at hSw); go_simp; try with_reducible rfl)
          try simp only [Act.put, List.setIfInBounds_toArray, List.set_cons_zero, List.set_cons_succ]
          refine wpV_take (i := 7) (v := ?_) rfl (by kernel_rfl) (fun _ _ _ h => h) ⟨by rfl, ?_⟩ hHeld ?_
          rotate_left
          · (intro w hSw; (try dsimp only at hSw); go_simp; try with_reducible rfl)
          try simp only [Act.put, List.setIfInBounds_toArray, List.set_cons_zero, List.set_cons_succ]
          refine wpV_take (i := 8) (v := ?_) rfl (by kernel_rfl) (fun _ _ _ h => h) ⟨by rfl, ?_⟩ hHeld ?_
          rotate_left
          · (intro w hSw; (try dsimp only at hSw); go_simp; try with_reducible rfl)
          try simp only [Act.put, List.setIfInBounds_toArray, List.set_cons_zero, List.set_cons_succ]
          refine wpV_take (i := 9) (v := ?_) rfl (by kernel_rfl) (fun _ _ _ h => h) ⟨by rfl, ?_⟩ hHeld ?_
          rotate_left
          · (intro w hSw; (try dsimp only at hSw); go_simp; try with_reducible rfl)
          try simp only [Act.put, List.setIfInBounds_toArray, List.set_cons_zero, List.set_cons_succ]
          refine wpV_swap ?_
          refine wpV_take (i := 10) (v := ?_) rfl (by kernel_rfl) (fun _ _ _ h => h) ⟨by rfl, ?_⟩ hHeld.symm ?_
          rotate_left
          · (intro w hSw; (try dsimp only at hSw); go_simp; try with_reducible rfl)
          try simp only [Act.put, List.setIfInBounds_toArray, List.set_cons_zero, List.set_cons_succ]
          refine wpV_take (i := 11) (v := ?_) rfl (by kernel_rfl) (fun _ _ _ h => h) ⟨by rfl, ?_⟩ hHeld.symm ?_
          rotate_left
          · (intro w hSw; (try dsimp only at hSw); go_simp; try with_reducible rfl)
          try simp only [Act.put, List.setIfInBounds_toArray, List.set_cons_zero, List.set_cons_succ]
          refine wpV_take (i := 12) (v := ?_) rfl (by kernel_rfl) (fun _ _ _ h => h) ⟨by rfl, ?_⟩ hHeld.symm ?_
          rotate_left
          · (intro w hSw; (try dsimp only at hSw); go_simp; try with_reducible rfl)
          try simp only [Act.put, List.setIfInBounds_toArray, List.set_cons_zero, List.set_cons_succ]
          refine wpV_swap ?_
          refine wpV_take (i := 13) (v := ?_) rfl (by kernel_rfl) (fun _ _ _ h => h) ⟨by rfl, ?_⟩ hHeld ?_
          rotate_left
          · (intro w hSw; (try dsimp only at hSw); go_simp; try with_reducible rfl)
          try simp only [Act.put, List.setIfInBounds_toArray, List.set_cons_zero, List.set_cons_succ]
          refine wpV_take (i := 14) (v := ?_) rfl (by kernel_rfl) (fun _ _ _ h => h) ⟨by rfl, ?_⟩ hHeld ?_
          rotate_left
          · (intro w hSw; (try dsimp only at hSw); go_simp; try with_reducible rfl)
          try simp only [Act.put, List.setIfInBounds_toArray, List.set_cons_zero, List.set_cons_succ]
          refine wpV_one (by kernel_rfl) rfl (fun K hK => ?_)
          go_simp
          refine hK.out _ _ (trivial) ?_
          clear hK K
          try simp only [Act.put, List.setIfInBounds_toArray, List.set_cons_zero, List.set_cons_succ]
          refine wpV_next (i := 16) (by kernel_rfl) rfl (by kernel_rfl) (fun K hK => ?_)
          go_simp
          refine hK.out _ _ (.inr (trivial)) ?_
          clear hK K
          try simp only [Act.put, List.setIfInBounds_toArray, List.set_cons_zero, List.set_cons_succ]
          refine wpV_next (i := 17) (by kernel_rfl) rfl (by kernel_rfl) (fun K hK => ?_)
          go_simp
          refine hK.out _ _ (.inl rfl) ?_
          clear hK K
          try simp only [Act.put, List.setIfInBounds_toArray, List.set_cons_zero, List.set_cons_succ]
          refine wpV_done (by kernel_rfl) ?_ _
          obtain ⟨W6, hW6⟩ : ∃ W, W = ((wr.setCell ⟨g, k, none⟩ (.int .i64 y)).setCell ⟨g, k - 1, none⟩ (.int .i64 x)).drew := ⟨_, rfl⟩
          have HO6 : Hid (OwnI W6 lo hi (.slice (some ⟨g, 0, none⟩) L cap) (swL l2 k (k - 1))) := by
            show OwnI _ _ _ _ _
            rw [hW6, HSW.out]
            exact (OwnI.store (Own.kept (w' := wr.drew) HO2.out fun _ _ _ _ => rfl) HL2.out.symm k y).store (by rw [List.length_set]; exact HL2.out.symm) (k - 1) x
          have HW6 : Hid (But w0.heap.size g w0 W6) := by
            show But _ _ _ _
            rw [hW6]
            have e9 : ((wr.setCell ⟨g, k, none⟩ (.int .i64 y)).setCell ⟨g, k - 1, none⟩ (.int .i64 x)).heap.size = wr.heap.size := by simp [World.setCell]
            exact (HW2.out.trans (But.set _ g k wr _)).trans ((But.set _ g (k - 1) _ _).trans (But.of_below ((Below.refl w0.heap.size _).drew) (by omega) (Nat.le_refl _)))
          try rw [← hW6]
          clear hW6
          go_wp2_with fail
          go_roundw
          case rel => exact ⟨k - 1, swL l2 k (k - 1), by omega, by omega, by go_num, ⟨HP3.out, HIN2.out, HKO2.out, HUN2.out, HKX2.out⟩, HO6.out, HW6.out⟩
          case measure => simp [intOf]; omega
        · have e3 : ¬ (j : Int) < (k : Int) := by omega
          have hkj : k = j := by omega
          have HSF : Hid (SortP key l0 l2 a (m + 1)) := ⟨HP2.out, ins_end HIN.out (by omega) hkm (by
            by_cases hka : k = a
            · exact Or.inl hka
            · right
              rw [HKX.out, HUN.out (k - 1) (by omega)]
              have := HLO.out (k - 1) (by omega) (by omega)
              omega), HKO.out⟩
          clear ho2 hw2 hkj
          go_wp2
          refine bodyPost_ret (results_none (by rfl) _ _ _) rfl ?_
          exact ⟨rfl, l2, HSF.out, HO2.out, HW2.out⟩
/-- A sort of the places from a to the middle, and no more. -/
theorem sortP_all {key : Int → Int} {l0 l : List Int} {b : Nat} (h : SortP key l0 l 0 b) : SortP key l0 l 0 b := h
set_option maxHeartbeats 4000000 in
theorem stable_c (w0 : World) (g L cap lo hi ca cb : Nat) (cf : Int → Int → Int) (key : Int → Int) (HK : CmpOk w0 g L ca cb cf key) (l0 : List Int) (w : World) (hw : But w0.heap.size g w0 w) (hg : g < w0.heap.size) (hL : l0.length = L) (hL21 : L ≤ 21) (hbl : belowL L l0)
    (ho : OwnI w lo hi (.slice (some ⟨g, 0, none⟩) L cap) l0) (hhi : hi ≤ w0.heap.size) :
    Calls Try.prog 184 #[.slice (some ⟨g, 0, none⟩) L cap, .int .i64 L, .func (.func 135) #[] #[.pointer (some ⟨ca, 0, none⟩), .pointer (some ⟨cb, 0, none⟩)]] w
      fun e w' => e = .returned (.tuple #[]) ∧ ∃ l, SortP key l0 l 0 L ∧ OwnI w' lo hi (.slice (some ⟨g, 0, none⟩) L cap) l ∧ But w0.heap.size g w0 w' := by
  have IS := Lib.hid (fun (a b : Nat) (l : List Int) (w : World) (hw : But w0.heap.size g w0 w) (hL : l.length = L) (hbl : belowL L l) (ho : OwnI w lo hi (.slice (some ⟨g, 0, none⟩) L cap) l) (hab : a ≤ b) (hb : b ≤ L) => insertionSort_c w0 g L cap lo hi ca cb a b cf key HK l w hw hg hL (by omega) hbl ho hhi hab hb)
  by_cases h20 : L < 20
  · have c1 := IS.out 0 L l0 w hw hL hbl ho (Nat.zero_le _) (Nat.le_refl _)
    have k1 : ¬ (20 : Int) ≤ (L : Int) := by omega
    have k2 : ¬ (20 : Int) < (L : Int) := by omega
    clear HK ho hw hbl hL IS
    go_enter Try.func184, Try.ntmps184
    go_wp2_with fail
    refine wp_loop_rounds 1 ?_
    rw [rounds_succ]
    go_wp2_with (refine c1.mono ?_; rintro e w1 ⟨rfl, l, hs, ho, hw⟩)
    have HS := Lib.hid hs
    have HO := Lib.hid ho
    have HW := Lib.hid hw
    clear hs ho hw
    refine wp_loop_rounds 1 ?_
    rw [rounds_succ]
    go_wp2
    go_end0
    exact ⟨rfl, l, HS.out, HO.out, HW.out⟩
  · obtain ⟨w', hw'⟩ : ∃ w' : World, w' = w := ⟨w, rfl⟩
    have c1 : Calls Try.prog 210 #[.slice (some ⟨g, 0, none⟩) L cap, .int .i64 0, .int .i64 20, .func (.func 135) #[] #[.pointer (some ⟨ca, 0, none⟩), .pointer (some ⟨cb, 0, none⟩)]] w fun e w' => e = .returned (.tuple #[]) ∧ ∃ l, SortP key l0 l 0 20 ∧ OwnI w' lo hi (.slice (some ⟨g, 0, none⟩) L cap) l ∧ But w0.heap.size g w0 w' := IS.out 0 20 l0 w hw hL hbl ho (Nat.zero_le _) (by omega)
    have HC1 := Lib.hid c1
    have HK1 := Lib.hid HK
    have HL := Lib.hid hL
    have HBL := Lib.hid hbl
    clear HK ho hw hbl hL c1 hw'
    by_cases h21 : L = 20
    · have k1 : (20 : Int) ≤ (L : Int) := by omega
      have k2 : ¬ (20 : Int) < (L : Int) := by omega
      have k3 : ¬ (40 : Int) ≤ (L : Int) := by omega
      have h21' := Lib.hid h21
      clear h21
      go_enter Try.func184, Try.ntmps184
      go_wp2_with fail
      refine wp_loop_rounds 2 ?_
      rw [rounds_succ]
      go_wp2_with (refine HC1.out.mono ?_; rintro e w1 ⟨rfl, l, hs, ho, hw⟩)
      have c2 : Calls Try.prog 210 #[.slice (some ⟨g, 0, none⟩) L cap, .int .i64 20, .int .i64 L, .func (.func 135) #[] #[.pointer (some ⟨ca, 0, none⟩), .pointer (some ⟨cb, 0, none⟩)]] w1 fun e w' => e = .returned (.tuple #[]) ∧ ∃ l', SortP key l l' 20 L ∧ OwnI w' lo hi (.slice (some ⟨g, 0, none⟩) L cap) l' ∧ But w0.heap.size g w0 w' := IS.out 20 L l w1 hw (by rw [hs.len]; exact HL.out) (belowL_perm HBL.out hs.perm) ho (by have := h21'.out; omega) (Nat.le_refl _)
      have HC2 := Lib.hid c2
      have HS := Lib.hid hs
      clear hs ho hw c2
      rw [rounds_succ]
      go_wp2_with (refine HC2.out.mono ?_; rintro e w2 ⟨rfl, l', hs, ho, hw⟩)
      have HS2 := Lib.hid hs
      have HO := Lib.hid ho
      have HW := Lib.hid hw
      clear hs ho hw
      refine wp_loop_rounds 1 ?_
      rw [rounds_succ]
      go_wp2
      go_end0
      refine ⟨rfl, l', ?_, HO.out, HW.out⟩
      have h1 := HS.out
      have h2 := HS2.out
      have e := h21'.out
      refine ⟨h2.perm.trans h1.perm, fun p q a b c => ?_, fun p hp => ?_⟩
      · rw [h2.off p (by omega), h2.off q (by omega)]
        exact h1.ord p q a b (by omega)
      · rw [h2.off p (by omega), h1.off p (by omega)]
    · have hL1 : L = 21 := by omega
      have k1 : (20 : Int) ≤ (L : Int) := by omega
      have k2 : (20 : Int) < (L : Int) := by omega
      have k3 : ¬ (40 : Int) ≤ (L : Int) := by omega
      have k4 : ¬ (40 : Int) < (L : Int) := by omega
      have h21' := Lib.hid hL1
      clear h21 hL1 h20
      go_enter Try.func184, Try.ntmps184
      go_wp2_with fail
      refine wp_loop_rounds 2 ?_
      rw [rounds_succ]
      go_wp2_with (refine HC1.out.mono ?_; rintro e w1 ⟨rfl, l, hs, ho, hw⟩)
      have c2 : Calls Try.prog 210 #[.slice (some ⟨g, 0, none⟩) L cap, .int .i64 20, .int .i64 L, .func (.func 135) #[] #[.pointer (some ⟨ca, 0, none⟩), .pointer (some ⟨cb, 0, none⟩)]] w1 fun e w' => e = .returned (.tuple #[]) ∧ ∃ l', SortP key l l' 20 L ∧ OwnI w' lo hi (.slice (some ⟨g, 0, none⟩) L cap) l' ∧ But w0.heap.size g w0 w' := IS.out 20 L l w1 hw (by rw [hs.len]; exact HL.out) (belowL_perm HBL.out hs.perm) ho (by have := h21'.out; omega) (Nat.le_refl _)
      have HC2 := Lib.hid c2
      have HS := Lib.hid hs
      clear hs ho hw c2
      rw [rounds_succ]
      go_wp2_with (refine HC2.out.mono ?_; rintro e w2 ⟨rfl, l', hs, ho, hw⟩)
      have c3 : Calls Try.prog 211 #[.slice (some ⟨g, 0, none⟩) L cap, .int .i64 0, .int .i64 20, .int .i64 L, .func (.func 135) #[] #[.pointer (some ⟨ca, 0, none⟩), .pointer (some ⟨cb, 0, none⟩)]] w2 fun e w' => e = .returned (.tuple #[]) ∧ ∃ l2, SortP key l' l2 0 21 ∧ OwnI w' lo hi (.slice (some ⟨g, 0, none⟩) L cap) l2 ∧ But w0.heap.size g w0 w' := by
        have h1 := HS.out
        have e := h21'.out
        have c := symMerge_c w0 g L cap lo hi ca cb 0 20 cf key HK1.out l' w2 hw hg (by rw [hs.len, h1.len]; exact HL.out) (by omega) (belowL_perm (belowL_perm HBL.out h1.perm) hs.perm) ho hhi (by omega) (by omega) (fun p q a b c => by
          rw [hs.off p (by omega), hs.off q (by omega)]
          exact h1.ord p q a b (by omega))
        have e9 : (((20 : Nat) : Int) + 1) = (L : Int) := by omega
        rw [e9] at c
        exact c
      have HC3 := Lib.hid c3
      have HS2 := Lib.hid hs
      clear hs ho hw c3
      refine wp_loop_rounds 2 ?_
      rw [rounds_succ]
      go_wp2_with fail
      refine wp_loop_rounds 1 ?_
      rw [rounds_succ]
      go_wp2_with (refine HC3.out.mono ?_; rintro e w3 ⟨rfl, l2, hs, ho, hw⟩)
      have HS3 := Lib.hid hs
      have HO := Lib.hid ho
      have HW := Lib.hid hw
      clear hs ho hw
      rw [rounds_succ]
      go_wp2
      go_end0
      refine ⟨rfl, l2, ?_, HO.out, HW.out⟩
      have h1 := HS.out
      have h2 := HS2.out
      have h3 := HS3.out
      have e := h21'.out
      refine ⟨(h3.perm.trans h2.perm).trans h1.perm, fun p q a b c => h3.ord p q a b (by omega), fun p hp => ?_⟩
      rw [h3.off p (by omega), h2.off p (by omega), h1.off p (by omega)]
end Go.Proofs.Ytiodolbgapjmkaa

namespace Go.Proofs.Ytiodolbgapjmkaa
open Go.RowKit
set_option maxRecDepth 100000
set_option linter.unusedVariables false
set_option linter.unusedSimpArgs false

def orV (x y : Int) : Int := if x = 0 then y else x
theorem orV_nz {x y : Int} (h : x ≠ 0) : orV x y = x := if_neg h
theorem orV_z {x y : Int} (h : x = 0) : orV x y = y := if_pos h
theorem Or2_c (b : Nat) (x y : Int) (w : World) (h0 : w.cell? ⟨b, 0, none⟩ = some (.int .i64 x)) (h1 : w.cell? ⟨b, 1, none⟩ = some (.int .i64 y)) : Calls Try.prog 136 #[.slice (some ⟨b, 0, none⟩) 2 2] w fun e w' => e = .returned (.int .i64 (orV x y)) ∧ w' = w := by
  by_cases hx : x = 0
  · have HE : Hid (orV x y = y) := orV_z hx
    subst hx
    by_cases hy : y = 0
    · subst hy
      go_enter Try.func136, Try.ntmps136
      go_wp2_with fail
      refine wp_loop_rounds 3 ?_
      rw [rounds_succ]
      go_wp2_with fail
      rw [rounds_succ]
      go_wp2_with fail
      rw [rounds_succ]
      go_wp2_with fail
      go_ret
      exact ⟨by rw [HE.out]; rfl, rfl⟩
    · have t2 : (y != 0) = true := by simp [hy]
      have t3 : (y == 0) = false := by simp [hy]
      go_enter Try.func136, Try.ntmps136
      go_wp2_with fail
      refine wp_loop_rounds 2 ?_
      rw [rounds_succ]
      go_wp2_with fail
      rw [rounds_succ]
      go_wp2_with fail
      go_ret
      exact ⟨by rw [HE.out]; rfl, rfl⟩
  · have HE : Hid (orV x y = x) := orV_nz hx
    have t1 : (x != 0) = true := by simp [hx]
    have t3 : (x == 0) = false := by simp [hx]
    go_enter Try.func136, Try.ntmps136
    go_wp2_with fail
    refine wp_loop_rounds 1 ?_
    rw [rounds_succ]
    go_wp2_with fail
    go_ret
    exact ⟨by rw [HE.out]; rfl, rfl⟩
/-- What ByLevels' comparison hands back. -/
def levCmp (ll : List Int) (xss : List (List Int)) (x y : Int) : Int := orV (Lib.compareInt (ll.getD x.toNat 0) (ll.getD y.toNat 0)) (Lib.compareInt (Lib.minOf (xss.getD x.toNat [])) (Lib.minOf (xss.getD y.toNat [])))
set_option maxHeartbeats 4000000 in
theorem byCmp_c (ca cb lo hi lo2 hi2 : Nat) (v : Value) (vs : List Value) (xss : List (List Int)) (lv : Value) (ll : List Int) (w : World) (n : Nat)
    (hca : w.cell? ⟨ca, 0, none⟩ = some lv) (hcb : w.cell? ⟨cb, 1, none⟩ = some v) (hcl : ca < w.heap.size ∧ cb < w.heap.size) (hv : OwnR w lo hi v vs xss) (hhi : hi ≤ w.heap.size) (hl : OwnI w lo2 hi2 lv ll) (hhi2 : hi2 ≤ w.heap.size) (hll : ll.length = xss.length) (hok : netOk n xss = true)
    (x y : Nat) (hx : x < xss.length) (hy : y < xss.length) :
    Calls Try.prog 135 #[.int .i64 x, .int .i64 y, .pointer (some ⟨ca, 0, none⟩), .pointer (some ⟨cb, 0, none⟩)] w fun e w' => e = .returned (.int .i64 (levCmp ll xss x y)) ∧ Below w.heap.size w w' := by
  have HE : Hid (orV (Lib.compareInt (ll.getD x 0) (ll.getD y 0)) (Lib.compareInt (Lib.minOf (xss.getD x [])) (Lib.minOf (xss.getD y []))) = levCmp ll xss x y) := rfl
  have HP := netOk_pair hok
  have hl60 := netOk_len hok
  obtain ⟨ao, g, cap, A, G, C, rfl, hcap, hao, hrow⟩ := hv.view
  obtain ⟨rfl, hg1, hg2⟩ := hao (by omega)
  obtain ⟨aol, gl, capl, rfl, hcapl, haol, hrowl⟩ := hl.view
  obtain ⟨rfl, hgl1, hgl2⟩ := haol (by omega)
  obtain ⟨i1, j1, hrx, -, -, -⟩ := HP x hx
  obtain ⟨i2, j2, hry, -, -, -⟩ := HP y hy
  have hlx : (xss.getD x []).length = 2 := by rw [hrx]; rfl
  have hly : (xss.getD y []).length = 2 := by rw [hry]; rfl
  obtain ⟨p1, p2, p3, p4⟩ := hrow x hx
  obtain ⟨r1, r2, r3, r4⟩ := hrow y hy
  obtain ⟨p5, p6, p7⟩ := p3 (by omega)
  obtain ⟨r5, r6, r7⟩ := r3 (by omega)
  obtain ⟨l1, -⟩ := hrowl x (by omega)
  obtain ⟨l2, -⟩ := hrowl y (by omega)
  obtain ⟨RX, hRX⟩ : ∃ R, R = xss.getD x [] := ⟨_, rfl⟩
  obtain ⟨RY, hRY⟩ : ∃ R, R = xss.getD y [] := ⟨_, rfl⟩
  obtain ⟨LX, hLX⟩ : ∃ R, R = ll.getD x 0 := ⟨_, rfl⟩
  obtain ⟨LY, hLY⟩ : ∃ R, R = ll.getD y 0 := ⟨_, rfl⟩
  rw [← hRX] at hlx p1 p4 HE
  rw [← hRY] at hly r1 r4
  rw [← hLX] at l1
  rw [← hLY] at l2
  have HE2 : Hid (orV (Lib.compareInt LX LY) (Lib.compareInt (Lib.minOf RX) (Lib.minOf RY)) = levCmp ll xss x y) := by show _ = _; rw [hLX, hLY, hRX, hRY]; rfl
  rw [p5, hlx] at p1
  rw [r5, hly] at r1
  obtain ⟨gx, hgx⟩ : ∃ q, q = G x := ⟨_, rfl⟩
  obtain ⟨gy, hgy⟩ : ∃ q, q = G y := ⟨_, rfl⟩
  obtain ⟨cx, hcx⟩ : ∃ q, q = C x := ⟨_, rfl⟩
  obtain ⟨cy, hcy⟩ : ∃ q, q = C y := ⟨_, rfl⟩
  rw [← hgx, ← hcx] at p1
  rw [← hgy, ← hcy] at r1
  rw [← hgx] at p4 p7
  rw [← hgy] at r4 r7
  obtain ⟨LL, hLL⟩ : ∃ q, q = ll.length := ⟨_, rfl⟩
  obtain ⟨XL, hXL⟩ : ∃ q, q = xss.length := ⟨_, rfl⟩
  rw [← hLL] at hca
  rw [← hXL] at hcb
  have hMX := Try.slices_Min_int gx 0 2 cx RX w.drew (by omega) (by omega) (by omega) (fun j hj => by rw [Nat.zero_add]; exact p4 j hj)
  have hMY := Try.slices_Min_int gy 0 2 cy RY w.drew (by omega) (by omega) (by omega) (fun j hj => by rw [Nat.zero_add]; exact r4 j hj)
  rw [List.take_of_length_le (by omega)] at hMX hMY
  have HMX := Lib.hid hMX
  have HMY := Lib.hid hMY
  have d1 : w.drew.cell? ⟨ca, 0, none⟩ = some (.slice (some ⟨gl, 0, none⟩) LL capl) := hca
  have d2 : w.drew.cell? ⟨cb, 1, none⟩ = some (.slice (some ⟨g, 0, none⟩) XL cap) := hcb
  have d3 : w.drew.cell? ⟨gl, x, none⟩ = some (.int .i64 LX) := l1
  have d4 : w.drew.cell? ⟨gl, y, none⟩ = some (.int .i64 LY) := l2
  have d5 : w.drew.cell? ⟨g, x, none⟩ = some (.slice (some ⟨gx, 0, none⟩) 2 cx) := p1
  have d6 : w.drew.cell? ⟨g, y, none⟩ = some (.slice (some ⟨gy, 0, none⟩) 2 cy) := r1
  have hA : ∀ (o : Obj) (p : Addr) (v : Value), p.block < w.heap.size → w.drew.cell? p = some v → (w.drew.alloc o).cell? p = some v := fun o p v hp h => (((Below.refl w.heap.size w.drew).alloc (Nat.le_refl _) o).cell hp).trans h
  have q1 := fun o => hA o _ _ hcl.1 d1
  have q2 := fun o => hA o _ _ hcl.2 d2
  have q3 := fun o => hA o _ _ (by show gl < _; omega) d3
  have q4 := fun o => hA o _ _ (by show gl < _; omega) d4
  have q5 := fun o => hA o _ _ (by show g < _; omega) d5
  have q6 := fun o => hA o _ _ (by show g < _; omega) d6
  have HB := Lib.hid (fun o : Obj => ((Below.refl w.heap.size w).alloc (Nat.le_refl _) o).drew)
  have HOR := Lib.hid (fun a b : Int => Or2_c w.heap.size a b (w.alloc (.cells #[.int .i64 a, .int .i64 b] 3)).drew (blk_cell (blk_new w (.cells #[.int .i64 a, .int .i64 b] 3)) 0) (blk_cell (blk_new w (.cells #[.int .i64 a, .int .i64 b] 3)) 1))
  have e1 : (x : Int) < (LL : Int) := by omega
  have e2 : (y : Int) < (LL : Int) := by omega
  have e3 : (x : Int) < (XL : Int) := by omega
  have e4 : (y : Int) < (XL : Int) := by omega
  clear hA hMX hMY HE p1 p2 p3 p4 p5 p6 r1 r2 r3 r4 r5 r6 l1 l2 hRX hRY hLX hLY hgx hgy hcx hcy hLL hXL hrx hry hlx hly hca hcb hcl hv hl hll hok HP hl60 hcap hao hrow hg1 hg2 hcapl haol hrowl hgl1 hgl2 hx hy hhi hhi2 p7 r7
  go_enter Try.func135, Try.ntmps135
  go_wp2_with fail
  go_region_held3 (fun W' => W'.cell? ⟨ca, 0, none⟩ = some (.slice (some ⟨gl, 0, none⟩) LL capl) ∧ W'.cell? ⟨cb, 1, none⟩ = some (.slice (some ⟨g, 0, none⟩) XL cap) ∧ W'.cell? ⟨gl, x, none⟩ = some (.int .i64 LX) ∧ W'.cell? ⟨gl, y, none⟩ = some (.int .i64 LY) ∧ W'.cell? ⟨g, x, none⟩ = some (.slice (some ⟨gx, 0, none⟩) 2 cx) ∧ W'.cell? ⟨g, y, none⟩ = some (.slice (some ⟨gy, 0, none⟩) 2 cy)) (first | exact ⟨d1, d2, d3, d4, d5, d6⟩ | exact ⟨q1 _, q2 _, q3 _, q4 _, q5 _, q6 _⟩ | fail) (first | (go_at_call 137; (with_reducible refine (Try.cmp_Compare_int _ _ _).mono ?_); rintro e w' ⟨rfl, rfl⟩) | (go_at_call 138; (with_reducible refine HMX.out.mono ?_); rintro e w' ⟨rfl, rfl⟩) | (go_at_call 138; (with_reducible refine HMY.out.mono ?_); rintro e w' ⟨rfl, rfl⟩) | (go_at_call 136; (with_reducible refine (HOR.out _ _).mono ?_); rintro e w' ⟨rfl, rfl⟩) | fail)
  all_goals
    go_wp2
    go_ret
    exact ⟨by rw [← HE2.out]; rfl, HB.out _⟩
set_option maxHeartbeats 4000000 in
theorem SortStable_c (w0 : World) (g L cap lo hi ca cb : Nat) (cf : Int → Int → Int) (key : Int → Int) (HK : CmpOk w0 g L ca cb cf key) (l0 : List Int) (w : World) (hw : But w0.heap.size g w0 w) (hg : g < w0.heap.size) (hL : l0.length = L) (hL21 : L ≤ 21) (hbl : belowL L l0)
    (ho : OwnI w lo hi (.slice (some ⟨g, 0, none⟩) L cap) l0) (hhi : hi ≤ w0.heap.size) :
    Calls Try.prog 134 #[.slice (some ⟨g, 0, none⟩) L cap, .func (.func 135) #[] #[.pointer (some ⟨ca, 0, none⟩), .pointer (some ⟨cb, 0, none⟩)]] w
      fun e w' => e = .returned (.tuple #[]) ∧ ∃ l, SortP key l0 l 0 L ∧ OwnI w' lo hi (.slice (some ⟨g, 0, none⟩) L cap) l ∧ But w0.heap.size g w0 w' := by
  have HC := Lib.hid (stable_c w0 g L cap lo hi ca cb cf key HK l0 w hw hg hL hL21 hbl ho hhi)
  clear HK hw hL hbl ho
  go_enter Try.func134, Try.ntmps134
  go_wp2_with (go_at_call 184; refine HC.out.mono ?_; rintro e w1 ⟨rfl, l, hs, ho, hw⟩)
  go_end0
  exact ⟨rfl, l, hs, ho, hw⟩
end Go.Proofs.Ytiodolbgapjmkaa

namespace Go.Proofs.Ytiodolbgapjmkaa
open Go.RowKit
set_option maxRecDepth 100000
set_option linter.unusedVariables false
set_option linter.unusedSimpArgs false

/-- The rows in an order. -/
def rowsAt (xss : List (List Int)) (l : List Int) : List (List Int) := l.map fun x => xss.getD x.toNat []
theorem rowsAt_len (xss : List (List Int)) (l : List Int) : (rowsAt xss l).length = l.length := by simp [rowsAt]
/-- Levels first, then the lesser wire. -/
def levKey (xss : List (List Int)) (x : Int) : Int := (levelsP xss xss.length).getD x.toNat 0 * 64 + Lib.minOf (xss.getD x.toNat [])
theorem minOf_two (a b : Int) : Lib.minOf [a, b] = min a b := by simp [Lib.minOf]
theorem compareInt_neg (x y : Int) : (Lib.compareInt x y < 0 ↔ x < y) ∧ (Lib.compareInt x y = 0 ↔ x = y) := by
  unfold Lib.compareInt
  split
  · omega
  · split <;> omega
theorem levCmp_sign {n : Nat} {xss : List (List Int)} (hok : netOk n xss = true) (x y : Int) (hx : 0 ≤ x) (hx2 : x < xss.length) (hy : 0 ≤ y) (hy2 : y < xss.length) : levCmp (levelsP xss xss.length) xss x y < 0 ↔ levKey xss x < levKey xss y := by
  have h8 := netOk_n hok
  obtain ⟨i1, j1, h1, a1, b1, -⟩ := netOk_pair hok x.toNat (by omega)
  obtain ⟨i2, j2, h2, a2, b2, -⟩ := netOk_pair hok y.toNat (by omega)
  unfold levCmp levKey
  rw [h1, h2, minOf_two, minOf_two]
  have c1 := compareInt_neg ((levelsP xss xss.length).getD x.toNat 0) ((levelsP xss xss.length).getD y.toNat 0)
  have c2 := compareInt_neg (min (i1 : Int) j1) (min (i2 : Int) j2)
  unfold orV
  split
  · rename_i h
    have := c1.2.1 h
    omega
  · rename_i h
    have : ¬ (levelsP xss xss.length).getD x.toNat 0 = (levelsP xss xss.length).getD y.toNat 0 := fun e => h (c1.2.2 e)
    omega
/-- The rows in the order of the key. -/
def ByC (w : World) (n : Int) (xss : List (List Int)) (e : Ending) (w' : World) : Prop :=
  ∃ l, SortP (levKey xss) (upI 0 xss.length) l 0 xss.length ∧ NetC w n (rowsAt xss l) true e w'
set_option maxHeartbeats 8000000 in
theorem ByLevels_y (n : Nat) (lo hi : Nat) (v : Value) (vs : List Value) (xss : List (List Int)) (w : World) (hv : OwnR w lo hi v vs xss) (hhi : hi ≤ w.heap.size) (hok : netOk n xss = true) (h21 : xss.length ≤ 21) :
    Calls Try.prog 62 #[.agg #[.int .i64 n, v]] w (ByC w n xss) := by
  have HC : Hid (∀ w1, Below w.heap.size w w1 → Calls Try.prog 94 #[.agg #[.int .i64 n, v]] w1 fun e w' => e = .returned (.bool true) ∧ Below w1.heap.size w1 w') := fun w1 h1 => by
    have := NetworkOk_c n lo hi v vs xss w1 (hv.below h1 hhi) (by have := h1.size; omega)
    rwa [hok] at this
  have HLV : Hid (∀ w1, Below w.heap.size w w1 → Calls Try.prog 121 #[.agg #[.int .i64 n, v]] w1 (IntC w1 (levelsP xss xss.length))) := fun w1 h1 =>
    levels_c n lo hi v vs xss w1 (hv.below h1 hhi) (by have := h1.size; omega) hok
  have HCM := Lib.hid (fun (ca cb lo2 hi2 : Nat) (lv : Value) (w1 : World) (h1 : Below w.heap.size w w1) => byCmp_c ca cb lo hi lo2 hi2 v vs xss lv (levelsP xss xss.length) w1 n)
  have HV := Lib.hid hv
  have HOK := Lib.hid hok
  have HSG := Lib.hid (levCmp_sign hok)
  have HP := Lib.hid (netOk_pair hok)
  have hn := netOk_n hok
  have hn8 : n ≤ 8 := by omega
  obtain ⟨ao, g, cap, rfl, hcap, hao, hrow⟩ := hv.rows
  have HRW := Lib.hid hrow
  obtain ⟨L, hlen⟩ : ∃ l, l = xss.length := ⟨_, rfl⟩
  have HLEN := Lib.hid hlen
  rw [← hlen] at HC HLV h21 hcap hao HRW HP HSG HV HCM
  unfold ByC
  rw [← hlen]
  clear hv hlen hok hrow hn
  go_enter Try.func62, Try.ntmps62
  go_wp2_with fail
  obtain ⟨W1, hW1, c0, c1, hsz, hB1, -, -⟩ := box2 w (.int .i64 n) (.slice ao L cap) 30
  have hb9 := blk_new W1 (.cells #[.int .i64 0, .slice none 0 0] 30)
  obtain ⟨W2, hW2⟩ : ∃ W, W = W1.alloc (.cells #[.int .i64 0, .slice none 0 0] 30) := ⟨_, rfl⟩
  have hBa : Below W1.heap.size W1 W2 := by rw [hW2]; exact (Below.refl _ _).alloc (Nat.le_refl _) _
  have hs2 : W2.heap.size = W1.heap.size + 1 := by rw [hW2]; simp
  rw [← hW2] at hb9
  obtain ⟨c0, c1, hz0⟩ := boxC hBa (by omega) c0 c1
  have hB2 : Below w.heap.size w W2 := hB1.trans (hBa.mono (by omega))
  rw [hsz] at hb9
  try rw [hW1, ← hW2]
  have hw2 : w.heap.size + 1 < W2.heap.size := by omega
  clear hW1 hW2 hBa hs2 hsz hB1
  refine (HC.out W2 hB2).mono ?_
  rintro e w2 ⟨rfl, b2⟩
  obtain ⟨c0, c1, hz0⟩ := boxC b2 hz0 c0 c1
  have HR2 := Lib.hid (blk_below hb9 b2 hw2)
  have HB2 : Hid (Below w.heap.size w w2) := hB2.trans (b2.mono (by omega))
  have hw2' : w.heap.size + 1 < w2.heap.size := by have := b2.size; omega
  clear hb9 b2 hB2 HC hw2
  go_wp2_with fail
  refine (HLV.out w2 HB2.out).mono ?_
  rintro e w3 ⟨lv, rfl, ol, b3⟩
  obtain ⟨c0, c1, hz3⟩ := boxC b3 hz0 c0 c1
  have HR3 := Lib.hid (blk_below HR2.out b3 hw2')
  have HB3 : Hid (Below w.heap.size w w3) := HB2.out.trans (b3.mono (by omega))
  have hw3 : w.heap.size + 1 < w3.heap.size := by have := b3.size; omega
  have OL := Lib.hid ol
  have hz23 := b3.size
  obtain ⟨aol, gl, capl, el, hcl, hal, -⟩ := OwnI.view ol
  rw [levelsP_len] at el hcl
  subst el
  clear b3 ol HLV HR2 hal
  go_wp2_with fail
  have hb4 := blk_new w3 (.cells #[.slice aol L capl] 22)
  obtain ⟨W4, hW4⟩ : ∃ W, W = w3.alloc (.cells #[.slice aol L capl] 22) := ⟨_, rfl⟩
  have hs4 : W4.heap.size = w3.heap.size + 1 := by rw [hW4]; simp
  have hB4 : Below w3.heap.size w3 W4 := by rw [hW4]; exact (Below.refl _ _).alloc (Nat.le_refl _) _
  obtain ⟨W5, hW5⟩ : ∃ W, W = W4.alloc (.cells #[] 3) := ⟨_, rfl⟩
  have hB5 : Below W4.heap.size W4 W5 := by rw [hW5]; exact (Below.refl _ _).alloc (Nat.le_refl _) _
  have HO5 : Hid (OwnI W5 (w3.heap.size + 1) W5.heap.size (.slice (some ⟨w3.heap.size + 1, 0, none⟩) 0 0) []) := by
    show OwnI _ _ _ _ _
    rw [← hs4, hW5]
    exact Own.mono (ownI_empty W4) (Nat.le_refl _) (by simp)
  rw [← hW4] at hb4
  have HL5 := Lib.hid (blk_below hb4 hB5 (by omega))
  have HB35 : Hid (Below w3.heap.size w3 W5) := hB4.trans (hB5.mono (by omega))
  have hz5 : w3.heap.size + 1 < W5.heap.size := by rw [hW5]; simp; omega
  rw [← hW4, ← hW5]
  have C0 := Lib.hid c0
  have C1 := Lib.hid c1
  clear hW4 hW5 hb4 hB4 hB5 hs4 c0 c1
  go_loopw [5, 20] (fun v i wr => ∃ k g1 c : Nat, k ≤ L ∧ i = .int .i64 k ∧ v = .slice (some ⟨g1, 0, none⟩) k c ∧ OwnI wr (w3.heap.size + 1) wr.heap.size v (upI 0 k) ∧ Below (w3.heap.size + 1) W5 wr ∧ w3.heap.size + 1 ≤ g1 ∧ g1 < wr.heap.size) (fun _ i _ => L - (intOf i).toNat)
  case atStart => exact ⟨0, _, _, Nat.zero_le _, by go_num, rfl, HO5.out, Below.refl _ _, by omega, by omega⟩
  case round =>
    obtain ⟨k, g1, cp, hk, rfl, rfl, hR, hB, hg1, hg1z⟩ := hrel
    have HR := Lib.hid hR
    have HB := Lib.hid hB
    have hz := hB.size
    have HLU : Hid ((upI 0 k).length ≤ 100000000) := by show _ ≤ _; rw [upI_length]; omega
    clear hR hB
    by_cases hlt : k < L
    · have hik : (k : Int) < (L : Int) := by omega
      have hzr : w3.heap.size + 1 ≤ wr.heap.size := by omega
      go_wp2_with (at_builtin; refine wpList_app_int rfl (.tmp 23) (.tmp 25) rfl wr (k : Int) (w3.heap.size + 1) wr.heap.size _ (upI 0 k) HR.out hzr HLU.out rfl rfl ?_; intro ao7 L7 cap7 w7 hL7 o7 b7 z7; have O7 := Lib.hid o7; have B7 := Lib.hid b7; clear o7 b7)
      have HR3 : Hid (∃ g, ao7 = some ⟨g, 0, none⟩ ∧ L7 = k + 1 ∧ w3.heap.size + 1 ≤ g ∧ g < w7.heap.size) := by
        obtain ⟨aoz, gz, capz, ez, -, haz, -⟩ := OwnI.view O7.out
        have hlz : (upI 0 k ++ [(k : Int)]).length = k + 1 := by simp [upI_length]
        rw [hlz] at ez haz
        injection ez with ez1 ez2 ez3
        obtain ⟨q1, q2, q3⟩ := haz (by omega)
        exact ⟨gz, by rw [ez1]; exact q1, ez2, q2, q3⟩
      obtain ⟨g7, rfl, rfl, h71, h72⟩ := HR3.out
      go_roundw
      case rel => exact ⟨k + 1, g7, cap7, by omega, by go_num, rfl, by rw [upI_succ, Int.zero_add]; exact O7.out, HB.out.trans B7.out, h71, h72⟩
      case measure => simp [intOf]; omega
    · have hik : ¬ (k : Int) < (L : Int) := by omega
      have HE : Hid (k = L) := by show k = L; omega
      obtain ⟨w4, rfl⟩ : ∃ W : World, W = wr := ⟨_, rfl⟩
      have HB34 : Hid (Below w3.heap.size w3 w4) := HB35.out.trans (HB.out.mono (by omega))
      have HBw4 : Hid (Below w.heap.size w w4) := HB3.out.trans (HB34.out.mono (by omega))
      have HR4 := Lib.hid ((HB34.out.block (w.heap.size + 1) (by omega)).trans HR3.out)
      have HL4 := Lib.hid (blk_below HL5.out HB.out (by omega))
      have D0 := Lib.hid ((HB34.out.cell (p := ⟨w.heap.size, 0, none⟩) (by show w.heap.size < w3.heap.size; omega)).trans C0.out)
      have D1 := Lib.hid ((HB34.out.cell (p := ⟨w.heap.size, 1, none⟩) (by show w.heap.size < w3.heap.size; omega)).trans C1.out)
      have OL4 : Hid (OwnI w4 w2.heap.size w3.heap.size (.slice aol L capl) (levelsP xss L)) := Own.below OL.out HB34.out (Nat.le_refl _)
      have HK : Hid (CmpOk w4 g1 L w3.heap.size w.heap.size (levCmp (levelsP xss L) xss) (levKey xss)) := by
        refine ⟨HSG.out, fun W x y hb hx hx2 hy hy2 => ?_⟩
        obtain ⟨x, rfl⟩ : ∃ q : Nat, x = q := ⟨x.toNat, by omega⟩
        obtain ⟨y, rfl⟩ : ∃ q : Nat, y = q := ⟨y.toNat, by omega⟩
        have hb1 : Below (w3.heap.size + 1) w4 W := hb.below (by omega)
        have hbs := hb.size
        have hbw : Below w.heap.size w W := HBw4.out.trans (hb1.mono (by omega))
        exact HCM.out w3.heap.size w.heap.size w2.heap.size w3.heap.size (.slice aol L capl) W hbw
          ((hb1.cell (p := ⟨w3.heap.size, 0, none⟩) (by show w3.heap.size < _; omega)).trans (blk_cell HL4.out 0)) ((hb1.cell (p := ⟨w.heap.size, 1, none⟩) (by show w.heap.size < _; omega)).trans D1.out) ⟨by omega, by omega⟩
          (HV.out.below hbw hhi) (by omega) (Own.below OL4.out hb1 (by omega)) (by omega) (levelsP_len _ _) HOK.out x y (by omega) (by omega)
      have o4 := HR.out
      rw [HE.out] at o4
      have hSS := SortStable_c w4 g1 L cp (w3.heap.size + 1) w4.heap.size w3.heap.size w.heap.size _ _ HK.out (upI 0 L) w4 (But.refl _ _ _) hg1z (upI_length _ _) h21 (fun x hx => by
        simp only [upI, List.mem_map, List.mem_range] at hx
        obtain ⟨i, hi, rfl⟩ := hx
        omega) o4 (Nat.le_refl _)
      have HSS := Lib.hid hSS
      have HE2 := Lib.hid HE.out
      rw [HE.out]
      clear o4 hSS HK HR HE HR3 HO5 HB35 hlt hik hk HLU HB
      go_wp2_with fail
      refine HSS.out.mono ?_
      rintro e w5 ⟨rfl, l, hs, ho, hb⟩
      have HS := Lib.hid hs
      have HO := Lib.hid ho
      have hb5 : Below (w3.heap.size + 1) w4 w5 := hb.below (by omega)
      have HB5 := Lib.hid hb5
      have hz45 := hb.size
      have HR5 := Lib.hid ((hb5.block (w.heap.size + 1) (by omega)).trans HR4.out)
      have d0 := (hb5.cell (p := ⟨w.heap.size, 0, none⟩) (by show w.heap.size < _; omega)).trans D0.out
      have d1 := (hb5.cell (p := ⟨w.heap.size, 1, none⟩) (by show w.heap.size < _; omega)).trans D1.out
      have HB5w : Hid (Below w.heap.size w w5) := HBw4.out.trans (hb5.mono (by omega))
      have HD1 := Lib.hid d1
      have hll : l.length = L := by rw [hs.len, upI_length]
      have HLL := Lib.hid hll
      have HLB : Hid (∀ p, p < L → 0 ≤ l.getD p 0 ∧ l.getD p 0 < L) := fun p hp => belowL_getD (L := L) (l := l) (fun x hx => by
        have := hs.perm.mem_iff.1 hx
        simp only [upI, List.mem_map, List.mem_range] at this
        obtain ⟨i, hi, rfl⟩ := this
        omega) (by omega)
      clear hs ho hb hb5 HSS d1 hll
      have hb6 := blk_new w5 (.cells #[.int .i64 n, .slice none 0 0] 30)
      obtain ⟨W6, hW6⟩ : ∃ W, W = w5.alloc (.cells #[.int .i64 n, .slice none 0 0] 30) := ⟨_, rfl⟩
      have hB6 : Below w5.heap.size w5 W6 := by rw [hW6]; exact (Below.refl _ _).alloc (Nat.le_refl _) _
      have HW6 := Lib.hid hW6
      rw [← hW6] at hb6
      have HN6 : Hid (NB W6 w5.heap.size n (.slice none 0 0) [] []) := ⟨hb6, OwnR.nil _ _ _⟩
      have HB6 := Lib.hid hB6
      clear hW6 hb6 hB6
      go_wp2_with fail
      try rw [← HW6.out]
      clear HL4 HR4 D0 D1 OL4 HL5 C0 C1
      go_loopw [36] (fun t wr => ∃ k : Nat, k ≤ L ∧ t = .int .i64 k ∧ ∃ v us, NB wr w5.heap.size n v us (rowsAt xss (l.take k)) ∧ Below w5.heap.size W6 wr) (fun t _ => L - (intOf t).toNat)
      case atStart => exact ⟨0, Nat.zero_le _, rfl, _, _, HN6.out, Below.refl _ _⟩
      case round =>
        obtain ⟨k, hk, rfl, v, us, hN, hB⟩ := hrel
        have HN := Lib.hid hN
        have HB := Lib.hid hB
        have hXl := hN.lt
        have hzB := hB.size
        obtain ⟨e0, e1, y0, y1⟩ := hN.cells
        have HB56 : Hid (Below w5.heap.size w5 wr) := HB6.out.trans hB
        have hz5w := HB5w.out.size
        have hz56 := HB56.out.size
        have hzw5 : w.heap.size + 1 < w5.heap.size := by omega
        by_cases hlt : k < L
        · have hki : (k : Int) < (L : Int) := by omega
          obtain ⟨q, hq, hqL⟩ : ∃ q : Nat, l.getD k 0 = (q : Int) ∧ q < L := ⟨(l.getD k 0).toNat, by have := HLB.out k hlt; omega, by have := HLB.out k hlt; omega⟩
          have hc := (HO.out.cellAt k (by rw [HLL.out]; exact hlt))
          rw [hq] at hc
          have c1 := (HB56.out.cell (p := ⟨g1, k, none⟩) (by show g1 < _; omega)).trans hc.1
          have d1 := (HB56.out.cell (p := ⟨w.heap.size, 1, none⟩) (by show w.heap.size < _; omega)).trans HD1.out
          obtain ⟨i, j, hr, hi1, hj1, hne⟩ := HP.out q hqL
          obtain ⟨rfl, hg1', hg2'⟩ := hao (by omega)
          obtain ⟨r0, r1⟩ := HRW.out q hqL
          have hbw : Below w.heap.size w wr := HB5w.out.trans (HB56.out.mono (by omega))
          have f0 := (hbw.cell (p := ⟨g, q, none⟩) (by show g < _; omega)).trans r0
          have r2 := OwnI.ints (Own.below r1 hbw hhi)
          obtain ⟨s, hs⟩ : ∃ s, s = vs.getD q undef := ⟨_, rfl⟩
          rw [← hs] at f0 r2
          have HR2 := Lib.hid r2
          have hlen2 : (xss.getD q []).length = 2 := by rw [hr]; rfl
          have HT : Hid (rowsAt xss (l.take (k + 1)) = rowsAt xss (l.take k) ++ [xss.getD q []]) := by
            show _ = _
            rw [take_snoc_getD 0 (by rw [HLL.out]; exact hlt), hq]
            simp [rowsAt]
          have HLN : Hid ((rowsAt xss (l.take k)).length + ([xss.getD q []] : List (List Int)).length ≤ 1000000) := by show _ ≤ _; rw [rowsAt_len, List.length_take]; simp; omega
          have hle : hi ≤ wr.heap.size := by have := hbw.size; omega
          obtain ⟨R, hR⟩ : ∃ R, R = xss.getD q [] := ⟨_, rfl⟩
          rw [← hR] at HR2 hlen2 HT HLN
          have HBX := Lib.hid hN.box
          have HOW := Lib.hid hN.own
          have hqi : (q : Int) < (L : Int) := by omega
          clear hN hB r0 r1 r2 hr hs hR hbw hc hq
          have HR3 : Hid (IntsV wr.drew lo hi s R) := HR2.out.below (B := wr.heap.size) ((Below.refl _ _).drew) hle
          have hr1 : 0 < R.length := by omega
          have hr2 : R.length ≤ 100000000 := by omega
          have hXX : w5.heap.size + 1 ≤ wr.heap.size := by omega
          go_wp2_with fail
          go_region_law (first | (refine wp_app_rows (.tmp 41) (.tmp 48) rfl (wc.alloc (.cells #[.slice ao4 2 cap4] 22)) (w5.heap.size + 1) wr.heap.size _ _ us [.slice ao4 2 cap4] (rowsAt xss (l.take k)) [R] ((HOW.out.later BC.out).alloc _) (ownR_one (lo := wr.heap.size) OC.out zc) hXX (by simp; omega) HLN.out rfl rfl ?_; intro ao5 L5 cap5 w7 us5 hL5 o5 b5 z5; have bx5 := blk_below (blk_old (blk_below HBX.out BC.out hXl) (.cells #[.slice ao4 2 cap4] 22)) b5 (by omega); have g0 := blk_cell bx5 0; have g1 := blk_cell bx5 1; have fr := blk_free bx5 1; have BX5 := Lib.hid bx5; have O5 := Lib.hid o5; have B5 := Lib.hid b5; clear bx5 o5 b5) | (go_simp; go_at_call 139; refine (Clone_c lo hi s R wr.drew HR3.out hle hr1 hr2).mono ?_; rintro e wc ⟨uc, rfl, oc, bc⟩; have bcw : Below wr.heap.size wr wc := undrew bc; have zc := bcw.size; obtain ⟨ao4, g4, cap4, e4, -, -, -⟩ := OwnI.view oc; rw [hlen2] at e4; have OC := Lib.hid oc; subst e4; have BC := Lib.hid bcw; have hXc : w5.heap.size < wc.heap.size := (by omega); have ec := (bcw.cell (p := ⟨w5.heap.size, 1, none⟩) (by show w5.heap.size < _; omega)).trans e1; clear oc bc bcw) | fail)
          all_goals
            have HB5' : Hid (Below w5.heap.size W6 w7) := HB.out.trans ((BC.out.alloc (by omega) _).mono (by omega) |>.trans (B5.out.mono (by omega)))
            go_wp2
            go_roundw
            case rel => exact ⟨k + 1, by omega, by go_num, _, us5, by rw [HT.out]; exact NB.store BX5.out O5.out, HB5'.out.setCell (by show w5.heap.size ≤ w5.heap.size; omega) _⟩
            case measure => simp [intOf]; omega
        · have HE9 : Hid (l.take k = l) := List.take_of_length_le (by rw [HLL.out]; omega)
          have hki : ¬ (k : Int) < (L : Int) := by omega
          have hr9 := (HB56.out.block (w.heap.size + 1) (by omega)).trans HR5.out
          have r0 := blk_cell hr9 0
          have r1 := blk_cell hr9 1
          have y2 := blk_free hr9 0
          have y3 := blk_free hr9 1
          obtain ⟨ao9, g9, cap9, ev, -, -, -⟩ := hN.own.rows
          have HFN : Hid (∃ l, SortP (levKey xss) (upI 0 L) l 0 L ∧ NetC w n (rowsAt xss l) true (.returned (.tuple #[.agg #[.int .i64 n, v], .bool true])) ((wr.setCell ⟨w.heap.size + 1, 0, none⟩ (.int .i64 n)).setCell ⟨w.heap.size + 1, 1, none⟩ v)) := by
            refine ⟨l, HS.out, ?_⟩
            have ho := hN.own
            rw [HE9.out] at ho
            refine ⟨v, us, rfl, ?_, ((HB5w.out.trans (HB56.out.mono (by omega))).setCell (by show w.heap.size ≤ w.heap.size + 1; omega) _).setCell (by show w.heap.size ≤ w.heap.size + 1; omega) _⟩
            exact (set_two_ownR ho (by omega)).mono (by omega) (by simp [World.setCell])
          have z0 := blk_cell (box_set1 (y := v) (box_set0 (y := .int .i64 n) hr9)) 0
          have z1 := blk_cell (box_set1 (y := v) (box_set0 (y := .int .i64 n) hr9)) 1
          obtain ⟨M9, hM9⟩ : ∃ M, M = (rowsAt xss (l.take k)).length := ⟨_, rfl⟩
          rw [← hM9] at ev
          subst ev
          have hXw : w.heap.size + 1 ≠ w5.heap.size := by omega
          clear hN hB HN hr9 hM9
          go_wp2
          exact bodyPost_ret (v := .tuple #[.agg #[.int .i64 n, .slice ao9 M9 cap9], .bool true]) (by simp [results, Try.results62, go_sem, z0, z1]) rfl HFN.out
end Go.Proofs.Ytiodolbgapjmkaa

namespace Go.Proofs.Ytiodolbgapjmkaa
open Go.RowKit
set_option maxRecDepth 100000
set_option linter.unusedVariables false

/-- The comparators that carry the new wire's value down, the first t of them. -/
def insK (n t : Nat) : List (List Int) := (List.range t).map fun i : Nat => [(n : Int) - 1 - (i : Int), (n : Int) - 1 - (i : Int) + 1]
theorem insK_succ (n t : Nat) : insK n (t + 1) = insK n t ++ [[(n : Int) - 1 - (t : Int), (n : Int) - 1 - (t : Int) + 1]] := by simp [insK, List.range_succ]
theorem insK_len (n t : Nat) : (insK n t).length = t := by simp [insK]
set_option maxHeartbeats 2000000 in
theorem InsertWire_i_yes (n : Nat) (lo hi : Nat) (v : Value) (vs : List Value) (xss : List (List Int)) (w : World) (hv : OwnR w lo hi v vs xss) (hhi : hi ≤ w.heap.size) (hok : netOk n xss = true) :
    Calls Try.prog 66 #[.agg #[.int .i64 n, v]] w (NetC w (if netOk ((n : Int) + 1) (xss ++ insK n n) = true then (n : Int) + 1 else 0) (if netOk ((n : Int) + 1) (xss ++ insK n n) = true then xss ++ insK n n else []) (netOk ((n : Int) + 1) (xss ++ insK n n))) := by
  have HC : Hid (∀ w, OwnR w lo hi v vs xss → hi ≤ w.heap.size → Calls Try.prog 94 #[.agg #[.int .i64 n, v]] w fun e w' => e = .returned (.bool true) ∧ Below w.heap.size w w') := fun w h1 h2 => by
    have := NetworkOk_c n lo hi v vs xss w h1 h2
    rwa [hok] at this
  have CO : Hid (∀ w, OwnR w lo hi v vs xss → hi ≤ w.heap.size → Calls Try.prog 129 #[.agg #[.int .i64 n, v]] w fun e w' => ∃ u us, e = .returned (.agg #[.int .i64 n, u]) ∧ OwnR w' w.heap.size w'.heap.size u us xss ∧ Below w.heap.size w w') := fun w h1 h2 => own_c n lo hi v vs xss w h1 h2 hok
  have hn8 : n ≤ 8 := by have := netOk_n hok; omega
  have hn1 : 1 ≤ n := by have := netOk_n hok; omega
  have hl60 := netOk_len hok
  obtain ⟨P9, hP9⟩ : ∃ P9, P9 = NetC w (if netOk ((n : Int) + 1) (xss ++ insK n n) = true then (n : Int) + 1 else 0) (if netOk ((n : Int) + 1) (xss ++ insK n n) = true then xss ++ insK n n else []) (netOk ((n : Int) + 1) (xss ++ insK n n)) := ⟨_, rfl⟩
  have HP9 := Lib.hid hP9
  rw [← hP9]
  obtain ⟨ao, g, cap, rfl, -, -, -⟩ := hv.rows
  have HV := Lib.hid hv
  obtain ⟨L, hlen⟩ : ∃ l, l = xss.length := ⟨_, rfl⟩
  have HLEN := Lib.hid hlen
  rw [← hlen] at HV HC CO hl60 ⊢
  clear hv hlen hok hP9
  go_enter Try.func66, Try.ntmps66
  go_wp2_with fail
  obtain ⟨W1, hW1, c0, c1, hsz, hB1, -, -⟩ := box2 w (.int .i64 n) (.slice ao L cap) 30
  have hb9 := blk_new W1 (.cells #[.int .i64 0, .slice none 0 0] 30)
  obtain ⟨W2, hW2⟩ : ∃ W, W = W1.alloc (.cells #[.int .i64 0, .slice none 0 0] 30) := ⟨_, rfl⟩
  have hBa : Below W1.heap.size W1 W2 := by rw [hW2]; exact (Below.refl _ _).alloc (Nat.le_refl _) _
  have hs2 : W2.heap.size = W1.heap.size + 1 := by rw [hW2]; simp
  rw [← hW2] at hb9
  obtain ⟨c0, c1, hz0⟩ := boxC hBa (by omega) c0 c1
  have hB2 : Below w.heap.size w W2 := hB1.trans (hBa.mono (by omega))
  rw [hsz] at hb9
  try rw [hW1, ← hW2]
  have hw2 : w.heap.size + 1 < W2.heap.size := by omega
  clear hW1 hW2 hBa hs2 hsz hB1
  refine (HC.out W2 (HV.out.below hB2 (by omega)) (by omega)).mono ?_
  rintro e w3 ⟨rfl, b3⟩
  obtain ⟨d0, d1, z3⟩ := boxC b3 hz0 c0 c1
  have hr9 := blk_below hb9 b3 hw2
  have zz3 := b3.size
  have HV3 := Lib.hid ((HV.out.below hB2 hhi).below b3 (by omega))
  have HB3 : Hid (Below w.heap.size w w3) := hB2.trans (b3.mono (by omega))
  have hw3 : w.heap.size + 1 < w3.heap.size := by omega
  have hle3 : hi ≤ w3.heap.size := by omega
  clear c0 c1 hb9 b3 hB2 HC HV hz0 hw2 zz3
  go_wp2_with fail
  refine (CO.out w3 HV3.out hle3).mono ?_
  rintro e w4 ⟨u, us, rfl, o4, b4⟩
  obtain ⟨ao4, g4, cap4, e4, -, -, -⟩ := o4.rows
  rw [← HLEN.out] at e4
  subst e4
  obtain ⟨e0, e1, z4⟩ := boxC b4 z3 d0 d1
  have hr4 := blk_below hr9 b4 hw3
  have O4 := Lib.hid o4
  have HR4 := Lib.hid hr4
  have zz4 := b4.size
  have HB4 : Hid (Below w.heap.size w w4) := HB3.out.trans (b4.mono (by omega))
  have hw4 : w.heap.size + 1 < w4.heap.size := by omega
  clear d0 d1 hr9 HV3 CO b4 o4 hr4
  go_wp2_with fail
  have hb5 := blk_new w4 (.cells #[.int .i64 ((n : Int) + 1), .slice ao4 L cap4] 30)
  obtain ⟨W5, hW5⟩ : ∃ W, W = w4.alloc (.cells #[.int .i64 ((n : Int) + 1), .slice ao4 L cap4] 30) := ⟨_, rfl⟩
  have hB5 : Below w4.heap.size w4 W5 := by rw [hW5]; exact (Below.refl _ _).alloc (Nat.le_refl _) _
  have hs5 : w4.heap.size < W5.heap.size := by rw [hW5]; simp
  have O5 : Hid (OwnR W5 w3.heap.size W5.heap.size (.slice ao4 L cap4) us xss) := by
    show OwnR _ _ _ _ _ _
    rw [hW5]
    exact (O4.out.alloc _).mono (Nat.le_refl _) (by simp)
  rw [← hW5] at hb5
  try rw [← hW5]
  clear hW5
  obtain ⟨X, hX⟩ : ∃ X, X = w4.heap.size := ⟨_, rfl⟩
  have HX4 := Lib.hid hX
  have hr5 := blk_below HR4.out hB5 hw4
  obtain ⟨f0, f1, z5⟩ := boxC hB5 z4 e0 e1
  have HB5 : Hid (Below w.heap.size w W5) := HB4.out.trans (hB5.mono (by omega))
  rw [← hX] at hb5 hs5 ⊢
  have hX3 : w3.heap.size ≤ X := by omega
  have HB5b := Lib.hid hb5
  have HR5 := Lib.hid hr5
  clear e0 e1 z4 HR4 HB4 hB5 hb5 hr5 O4 hX zz4 hw4
  go_loopw [5] (fun i wr => ∃ t : Nat, t ≤ n ∧ i = .int .i64 ((n : Int) - 1 - t) ∧ ∃ v us, wr.heap[X]? = some (.cells #[.int .i64 ((n : Int) + 1), v] 30 (0, 0)) ∧ OwnR wr w3.heap.size wr.heap.size v us (xss ++ insK n t) ∧ Below w3.heap.size W5 wr) (fun i _ => (intOf i + 1).toNat)
  case atStart => exact ⟨0, Nat.zero_le _, by go_num, _, us, HB5b.out, by simpa [insK] using O5.out, Below.refl _ _⟩
  case round =>
    obtain ⟨t, ht, rfl, v, us2, hbx, hR, hb⟩ := hrel
    have HBX := Lib.hid hbx
    have HR := Lib.hid hR
    have HB := Lib.hid hb
    have hzb := hb.size
    have hXl : X < wr.heap.size := by omega
    have g0 := blk_cell hbx 0
    have g1 := blk_cell hbx 1
    have y1 := blk_free hbx 1
    clear O5 HB5b
    by_cases hlt : t < n
    · have hj : (0 : Int) ≤ (n : Int) - 1 - t := by omega
      have HKC : Hid (keptC X (X + 1) wr wr v) := fun k k1 k2 => ⟨rfl, by
        rw [show k = X by omega]
        exact own_not_box hR.top hbx (by decide)⟩
      have HLN : Hid ((xss ++ insK n t).length ≤ 1000000) := by show _ ≤ _; rw [List.length_append, insK_len, ← HLEN.out]; omega
      have hlo : w3.heap.size ≤ wr.heap.size := by omega
      have hX1 : X + 1 ≤ wr.heap.size := by omega
      clear hbx hR hb
      go_wp2_with (at_builtin; refine wpList_app_pairC rfl (.tmp 24) (.tmp 29) rfl wr _ _ w3.heap.size _ us2 (xss ++ insK n t) X (X + 1) wr HR.out hlo HKC.out hX1 HLN.out rfl rfl ?_; intro g' L' cap' w8 us8 hL8 o8 q8 z8 k8 y8; have bx8 := ((k8 X (Nat.le_refl _) (by omega)).1).trans HBX.out; have r0 := blk_cell bx8 0; have r1 := blk_cell bx8 1; have r2 := blk_free bx8 1; have BX8 := Lib.hid bx8; have O8 := Lib.hid o8; have Q8 := Lib.hid q8; clear bx8 o8 q8 k8)
      go_roundw
      case rel => exact ⟨t + 1, by omega, by go_num, _, us8, box_set1 BX8.out, by rw [insK_succ, ← List.append_assoc]; exact (O8.out.past_box BX8.out).mono (Nat.le_refl _) (by simp [World.setCell]), (HB.out.trans Q8.out).setCell (by show w3.heap.size ≤ X; omega) _⟩
      case measure => simp [intOf]; omega
    · have htn : t = n := by omega
      have hj : (n : Int) - 1 - t < 0 := by omega
      have HRn : Hid (OwnR wr w3.heap.size wr.heap.size v us2 (xss ++ insK n n)) := by have h := hR; rw [htn] at h; exact h
      have hrr := blk_below (blk_below HR5.out hb (by omega)) (Below.refl w3.heap.size wr) (by omega)
      have HRR := Lib.hid hrr
      have HBf : Hid (Below w.heap.size w wr) := HB5.out.trans (hb.mono (by omega))
      have CK := Lib.hid (checked_c ((n : Int) + 1) w3.heap.size wr.heap.size v us2 (xss ++ insK n n) wr HRn.out (Nat.le_refl _))
      obtain ⟨ao9, g9, cap9, e9, -, -, -⟩ := HRn.out.rows
      obtain ⟨M, hM⟩ : ∃ M, M = (xss ++ insK n n).length := ⟨_, rfl⟩
      rw [← hM] at e9
      subst e9
      obtain ⟨b9, hb9⟩ : ∃ b, b = netOk ((n : Int) + 1) (xss ++ insK n n) := ⟨_, rfl⟩
      rw [← hb9] at CK HP9
      clear hbx hR hb hrr hM hb9 htn
      cases b9
      all_goals
        go_wp2_with fail
        refine CK.out.mono ?_
        rintro e w9 ⟨rfl, b9⟩
        have hr9 := blk_below HRR.out b9 (by omega)
        have q0 := blk_cell hr9 0
        have q1 := blk_cell hr9 1
        have x0 := blk_free hr9 0
        have x1 := blk_free hr9 1
        have HR9 := Lib.hid hr9
        have HO9 := Lib.hid (HRn.out.later b9)
        have HB9 : Hid (Below w.heap.size w w9) := HBf.out.trans (b9.mono (by have := HBf.out.size; omega))
        have z9 := b9.size
        clear hr9 b9
      · simp only [Bool.false_eq_true, if_false]
        go_wp2
        refine bodyPost_ret (v := .tuple #[.agg #[.int .i64 0, .slice none 0 0], .bool false]) (by simp [results, Try.results66, go_sem, q0, q1]) rfl ?_
        rw [HP9.out]
        refine ⟨_, [], rfl, OwnR.nil _ _ _, ?_⟩
        first
          | exact (HB9.out.setCell (by show w.heap.size ≤ w.heap.size + 1; omega) _).setCell (by show w.heap.size ≤ w.heap.size + 1; omega) _
          | exact HB9.out
      · simp only [if_true]
        go_wp2
        refine bodyPost_ret (v := .tuple #[.agg #[.int .i64 ((n : Int) + 1), .slice ao9 M cap9], .bool true]) (by simp [results, Try.results66, go_sem, q0, q1]) rfl ?_
        rw [HP9.out]
        refine ⟨_, us2, rfl, ?_, (HB9.out.setCell (by show w.heap.size ≤ w.heap.size + 1; omega) _).setCell (by show w.heap.size ≤ w.heap.size + 1; omega) _⟩
        exact ((HO9.out.past_box HR9.out).past_box (box_set0 HR9.out)).mono (by omega) (by simp [World.setCell]; omega)
def selK (t : Nat) : List (List Int) := (List.range t).map fun i : Nat => [(0 : Int), (i : Int) + 1]
theorem selK_succ (t : Nat) : selK (t + 1) = selK t ++ [[(0 : Int), (t : Int) + 1]] := by simp [selK, List.range_succ]
theorem selK_len (t : Nat) : (selK t).length = t := by simp [selK]
def selX (n : Nat) (xss : List (List Int)) : List (List Int) := selK n ++ renP (fun x => x + 1) xss
theorem SelectWire1_c (i : Nat) (hi : i < 1000) (w : World) : Calls Try.prog 144 #[.int .i64 i] w fun e w' => e = .returned (.int .i64 ((i : Int) + 1)) ∧ w = w' := by
  go_enter Try.func144, Try.ntmps144
  go_wp2
  go_ret
  exact ⟨by go_num, rfl⟩

set_option maxHeartbeats 4000000 in
theorem SelectWire_i_yes (n : Nat) (lo hi : Nat) (v : Value) (vs : List Value) (xss : List (List Int)) (w : World) (hv : OwnR w lo hi v vs xss) (hhi : hi ≤ w.heap.size) (hok : netOk n xss = true) :
    Calls Try.prog 67 #[.agg #[.int .i64 n, v]] w (NetC w (if netOk ((n : Int) + 1) (selX n xss) = true then (n : Int) + 1 else 0) (if netOk ((n : Int) + 1) (selX n xss) = true then selX n xss else []) (netOk ((n : Int) + 1) (selX n xss))) := by
  have HC : Hid (∀ w, OwnR w lo hi v vs xss → hi ≤ w.heap.size → Calls Try.prog 94 #[.agg #[.int .i64 n, v]] w fun e w' => e = .returned (.bool true) ∧ Below w.heap.size w w') := fun w h1 h2 => by
    have := NetworkOk_c n lo hi v vs xss w h1 h2
    rwa [hok] at this
  have HOK := Lib.hid hok
  have HP := Lib.hid (netOk_pair hok)
  have hn8 : n ≤ 8 := by have := netOk_n hok; omega
  have hn1 : 1 ≤ n := by have := netOk_n hok; omega
  have hl60 := netOk_len hok
  obtain ⟨P9, hP9⟩ : ∃ P9, P9 = NetC w (if netOk ((n : Int) + 1) (selX n xss) = true then (n : Int) + 1 else 0) (if netOk ((n : Int) + 1) (selX n xss) = true then selX n xss else []) (netOk ((n : Int) + 1) (selX n xss)) := ⟨_, rfl⟩
  have HP9 := Lib.hid hP9
  rw [← hP9]
  obtain ⟨ao, g, cap, A, G, C, rfl, hcap, hao, hrow⟩ := hv.view
  have HRW := Lib.hid hrow
  have HV := Lib.hid hv
  obtain ⟨L, hlen⟩ : ∃ l, l = xss.length := ⟨_, rfl⟩
  have HLEN := Lib.hid hlen
  rw [← hlen] at HV HC hl60 hcap hao HRW HP ⊢
  have HAO := Lib.hid hao
  clear hv hlen hok hP9 hrow hao
  go_enter Try.func67, Try.ntmps67
  go_wp2_with fail
  obtain ⟨W1, hW1, c0, c1, hsz, hB1, -, -⟩ := box2 w (.int .i64 n) (.slice ao L cap) 30
  have hb9 := blk_new W1 (.cells #[.int .i64 0, .slice none 0 0] 30)
  obtain ⟨W2, hW2⟩ : ∃ W, W = W1.alloc (.cells #[.int .i64 0, .slice none 0 0] 30) := ⟨_, rfl⟩
  have hBa : Below W1.heap.size W1 W2 := by rw [hW2]; exact (Below.refl _ _).alloc (Nat.le_refl _) _
  have hs2 : W2.heap.size = W1.heap.size + 1 := by rw [hW2]; simp
  rw [← hW2] at hb9
  obtain ⟨c0, c1, hz0⟩ := boxC hBa (by omega) c0 c1
  have hB2 : Below w.heap.size w W2 := hB1.trans (hBa.mono (by omega))
  rw [hsz] at hb9
  try rw [hW1, ← hW2]
  have hw2 : w.heap.size + 1 < W2.heap.size := by omega
  clear hW1 hW2 hBa hs2 hsz hB1
  refine (HC.out W2 (HV.out.below hB2 (by omega)) (by omega)).mono ?_
  rintro e w3 ⟨rfl, b3⟩
  obtain ⟨d0, d1, z3⟩ := boxC b3 hz0 c0 c1
  have hr9 := blk_below hb9 b3 hw2
  have HR9 := Lib.hid hr9
  have zz3 := b3.size
  have HV3 := Lib.hid ((HV.out.below hB2 hhi).below b3 (by omega))
  have HB3 : Hid (Below w.heap.size w w3) := hB2.trans (b3.mono (by omega))
  have hw3 : w.heap.size + 1 < w3.heap.size := by omega
  have hle3 : hi ≤ w3.heap.size := by omega
  clear c0 c1 hb9 b3 hB2 HC HV hz0 hw2 zz3 hr9
  go_wp2_with fail
  have hb5 := blk_new w3 (.cells #[.int .i64 ((n : Int) + 1), .slice none 0 0] 30)
  obtain ⟨W5, hW5⟩ : ∃ W, W = w3.alloc (.cells #[.int .i64 ((n : Int) + 1), .slice none 0 0] 30) := ⟨_, rfl⟩
  have hB5 : Below w3.heap.size w3 W5 := by rw [hW5]; exact (Below.refl _ _).alloc (Nat.le_refl _) _
  have hs5 : w3.heap.size + 1 = W5.heap.size := by rw [hW5]; simp
  rw [← hW5] at hb5
  try rw [← hW5]
  clear hW5
  have HB5 := Lib.hid hB5
  have hnb : NB W5 w3.heap.size ((n : Int) + 1) (.slice none 0 0) [] [] := ⟨hb5, OwnR.nil _ _ _⟩
  clear hb5 hB5
  go_loopw [16] (fun i wr => ∃ k : Nat, k ≤ n ∧ i = .int .i64 ((k : Int)) ∧ ∃ v us, NB wr w3.heap.size ((n : Int) + 1) v us (selK k) ∧ Below w3.heap.size W5 wr) (fun i _ => n + 1 - (intOf i).toNat)
  case atStart => exact ⟨0, Nat.zero_le _, by go_num, _, _, by simpa [selK] using hnb, Below.refl _ _⟩
  case round =>
    obtain ⟨k, hk, rfl, v, us, hN, hB⟩ := hrel
    obtain ⟨e0, e1, y0, y1⟩ := hN.cells
    have hXl := hN.lt
    have HN := Lib.hid hN
    have HB : Hid (Below w3.heap.size w3 wr) := HB5.out.trans hB
    have HBr := Lib.hid hB
    obtain ⟨f0, f1, zf⟩ := boxC HB.out z3 d0 d1
    clear hnb hN hB
    by_cases hlt : k < n
    · have hik : (k : Int) < (n : Int) := by omega
      have HLN : Hid ((selK k).length ≤ 1000000) := by show _ ≤ _; rw [selK_len]; omega
      go_wp2_with (at_builtin; refine wpList_app_pair rfl (.tmp 20) (.tmp 24) rfl wr _ _ (w3.heap.size + 1) v us (selK k) HN.out.own (by omega) HLN.out rfl rfl ?_; intro g' L' cap' w1 vs1 hL o1 b1 z1; have bx := blk_below HN.out.box b1 (by omega); have x0 := blk_cell bx 0; have x1 := blk_cell bx 1; have x2 := blk_free bx 1; have BX := Lib.hid bx; have O1 := Lib.hid o1; have B1 := Lib.hid b1; clear bx o1 b1)
      go_roundw
      case rel => exact ⟨k + 1, by omega, by go_num, _, _, by rw [selK_succ]; exact NB.store BX.out O1.out, (HBr.out.trans (B1.out.mono (by omega))).setCell (by show w3.heap.size ≤ w3.heap.size; omega) _⟩
      case measure => simp [intOf]; omega
    · have hkn : k = n := by omega
      have hik : (n : Int) ≤ (k : Int) := by omega
      have HNn : Hid (NB wr w3.heap.size ((n : Int) + 1) v us (selK n)) := by have h := HN.out; rw [hkn] at h; exact h
      clear HN hkn
      have HREN : Hid (∀ W, OwnR W lo hi (.slice ao L cap) vs xss → hi ≤ W.heap.size → Calls Try.prog 130 #[.agg #[.int .i64 n, .slice ao L cap], .int .i64 ((n : Int) + 1), .func (.func 144) #[] #[]] W fun e w' => ∃ u us, e = .returned (.agg #[.int .i64 ((n : Int) + 1), u]) ∧ OwnR w' W.heap.size w'.heap.size u us (renP (fun x => x + 1) xss) ∧ Below W.heap.size W w') := fun W h1 h2 => renamed_SelectWire n lo hi _ vs xss W h1 h2 HOK.out _ #[] (fun x => x + 1) (fun wr _ i hi => SelectWire1_c i (by omega) wr)
      have HVd : Hid (OwnR wr.drew lo hi (.slice ao L cap) vs xss) := HV3.out.below HB.out.drew (by omega)
      have hled : hi ≤ wr.drew.heap.size := by show hi ≤ wr.heap.size; omega
      have HLN2 : Hid ((selK n).length + (renP (fun x => x + 1) xss).length ≤ 1000000) := by show _ ≤ _; rw [selK_len, renP_len, ← HLEN.out]; omega
      have HNd : Hid (NB wr.drew w3.heap.size ((n : Int) + 1) v us (selK n)) := ⟨HNn.out.box, HNn.out.own.kept (w' := wr.drew) fun _ _ _ _ => rfl⟩
      have hzd : w3.heap.size + 1 ≤ wr.drew.heap.size := hXl
      have hzw : wr.drew.heap.size = wr.heap.size := rfl
      have hfd : ∀ (a : Option Addr) (c : Nat) (w : World), (Instr.field 30 (.agg #[.int .i64 ((n : Int) + 1), .slice a L c]) 1).run Try.prog w = .ok (.slice a L c) w := fun _ _ _ => by kernel_rfl
      go_wp2_with fail
      refine wpU_start (S := fun W' : World => W'.cell? ⟨w3.heap.size, 1, none⟩ = some v ∧ W'.cell? ⟨w3.heap.size, 0, none⟩ = some (.int .i64 ((n : Int) + 1)) ∧ W'.cell? ⟨w.heap.size, 0, none⟩ = some (.int .i64 n) ∧ W'.cell? ⟨w.heap.size, 1, none⟩ = some (.slice ao L cap)) (m := 9) (by kernel_rfl) ?_
      have hHeld : (fun W' : World => W'.cell? ⟨w3.heap.size, 1, none⟩ = some v ∧ W'.cell? ⟨w3.heap.size, 0, none⟩ = some (.int .i64 ((n : Int) + 1)) ∧ W'.cell? ⟨w.heap.size, 0, none⟩ = some (.int .i64 n) ∧ W'.cell? ⟨w.heap.size, 1, none⟩ = some (.slice ao L cap)) wr.drew := ⟨e1, e0, f0, f1⟩
      refine wpU_take (i := 0) (v := ?v0) rfl (by kernel_rfl) (fun _ _ _ h => h) ⟨by rfl, ?hy0⟩ hHeld ?rest0
      case hy0 => (intro w hSw; (try dsimp only at hSw); go_simp; try with_reducible rfl)
      try simp only [Act.put, List.setIfInBounds_toArray, List.set_cons_zero, List.set_cons_succ]
      refine wpU_take (i := 1) (v := ?v1) rfl (by kernel_rfl) (fun _ _ _ h => h) ⟨by rfl, ?hy1⟩ hHeld ?rest1
      case hy1 => (intro w hSw; (try dsimp only at hSw); go_simp; try with_reducible rfl)
      try simp only [Act.put, List.setIfInBounds_toArray, List.set_cons_zero, List.set_cons_succ]
      refine wpU_take (i := 2) (v := ?v2) rfl (by kernel_rfl) (fun _ _ _ h => h) ⟨by rfl, ?hy2⟩ hHeld ?rest2
      case hy2 => (intro w hSw; (try dsimp only at hSw); go_simp; try with_reducible rfl)
      try simp only [Act.put, List.setIfInBounds_toArray, List.set_cons_zero, List.set_cons_succ]
      refine wpU_take (i := 3) (v := ?v3) rfl (by kernel_rfl) (fun _ _ _ h => h) ⟨by rfl, ?hy3⟩ hHeld ?rest3
      case hy3 => (intro w hSw; (try dsimp only at hSw); go_simp; try with_reducible rfl)
      try simp only [Act.put, List.setIfInBounds_toArray, List.set_cons_zero, List.set_cons_succ]
      refine wpU_take (i := 4) (v := ?v4) rfl (by kernel_rfl) (fun _ _ _ h => h) ⟨by rfl, ?hy4⟩ hHeld ?rest4
      case hy4 => (intro w hSw; (try dsimp only at hSw); go_simp; try with_reducible rfl)
      try simp only [Act.put, List.setIfInBounds_toArray, List.set_cons_zero, List.set_cons_succ]
      refine wpU_one (i := 5) (by kernel_rfl) rfl (fun K hK => ?_)
      go_simp; go_at_call 130; refine (HREN.out wr.drew HVd.out hled).mono ?_; rintro e w4 ⟨u4, us4, rfl, o4, b4⟩; obtain ⟨ao4, g4, cap4, e4, -, -, -⟩ := o4.rows; rw [renP_len, ← HLEN.out] at e4; subst e4; have zb4 := b4.size; have bx4 := blk_below HNd.out.box b4 hzd; have x0 := blk_cell bx4 0; have x1 := blk_cell bx4 1; have x2 := blk_free bx4 1; obtain ⟨h0, h1, zh⟩ := boxC (undrew b4) zf f0 f1; have BX4 := Lib.hid bx4; have O4 := Lib.hid o4; have N4 := Lib.hid (HNd.out.own.below b4 (Nat.le_refl _)); have B4 := Lib.hid (undrew b4); clear o4 b4 bx4
      refine hK.out _ _ (⟨x1, x0, h0, h1⟩) (fun hHeld => ?_)
      clear hK K
      try simp only [Act.put, List.setIfInBounds_toArray, List.set_cons_zero, List.set_cons_succ]
      refine wpU_one (i := 6) (by kernel_rfl) rfl (fun K hK => ?_)
      go_simp
      refine hK.out _ _ (⟨x1, x0, h0, h1⟩) (fun hHeld => ?_)
      clear hK K
      try simp only [Act.put, List.setIfInBounds_toArray, List.set_cons_zero, List.set_cons_succ]
      refine wpU_one (i := 7) (by kernel_rfl) rfl (fun K hK => ?_)
      refine wp_app_rows (.tmp 29) (.tmp 34) rfl w4 (w3.heap.size + 1) wr.drew.heap.size _ _ us us4 (selK n) (renP (fun x => x + 1) xss) N4.out O4.out hzd zb4 HLN2.out rfl rfl ?_; intro ao5 L5 cap5 w5 us5 hL5 o5 b5 z5; have bx5 := blk_below BX4.out b5 (by omega); have g0 := blk_cell bx5 0; have g1 := blk_cell bx5 1; have g2 := blk_free bx5 1; have i0 := (b5.cell (p := ⟨w.heap.size, 0, none⟩) (by show w.heap.size < _; omega)).trans h0; have i1 := (b5.cell (p := ⟨w.heap.size, 1, none⟩) (by show w.heap.size < _; omega)).trans h1; have BX5 := Lib.hid bx5; have O5 := Lib.hid o5; have B5 := Lib.hid b5; clear bx5 o5 b5
      refine hK.out _ _ (⟨g1, g0, i0, i1⟩) (fun hHeld => ?_)
      clear hK K
      try simp only [Act.put, List.setIfInBounds_toArray, List.set_cons_zero, List.set_cons_succ]
      refine wpU_take (i := 8) (v := ?v8) rfl (by kernel_rfl) (fun _ _ _ h => h) ⟨by rfl, ?hy8⟩ hHeld ?rest8
      case hy8 => (intro w hSw; (try dsimp only at hSw); go_simp; try with_reducible rfl)
      try simp only [Act.put, List.setIfInBounds_toArray, List.set_cons_zero, List.set_cons_succ]
      refine wpU_last (by kernel_rfl) rfl (fun K hK => ?_)
      go_simp
      refine hK.out _ _ ?_
      clear hK K
      try simp only [Act.put, List.setIfInBounds_toArray, List.set_cons_zero, List.set_cons_succ]
      refine wpU_done (by kernel_rfl) ?_ _
      all_goals
       obtain ⟨W9, hW9⟩ : ∃ W, W = w5.setCell ⟨w3.heap.size, 1, none⟩ (.slice ao5 L5 cap5) := ⟨_, rfl⟩
       try rw [← hW9]
       have hN9 : NB W9 w3.heap.size ((n : Int) + 1) (.slice ao5 L5 cap5) us5 (selX n xss) := by rw [hW9]; exact NB.store BX5.out O5.out
       have HB9 : Hid (Below w3.heap.size w3 W9) := by
         show Below _ _ _
         rw [hW9]
         exact ((HB.out.trans (B4.out.mono (by omega))).trans (B5.out.mono (by omega))).setCell (by show w3.heap.size ≤ w3.heap.size; omega) _
       clear hW9 x0 x1 x2 g0 g1 g2
       obtain ⟨f0, f1, zf⟩ := boxC HB9.out z3 d0 d1
       have HN9 := Lib.hid hN9
       obtain ⟨e0, e1, y0, y1⟩ := hN9.cells
       have HBf : Hid (Below w.heap.size w W9) := HB3.out.trans (HB9.out.mono (by omega))
       have hrr := blk_below HR9.out HB9.out hw3
       have HRR := Lib.hid hrr
       have hle9 : w3.heap.size < W9.heap.size := hN9.lt
       have CK := Lib.hid (checked_c ((n : Int) + 1) (w3.heap.size + 1) W9.heap.size _ _ _ W9 hN9.own (Nat.le_refl _))
       obtain ⟨ao9, g9, cap9, e9, -, -, -⟩ := hN9.own.rows
       obtain ⟨M, hM⟩ : ∃ M, M = (selX n xss).length := ⟨_, rfl⟩
       rw [← hM] at e9
       try subst e9
       obtain ⟨b9, hb9⟩ : ∃ b, b = netOk ((n : Int) + 1) (selX n xss) := ⟨_, rfl⟩
       rw [← hb9] at CK HP9
       clear hrr hM hb9 hN9
       cases b9
       all_goals
         go_wp2_with fail
         refine CK.out.mono ?_
         rintro e w9 ⟨rfl, b9⟩
         have hr9 := blk_below HRR.out b9 (by omega)
         have q0 := blk_cell hr9 0
         have q1 := blk_cell hr9 1
         have x0 := blk_free hr9 0
         have x1 := blk_free hr9 1
         have HR9' := Lib.hid hr9
         have HO9 := Lib.hid (HN9.out.own.later b9)
         have HB9' : Hid (Below w.heap.size w w9) := HBf.out.trans (b9.mono (by have := HBf.out.size; omega))
         have z9 := b9.size
         clear hr9 b9
       · simp only [Bool.false_eq_true, if_false]
         go_wp2
         refine bodyPost_ret (v := .tuple #[.agg #[.int .i64 0, .slice none 0 0], .bool false]) (by simp [results, Try.results67, go_sem, q0, q1]) rfl ?_
         rw [HP9.out]
         refine ⟨_, [], rfl, OwnR.nil _ _ _, ?_⟩
         first
           | exact (HB9'.out.setCell (by show w.heap.size ≤ w.heap.size + 1; omega) _).setCell (by show w.heap.size ≤ w.heap.size + 1; omega) _
           | exact HB9'.out
       · simp only [if_true]
         go_wp2
         refine bodyPost_ret (v := .tuple #[.agg #[.int .i64 ((n : Int) + 1), .slice ao5 L5 cap5], .bool true]) (by simp [results, Try.results67, go_sem, q0, q1]) rfl ?_
         rw [HP9.out]
         refine ⟨_, us5, rfl, ?_, (HB9'.out.setCell (by show w.heap.size ≤ w.heap.size + 1; omega) _).setCell (by show w.heap.size ≤ w.heap.size + 1; omega) _⟩
         exact ((HO9.out.past_box HR9'.out).past_box (box_set0 HR9'.out)).mono (by omega) (by simp [World.setCell]; omega)

set_option maxHeartbeats 1000000 in
theorem BubbleNetwork_i (n : Nat) (w : World) (h1 : 1 ≤ n) (h2 : n ≤ 8) (hb : inB (n : Int) 1 8 = true) :
    Calls Try.prog 57 #[.int .i64 n] w (NetC w n (net2 (fun s => n - 1 - s) (fun (_ k : Nat) => [(k : Int), (k : Int) + 1]) (n - 1)) true) := by
  obtain ⟨cn, hcn⟩ : ∃ cn : Nat → Nat, cn = (fun s => n - 1 - s) := ⟨_, rfl⟩
  obtain ⟨PP, hPP⟩ : ∃ PP : Nat → Nat → List Int, PP = (fun (_ k : Nat) => [(k : Int), (k : Int) + 1]) := ⟨_, rfl⟩
  rw [← hcn, ← hPP]
  have HCN := Lib.hid hcn
  have HPP := Lib.hid hPP
  have HLEN : Hid (∀ t k, t ≤ n - 1 → k ≤ cn t → (net2 cn PP t ++ (List.range k).map (PP t)).length ≤ 1000000) := by
    intro t k ht hk
    have hc : ∀ s, s ≤ t → cn s ≤ 8 := by intro s hs; rw [HCN.out]; show (n - 1 - s) ≤ 8; omega
    have h0 : ∀ i, i ≤ t → (net2 cn PP i).length ≤ 8 * i := by
      intro i
      induction i with
      | zero => simp [net2]
      | succ i ih => intro hi; rw [net2_succ, List.length_append, List.length_map, List.length_range]; have := hc i (by omega); have := ih (by omega); omega
    have := h0 t (Nat.le_refl _)
    have := hc t (Nat.le_refl _)
    rw [List.length_append, List.length_map, List.length_range]; omega
  clear hcn hPP
  go_enter Try.func57, Try.ntmps57
  go_wp2_with ((go_at_call 105; refine (isWires_c _ _).mono ?_; rintro e w' ⟨rfl, rfl⟩))
  obtain ⟨W, hW, hnb, hrs, hbw, hsz⟩ := netInit w n
  rw [hW]
  clear hW
  have hX : w.heap.size < w.heap.size + 1 := by omega
  go_loopw [5] (fun j wr => ∃ t : Nat, t ≤ n - 1 ∧ j = .int .i64 ((n : Int) - 1 - t) ∧ ∃ v vs, NB wr (w.heap.size + 1) n v vs (net2 cn PP t) ∧ Below (w.heap.size + 1) W wr) (fun j _ => (intOf j).toNat)
  case atStart => exact ⟨0, by omega, by go_num, _, _, hnb, Below.refl _ _⟩
  case round =>
    obtain ⟨t, ht, rfl, v, vs, hN, hB⟩ := hrel
    clear hnb
    have HRS := Lib.hid (blk_below hrs hB (by omega))
    have HN := Lib.hid hN
    have HB := Lib.hid hB
    have HSZ := Lib.hid hsz
    clear hsz
    by_cases hlt : t < n - 1
    · clear hN hB
      have hj : (1 : Int) ≤ (n : Int) - 1 - t := by omega
      obtain ⟨wo, rfl⟩ : ∃ wo : World, wo = wr := ⟨_, rfl⟩
      go_wp2
      go_loopw [20] (fun i wr => ∃ k : Nat, k ≤ cn t ∧ i = .int .i64 ((k : Int)) ∧ ∃ v vs, NB wr (w.heap.size + 1) n v vs (net2 cn PP t ++ (List.range k).map (PP t)) ∧ Below (w.heap.size + 1) W wr) (fun i _ => n - (intOf i).toNat)
      case atStart => exact ⟨0, by omega, by go_num, v, vs, by simpa using HN.out, HB.out⟩
      case round =>
        obtain ⟨k, hk, rfl, v, vs, hN, hB⟩ := hrel
        clear HN HB HRS
        obtain ⟨c0, c1, z0, z1⟩ := hN.cells
        have HN := Lib.hid hN
        have HB := Lib.hid hB
        have hXl := hN.lt
        have hlen := HLEN.out t k ht hk
        have hcn : cn t = n - 1 - t := by rw [HCN.out]
        have HCNT := Lib.hid hcn
        rw [hcn] at hk
        clear hN hB hcn
        by_cases hkl : k < n - 1 - t
        · have hi : (k : Int) < (n : Int) - 1 - t := by omega
          have HLN := Lib.hid hlen
          clear hlen
          go_wp2_with (at_builtin; refine wpList_app_pair rfl (.tmp 24) (.tmp 29) rfl wr _ _ (w.heap.size + 1 + 1) v vs (net2 cn PP t ++ (List.range k).map (PP t)) HN.out.own (by omega) HLN.out rfl rfl ?_; intro g' L' cap' w1 vs1 hL o1 b1 z1; have bx := blk_below HN.out.box b1 (by omega); have c0 := blk_cell bx 0; have c1 := blk_cell bx 1; have f1 := blk_free bx 1; have BX := Lib.hid bx; have O1 := Lib.hid o1; clear bx o1)
          go_roundw
          case rel => exact ⟨k + 1, by have := HCNT.out; omega, by go_num, _, _, by rw [row_succ, show PP t k = _ from by rw [HPP.out]]; exact NB.store BX.out O1.out, (HB.out.trans (b1.mono (by omega))).setCell (by show w.heap.size + 1 ≤ w.heap.size + 1; omega) _⟩
          case measure => simp [intOf]; omega
        · have hi : (n : Int) - 1 - t ≤ (k : Int) := by omega
          have HE : Hid (k = cn t) := by have := HCNT.out; show k = _; omega
          clear hlen
          go_wp2
          go_roundw
          case rel => exact ⟨t + 1, by omega, by go_num, v, vs, by rw [net2_succ, ← HE.out]; exact HN.out, HB.out⟩
          case measure => simp [intOf]; omega
    · have HE : Hid (t = n - 1) := by show t = _; omega
      have hj : (n : Int) - 1 - t < 1 := by omega
      obtain ⟨c0, c1, z0, z1⟩ := hN.cells
      obtain ⟨hfin, hbel, r0, r1, y0, y1⟩ := netFin hN (by omega) HRS.out (hbw.trans (hB.mono (by omega)))
      have HF := Lib.hid hfin
      have HL := Lib.hid hbel
      obtain ⟨L, hL⟩ : ∃ L, L = (net2 cn PP t).length := ⟨_, rfl⟩
      obtain ⟨ao, g, cap, ev, -, -, -⟩ := hN.own.rows
      rw [← hL] at ev
      clear hfin hbel hN hB hL
      subst ev
      go_wp2
      refine bodyPost_ret (v := .tuple #[.agg #[.int .i64 n, .slice ao L cap], .bool true]) (by simp [results, Try.results57, go_sem, r0, r1]) rfl ⟨_, vs, rfl, by rw [← HE.out]; exact HF.out, HL.out⟩

theorem BubbleNetwork_i_none (a : Int) (w : World) (hb : inB a 1 8 = false) : Calls Try.prog 57 #[.int .i64 a] w (NetC w 0 [] false) := by
  go_enter Try.func57, Try.ntmps57
  go_wp2_with ((go_at_call 105; refine (isWires_c _ _).mono ?_; rintro e w' ⟨rfl, rfl⟩))
  have h1 := blk_new w (.cells #[.int .i64 0, .slice none 0 0] 30)
  have c0 := blk_cell h1 0
  have c1 := blk_cell h1 1
  have hb : Below w.heap.size w (w.alloc (.cells #[.int .i64 0, .slice none 0 0] 30)) := (Below.refl _ _).alloc (Nat.le_refl _) _
  first
    | exact bodyPost_ret (v := .tuple #[.agg #[.int .i64 0, .slice none 0 0], .bool false]) (by simp [results, Try.results57, go_sem]) rfl ⟨_, [], rfl, OwnR.nil _ _ _, hb⟩
    | exact bodyPost_ret (v := .tuple #[.agg #[.int .i64 0, .slice none 0 0], .bool false]) (by simp [results, Try.results57, go_sem]) rfl ⟨_, [], rfl, OwnR.nil _ _ _, (hb.setCell (Nat.le_refl _) _).setCell (Nat.le_refl _) _⟩
def XBubbleNetwork (a : Int) : List (List Int) := if inB a 1 8 = true then net2 (fun s => a.toNat - 1 - s) (fun (_ k : Nat) => [(k : Int), (k : Int) + 1]) (a.toNat - 1) else []
theorem XBubbleNetwork_small (a : Int) : smallR (XBubbleNetwork a) := by
  unfold XBubbleNetwork
  split
  · rename_i h
    have hb := inB_of h
    exact net2_pairs _ _ _ (by omega) (by intro s hs; show ( a.toNat - 1 - s) ≤ 8; omega) (fun _ _ => rfl)
  · exact smallR_pairs (by simp) (by simp)
theorem BubbleNetwork_i_c (a : Int) (w : World) : Calls Try.prog 57 #[.int .i64 a] w (NetC w (if inB a 1 8 = true then a else 0) (XBubbleNetwork a) (inB a 1 8)) := by
  by_cases h : inB a 1 8 = true
  · have hb := inB_of h
    obtain ⟨n, rfl⟩ := Int.eq_ofNat_of_zero_le (by omega : 0 ≤ a)
    unfold XBubbleNetwork
    rw [if_pos h, if_pos h, h]
    exact BubbleNetwork_i n w (by omega) (by omega) h
  · replace h : inB a 1 8 = false := by simpa using h
    unfold XBubbleNetwork
    rw [if_neg (by simp [h]), if_neg (by simp [h]), h]
    exact BubbleNetwork_i_none a w h
set_option maxHeartbeats 1000000 in
theorem SelectNetwork_i (n m : Nat) (w : World) (h1 : 1 ≤ n) (h2 : n ≤ 8) (hb : inB (n : Int) 1 8 = true) (h3 : m ≤ n) (_hb2 : inB (m : Int) 0 n = true) :
    Calls Try.prog 133 #[.int .i64 n, .int .i64 m] w (NetC w n (net2 (fun s => n - 1 - s) (fun (s k : Nat) => [(s : Int), (s : Int) + 1 + k]) (m)) true) := by
  obtain ⟨cn, hcn⟩ : ∃ cn : Nat → Nat, cn = (fun s => n - 1 - s) := ⟨_, rfl⟩
  obtain ⟨PP, hPP⟩ : ∃ PP : Nat → Nat → List Int, PP = (fun (s k : Nat) => [(s : Int), (s : Int) + 1 + k]) := ⟨_, rfl⟩
  rw [← hcn, ← hPP]
  have HCN := Lib.hid hcn
  have HPP := Lib.hid hPP
  have HLEN : Hid (∀ t k, t ≤ m → k ≤ cn t → (net2 cn PP t ++ (List.range k).map (PP t)).length ≤ 1000000) := by
    intro t k ht hk
    have hc : ∀ s, s ≤ t → cn s ≤ 8 := by intro s hs; rw [HCN.out]; show (n - 1 - s) ≤ 8; omega
    have h0 : ∀ i, i ≤ t → (net2 cn PP i).length ≤ 8 * i := by
      intro i
      induction i with
      | zero => simp [net2]
      | succ i ih => intro hi; rw [net2_succ, List.length_append, List.length_map, List.length_range]; have := hc i (by omega); have := ih (by omega); omega
    have := h0 t (Nat.le_refl _)
    have := hc t (Nat.le_refl _)
    rw [List.length_append, List.length_map, List.length_range]; omega
  clear hcn hPP
  have hm0 : decide ((m : Int) < 0) = false := by simp
  have hm1 : decide (n < m) = false := by simp; omega
  go_enter Try.func133, Try.ntmps133
  go_wp2_with ((go_at_call 105; refine (isWires_c _ _).mono ?_; rintro e w' ⟨rfl, rfl⟩))
  obtain ⟨W, hW, hnb, hrs, hbw, hsz⟩ := netInit w n
  rw [hW]
  clear hW
  have hX : w.heap.size < w.heap.size + 1 := by omega
  go_loopw [25] (fun j wr => ∃ t : Nat, t ≤ m ∧ j = .int .i64 ((t : Int)) ∧ ∃ v vs, NB wr (w.heap.size + 1) n v vs (net2 cn PP t) ∧ Below (w.heap.size + 1) W wr) (fun j _ => (m - (intOf j).toNat))
  case atStart => exact ⟨0, by omega, by go_num, _, _, hnb, Below.refl _ _⟩
  case round =>
    obtain ⟨t, ht, rfl, v, vs, hN, hB⟩ := hrel
    clear hnb
    have HRS := Lib.hid (blk_below hrs hB (by omega))
    have HN := Lib.hid hN
    have HB := Lib.hid hB
    have HSZ := Lib.hid hsz
    clear hsz
    by_cases hlt : t < m
    · clear hN hB
      have hj : (t : Int) < (m : Int) := by omega
      obtain ⟨wo, rfl⟩ : ∃ wo : World, wo = wr := ⟨_, rfl⟩
      go_wp2
      go_loopw [8] (fun i wr => ∃ k : Nat, k ≤ cn t ∧ i = .int .i64 ((t : Int) + 1 + k) ∧ ∃ v vs, NB wr (w.heap.size + 1) n v vs (net2 cn PP t ++ (List.range k).map (PP t)) ∧ Below (w.heap.size + 1) W wr) (fun i _ => n - (intOf i).toNat)
      case atStart => exact ⟨0, by omega, by go_num, v, vs, by simpa using HN.out, HB.out⟩
      case round =>
        obtain ⟨k, hk, rfl, v, vs, hN, hB⟩ := hrel
        clear HN HB HRS
        obtain ⟨c0, c1, z0, z1⟩ := hN.cells
        have HN := Lib.hid hN
        have HB := Lib.hid hB
        have hXl := hN.lt
        have hlen := HLEN.out t k ht hk
        have hcn : cn t = n - 1 - t := by rw [HCN.out]
        have HCNT := Lib.hid hcn
        rw [hcn] at hk
        clear hN hB hcn
        by_cases hkl : k < n - 1 - t
        · have hi : (t : Int) + 1 + k < (n : Int) := by omega
          have HLN := Lib.hid hlen
          clear hlen
          go_wp2_with (at_builtin; refine wpList_app_pair rfl (.tmp 36) (.tmp 40) rfl wr _ _ (w.heap.size + 1 + 1) v vs (net2 cn PP t ++ (List.range k).map (PP t)) HN.out.own (by omega) HLN.out rfl rfl ?_; intro g' L' cap' w1 vs1 hL o1 b1 z1; have bx := blk_below HN.out.box b1 (by omega); have c0 := blk_cell bx 0; have c1 := blk_cell bx 1; have f1 := blk_free bx 1; have BX := Lib.hid bx; have O1 := Lib.hid o1; clear bx o1)
          go_roundw
          case rel => exact ⟨k + 1, by have := HCNT.out; omega, by go_num, _, _, by rw [row_succ, show PP t k = _ from by rw [HPP.out]]; exact NB.store BX.out O1.out, (HB.out.trans (b1.mono (by omega))).setCell (by show w.heap.size + 1 ≤ w.heap.size + 1; omega) _⟩
          case measure => simp [intOf]; omega
        · have hi : (n : Int) ≤ (t : Int) + 1 + k := by omega
          have HE : Hid (k = cn t) := by have := HCNT.out; show k = _; omega
          clear hlen
          go_wp2
          go_roundw
          case rel => exact ⟨t + 1, by omega, by go_num, v, vs, by rw [net2_succ, ← HE.out]; exact HN.out, HB.out⟩
          case measure => simp [intOf]; omega
    · have HE : Hid (t = m) := by show t = _; omega
      have hj : (m : Int) ≤ (t : Int) := by omega
      obtain ⟨c0, c1, z0, z1⟩ := hN.cells
      obtain ⟨hfin, hbel, r0, r1, y0, y1⟩ := netFin hN (by omega) HRS.out (hbw.trans (hB.mono (by omega)))
      have HF := Lib.hid hfin
      have HL := Lib.hid hbel
      obtain ⟨L, hL⟩ : ∃ L, L = (net2 cn PP t).length := ⟨_, rfl⟩
      obtain ⟨ao, g, cap, ev, -, -, -⟩ := hN.own.rows
      rw [← hL] at ev
      clear hfin hbel hN hB hL
      subst ev
      go_wp2
      refine bodyPost_ret (v := .tuple #[.agg #[.int .i64 n, .slice ao L cap], .bool true]) (by simp [results, Try.results133, go_sem, r0, r1]) rfl ⟨_, vs, rfl, by rw [← HE.out]; exact HF.out, HL.out⟩

theorem SelectNetwork_i_none (a b : Int) (w : World) (hb : inB a 1 8 = false) : Calls Try.prog 133 #[.int .i64 a, .int .i64 b] w (NetC w 0 [] false) := by
  go_enter Try.func133, Try.ntmps133
  go_wp2_with ((go_at_call 105; refine (isWires_c _ _).mono ?_; rintro e w' ⟨rfl, rfl⟩))
  have h1 := blk_new w (.cells #[.int .i64 0, .slice none 0 0] 30)
  have c0 := blk_cell h1 0
  have c1 := blk_cell h1 1
  have hb : Below w.heap.size w (w.alloc (.cells #[.int .i64 0, .slice none 0 0] 30)) := (Below.refl _ _).alloc (Nat.le_refl _) _
  first
    | exact bodyPost_ret (v := .tuple #[.agg #[.int .i64 0, .slice none 0 0], .bool false]) (by simp [results, Try.results133, go_sem]) rfl ⟨_, [], rfl, OwnR.nil _ _ _, hb⟩
    | exact bodyPost_ret (v := .tuple #[.agg #[.int .i64 0, .slice none 0 0], .bool false]) (by simp [results, Try.results133, go_sem]) rfl ⟨_, [], rfl, OwnR.nil _ _ _, (hb.setCell (Nat.le_refl _) _).setCell (Nat.le_refl _) _⟩
theorem SelectNetwork_i0_none (a b : Int) (w : World) (hb : inB a 1 8 = true) (h3 : b < 0) : Calls Try.prog 133 #[.int .i64 a, .int .i64 b] w (NetC w 0 [] false) := by
  go_enter Try.func133, Try.ntmps133
  go_wp2_with ((go_at_call 105; refine (isWires_c _ _).mono ?_; rintro e w' ⟨rfl, rfl⟩))
  have h1 := blk_new w (.cells #[.int .i64 0, .slice none 0 0] 30)
  have c0 := blk_cell h1 0
  have c1 := blk_cell h1 1
  have hb : Below w.heap.size w (w.alloc (.cells #[.int .i64 0, .slice none 0 0] 30)) := (Below.refl _ _).alloc (Nat.le_refl _) _
  first
    | exact bodyPost_ret (v := .tuple #[.agg #[.int .i64 0, .slice none 0 0], .bool false]) (by simp [results, Try.results133, go_sem]) rfl ⟨_, [], rfl, OwnR.nil _ _ _, hb⟩
    | exact bodyPost_ret (v := .tuple #[.agg #[.int .i64 0, .slice none 0 0], .bool false]) (by simp [results, Try.results133, go_sem]) rfl ⟨_, [], rfl, OwnR.nil _ _ _, (hb.setCell (Nat.le_refl _) _).setCell (Nat.le_refl _) _⟩
theorem SelectNetwork_i1_none (a b : Int) (w : World) (hb : inB a 1 8 = true) (h3 : 0 ≤ b) (h4 : a < b) : Calls Try.prog 133 #[.int .i64 a, .int .i64 b] w (NetC w 0 [] false) := by
  go_enter Try.func133, Try.ntmps133
  go_wp2_with ((go_at_call 105; refine (isWires_c _ _).mono ?_; rintro e w' ⟨rfl, rfl⟩))
  have h1 := blk_new w (.cells #[.int .i64 0, .slice none 0 0] 30)
  have c0 := blk_cell h1 0
  have c1 := blk_cell h1 1
  have hb : Below w.heap.size w (w.alloc (.cells #[.int .i64 0, .slice none 0 0] 30)) := (Below.refl _ _).alloc (Nat.le_refl _) _
  first
    | exact bodyPost_ret (v := .tuple #[.agg #[.int .i64 0, .slice none 0 0], .bool false]) (by simp [results, Try.results133, go_sem]) rfl ⟨_, [], rfl, OwnR.nil _ _ _, hb⟩
    | exact bodyPost_ret (v := .tuple #[.agg #[.int .i64 0, .slice none 0 0], .bool false]) (by simp [results, Try.results133, go_sem]) rfl ⟨_, [], rfl, OwnR.nil _ _ _, (hb.setCell (Nat.le_refl _) _).setCell (Nat.le_refl _) _⟩
def VSelectNetwork (a b : Int) : Bool := inB a 1 8 && inB b 0 a
def XSelectNetwork (a b : Int) : List (List Int) := if VSelectNetwork a b = true then net2 (fun s => a.toNat - 1 - s) (fun (s k : Nat) => [(s : Int), (s : Int) + 1 + k]) (b.toNat) else []
theorem VSelectNetwork_of {a b : Int} (h : VSelectNetwork a b = true) : (1 ≤ a ∧ a ≤ 8) ∧ (0 ≤ b ∧ b ≤ a) := by simpa [VSelectNetwork, inB] using h
theorem XSelectNetwork_small (a b : Int) : smallR (XSelectNetwork a b) := by
  unfold XSelectNetwork
  split
  · rename_i h
    have hb := VSelectNetwork_of h
    exact net2_pairs _ _ _ (by omega) (by intro s hs; show ( a.toNat - 1 - s) ≤ 8; omega) (fun _ _ => rfl)
  · exact smallR_pairs (by simp) (by simp)
theorem SelectNetwork_i_c (a b : Int) (w : World) : Calls Try.prog 133 #[.int .i64 a, .int .i64 b] w (NetC w (if VSelectNetwork a b = true then a else 0) (XSelectNetwork a b) (VSelectNetwork a b)) := by
  by_cases h : VSelectNetwork a b = true
  · have hb := VSelectNetwork_of h
    obtain ⟨n, rfl⟩ := Int.eq_ofNat_of_zero_le (by omega : 0 ≤ a)
    obtain ⟨m, rfl⟩ := Int.eq_ofNat_of_zero_le (by omega : 0 ≤ b)
    unfold XSelectNetwork
    rw [if_pos h, if_pos h, h]
    exact SelectNetwork_i n m w (by omega) (by omega) (inB_mk hb.1) (by omega) (inB_mk (by omega))
  · replace h : VSelectNetwork a b = false := by simpa using h
    unfold XSelectNetwork
    rw [if_neg (by simp [h]), if_neg (by simp [h]), h]
    by_cases h1 : inB a 1 8 = true
    · have hb := inB_of h1
      have h2 : inB b 0 a = false := by simpa [VSelectNetwork, h1] using h
      have h3 : b < 0 ∨ a < b := by simp [inB] at h2; omega
      rcases h3 with h3 | h3
      · exact SelectNetwork_i0_none a b w h1 h3
      · exact SelectNetwork_i1_none a b w h1 (by omega) h3
    · replace h1 : inB a 1 8 = false := by simpa using h1
      exact SelectNetwork_i_none a b w h1
def XSelectionNetwork (a : Int) : List (List Int) := if inB a 1 8 = true then net2 (fun s => a.toNat - 1 - s) (fun (s k : Nat) => [(s : Int), (s : Int) + 1 + k]) (a.toNat - 1) else []
theorem SelectionNetwork_i_any (a : Int) (w : World) (nn : Int) (xx : List (List Int)) (bb : Bool)
    (hs : ∀ m w, ((1 ≤ a ∧ a ≤ 8) → m = a - 1) → Calls Try.prog 133 #[.int .i64 a, .int .i64 m] w (NetC w nn xx bb)) : Calls Try.prog 59 #[.int .i64 a] w (NetC w nn xx bb) := by
  have HS := Lib.hid hs
  clear hs
  have fin : ∀ m : Int, ((1 ≤ a ∧ a ≤ 8) → m = a - 1) → ∀ (e : Ending) (w1 : World), NetC (w.alloc (.cells #[.int .i64 0, .slice none 0 0] 30)) nn xx bb e w1 → ∃ ao L cap, e = .returned (.tuple #[.agg #[.int .i64 nn, .slice ao L cap], .bool bb]) ∧
      (w1.cell? ⟨w.heap.size, 0, none⟩ = some (.int .i64 0) ∧ w1.cell? ⟨w.heap.size, 1, none⟩ = some (.slice none 0 0) ∧ w1.frozen? ⟨w.heap.size, 0, none⟩ = false ∧ w1.frozen? ⟨w.heap.size, 1, none⟩ = false) ∧
      Hid (NetC w nn xx bb (.returned (.tuple #[.agg #[.int .i64 nn, .slice ao L cap], .bool bb])) ((w1.setCell ⟨w.heap.size, 0, none⟩ (.int .i64 nn)).setCell ⟨w.heap.size, 1, none⟩ (.slice ao L cap))) := by
    rintro m - e w1 ⟨v, vs, rfl, ho, hb1⟩
    obtain ⟨ao, g, cap, rfl, -, -, -⟩ := ho.rows
    have h1 := blk_below (blk_new w (.cells #[.int .i64 0, .slice none 0 0] 30)) hb1 (by simp)
    refine ⟨ao, _, cap, rfl, ⟨blk_cell h1 0, blk_cell h1 1, blk_free h1 0, blk_free h1 1⟩, _, vs, rfl, ?_, ((((Below.refl _ _).alloc (Nat.le_refl _) _).trans (hb1.mono (by simp))).setCell (Nat.le_refl _) _).setCell (Nat.le_refl _) _⟩
    rw [show ((w1.setCell ⟨w.heap.size, 0, none⟩ (.int .i64 nn)).setCell ⟨w.heap.size, 1, none⟩ (.slice ao xx.length cap)).heap.size = w1.heap.size from by simp [World.setCell]]
    refine (ho.kept fun k k1 _ _ => ?_).mono (by simp) (Nat.le_refl _)
    have k1' : w.heap.size + 1 ≤ k := by simpa using k1
    rw [Below.heap_setCell _ _ _ _ (by show k ≠ w.heap.size; omega), Below.heap_setCell _ _ _ _ (by show k ≠ w.heap.size; omega)]
  have FIN := Lib.hid fin
  clear fin
  by_cases h : 1 ≤ a ∧ a ≤ 8
  · obtain ⟨b1, b2⟩ := h
    go_enter Try.func59, Try.ntmps59
    go_wp2_with fail
    all_goals
      refine (HS.out _ _ (fun _ => by omega)).mono ?_
      intro e w1 hn
      obtain ⟨ao, L, cap, rfl, ⟨c0, c1, f0, f1⟩, HF⟩ := FIN.out (a - 1) (fun _ => rfl) e w1 hn
      clear hn
      go_wp2
      exact bodyPost_ret (v := .tuple #[.agg #[.int .i64 nn, .slice ao L cap], .bool bb]) (by simp [results, Try.results59, go_sem, c0, c1]) rfl HF.out
  · have HN := Lib.hid h
    clear h
    go_enter Try.func59, Try.ntmps59
    go_wp2_with fail
    all_goals
      refine (HS.out _ _ (fun h => absurd h HN.out)).mono ?_
      intro e w1 hn
      obtain ⟨ao, L, cap, rfl, ⟨c0, c1, f0, f1⟩, HF⟩ := FIN.out (a - 1) (fun _ => rfl) e w1 hn
      clear hn
      go_wp2
      exact bodyPost_ret (v := .tuple #[.agg #[.int .i64 nn, .slice ao L cap], .bool bb]) (by simp [results, Try.results59, go_sem, c0, c1]) rfl HF.out
theorem SelectionNetwork_i_c (a : Int) (w : World) : Calls Try.prog 59 #[.int .i64 a] w (NetC w (if inB a 1 8 = true then a else 0) (XSelectionNetwork a) (inB a 1 8)) := by
  refine SelectionNetwork_i_any a w _ _ _ fun m w' hm => ?_
  have h0 := SelectNetwork_i_c a m w'
  by_cases h : inB a 1 8 = true
  · have hb := inB_of h
    obtain rfl := hm hb
    have hv : VSelectNetwork a (a - 1) = true := by simp [VSelectNetwork, inB]; omega
    have hx : XSelectNetwork a (a - 1) = XSelectionNetwork a := by
      unfold XSelectNetwork XSelectionNetwork
      rw [if_pos hv, if_pos h, show (a - 1).toNat = a.toNat - 1 from by omega]
    rw [hv, hx, if_pos rfl] at h0
    rw [h, if_pos rfl]
    exact h0
  · replace h : inB a 1 8 = false := by simpa using h
    have hv : VSelectNetwork a m = false := by simp [VSelectNetwork, h]
    have hx : XSelectNetwork a m = XSelectionNetwork a := by
      unfold XSelectNetwork XSelectionNetwork
      rw [if_neg (by simp [hv]), if_neg (by simp [h])]
    rw [hv, hx, if_neg (by simp)] at h0
    rw [h, if_neg (by simp)]
    exact h0
theorem XSelectionNetwork_small (a : Int) : smallR (XSelectionNetwork a) := by
  unfold XSelectionNetwork
  split
  · rename_i h
    have hb := inB_of h
    exact net2_pairs _ _ _ (by omega) (by intro s hs; show a.toNat - 1 - s ≤ 8; omega) (fun _ _ => rfl)
  · exact smallR_pairs (by simp) (by simp)
/-- The comparators of r rounds of bricks. -/
def bricks (n r : Nat) : List (List Int) := net2 (fun s => (n - s % 2) / 2) (fun (s k : Nat) => [((s % 2 : Nat) : Int) + 2 * k, ((s % 2 : Nat) : Int) + 2 * k + 1]) r
theorem bricks_succ (n r : Nat) : bricks n (r + 1) = bricks n r ++ brickR n (r % 2) ((n - r % 2) / 2) := by unfold bricks; rw [net2_succ]; rfl
theorem bricks_ok (n r : Nat) (h1 : 1 ≤ n) (h8 : n ≤ 8) (hr : r ≤ 8) : netOk n (bricks n r) = true := by
  have : ∀ n < 9, 1 ≤ n → ∀ r < 9, netOk (n : Nat) (bricks n r) = true := by decide +kernel
  exact this n (by omega) h1 r (by omega)
theorem brickR_ok (n r : Nat) (h1 : 1 ≤ n) (h8 : n ≤ 8) : netOk n (brickR n (r % 2) ((n - r % 2) / 2)) = true := by
  have : ∀ n < 9, 1 ≤ n → ∀ r < 2, netOk (n : Nat) (brickR n r ((n - r) / 2)) = true := by decide +kernel
  exact this n (by omega) h1 (r % 2) (by omega)
theorem bricks_sort (n : Nat) (h1 : 1 ≤ n) (h8 : n ≤ 8) : ∀ m, m < 2 ^ n → bitsP (bricks n n) m = srt n m := by
  have : ∀ n < 9, 1 ≤ n → ∀ m < 2 ^ n, bitsP (bricks n n) m = srt n m := by decide +kernel
  exact this n (by omega) h1
theorem bricks_step (n r : Nat) (l : List Int) : applyP (bricks n (r + 1)) l = applyP (brickR n (r % 2) ((n - r % 2) / 2)) (applyP (bricks n r) l) := by rw [bricks_succ, applyP, List.foldl_append]; rfl
theorem least_of {p : Nat → Bool} : ∀ {n : Nat}, p n = true → ∃ R, R ≤ n ∧ p R = true ∧ ∀ r, r < R → p r = false := by
  intro n
  induction n using Nat.strongRecOn with
  | ind n ih =>
    intro h
    by_cases hx : ∃ m, m < n ∧ p m = true
    · obtain ⟨m, hm, hp⟩ := hx
      obtain ⟨R, h1, h2, h3⟩ := ih m hm hp
      exact ⟨R, by omega, h2, h3⟩
    · exact ⟨n, Nat.le_refl _, h, fun r hr => by
        rw [Bool.eq_false_iff]
        exact fun h2 => hx ⟨r, hr, h2⟩⟩
theorem bricks_least (n : Nat) (l : List Int) (h1 : 1 ≤ n) (h8 : n ≤ 8) (hl : l.length = n) : ∃ R, R ≤ 8 ∧ risesB (applyP (bricks n R) l) = true ∧ ∀ r, r < R → risesB (applyP (bricks n r) l) = false := by
  obtain ⟨R, a, b, c⟩ := least_of (p := fun r => risesB (applyP (bricks n r) l)) (n := n) (zero_one (netOk_pair (bricks_ok n n h1 h8 h8)) h8 (bricks_sort n h1 h8) l hl)
  exact ⟨R, by omega, b, c⟩

set_option maxHeartbeats 2000000 in
theorem BrickRounds_i (n R lo hi : Nat) (v : Value) (xs : List Int) (w : World) (hv : OwnI w lo hi v xs) (hh : hi ≤ w.heap.size) (hn : n = xs.length) (hb : inB (n : Int) 1 8 = true)
    (hR8 : R ≤ 8) (hR : risesB (applyP (bricks n R) xs) = true) (hRf : ∀ r, r < R → risesB (applyP (bricks n r) xs) = false) :
    Calls Try.prog 65 #[v] w fun e w' => e = .returned (.int .i64 R) ∧ Below w.heap.size w w' := by
  obtain ⟨ao, g, cap, e, -, -, -⟩ := hv.view
  have HV := Lib.hid (OwnI.ints hv)
  have h1 : 1 ≤ n := by have := inB_of hb; omega
  have h8 : n ≤ 8 := by have := inB_of hb; omega
  rw [← hn] at e
  subst e
  have HN := Lib.hid hn
  have HB := Lib.hid hb
  have HR := Lib.hid hR
  have HRF := Lib.hid hRf
  have BC : Hid (∀ (k : Nat) (w : World), k ≤ 8 → Calls Try.prog 60 #[.int .i64 n, .int .i64 k] w (NetC w n (bricks n k) true)) := fun k w hk => BrickNetwork_i n k w h1 h8 hb hk (inB_mk ⟨by omega, by omega⟩)
  have HP : Hid (∀ k, k ≤ 8 → pairsOf n (bricks n k) ∧ (bricks n k).length ≤ 1000) := fun k hk => ⟨netOk_pair (bricks_ok n k h1 h8 hk), by have := netOk_len (bricks_ok n k h1 h8 hk); omega⟩
  clear hv hn hR hRf
  go_enter Try.func65, Try.ntmps65
  go_wp2_with (go_at_call 105; refine (isWires_c _ _).mono ?_; rintro e w' ⟨rfl, rfl⟩)
  clear hb
  go_loopw [10] (fun i wr => ∃ k : Nat, k ≤ R ∧ i = .int .i64 k ∧ Below w.heap.size w wr) (fun i _ => 9 - (intOf i).toNat)
  case atStart => exact ⟨0, Nat.zero_le _, rfl, Below.refl _ _⟩
  case round =>
    obtain ⟨k, hk, rfl, hb⟩ := hrel
    have HBW := Lib.hid hb
    have hk9 : (k : Int) < 9 := by omega
    have hk8 : k ≤ 8 := by omega
    have zb := hb.size
    have HVr := Lib.hid (HV.out.below hb hh)
    clear hb
    obtain ⟨X, hX⟩ : ∃ X, X = bricks n k := ⟨_, rfl⟩
    have BCk := Lib.hid (BC.out k wr hk8)
    have HPk := Lib.hid (HP.out k hk8)
    rw [← hX] at BCk HPk
    have HX := Lib.hid hX
    clear hX
    go_wp2_with fail
    refine BCk.out.mono ?_
    rintro e w1 ⟨u, us, rfl, o1, b1⟩
    obtain ⟨ao1, g1, cap1, e1, -, -, -⟩ := o1.rows
    obtain ⟨M, hM⟩ : ∃ M, M = X.length := ⟨_, rfl⟩
    rw [← hM] at e1
    subst e1
    have O1 := Lib.hid o1
    have HV1 := Lib.hid (HVr.out.below b1 (by omega))
    have z1 := b1.size
    have B1 := Lib.hid b1
    clear o1 hM b1
    go_wp2_with fail
    obtain ⟨W2, hW2, c0, c1, hsz, hB2, -, -⟩ := box2 w1 (.int .i64 n) (.slice ao1 M cap1) 30
    rw [hW2]
    clear hW2
    go_wp2_with fail
    refine (apply_c n wr.heap.size w1.heap.size lo hi n _ us X _ xs W2 (O1.out.below hB2 (Nat.le_refl _)) (by omega) HPk.out.1 HPk.out.2 (HV1.out.below hB2 (by omega)) (by omega) HN.out.symm h1 h8).mono ?_
    rintro e w3 ⟨r, rfl, o3, b3⟩
    have z3 := b3.size
    have P3 : Hid (IntsV w3 0 w3.heap.size r (applyP X xs)) := (OwnI.ints o3).mono (Nat.zero_le _) (Nat.le_refl _)
    have B3 : Hid (Below w.heap.size w w3) := HBW.out.trans ((B1.out.mono zb).trans ((hB2.mono (by omega)).trans (b3.mono (by omega))))
    obtain ⟨x3, n3, y3, rfl⟩ : ∃ a n c, r = .slice a n c := by obtain ⟨a, _, c, e, -⟩ := OwnI.view o3; exact ⟨a, _, c, e⟩
    have SC := Lib.hid (IsSorted_c 0 w3.heap.size _ (applyP X xs) w3 P3.out (Nat.le_refl _) (by rw [applyP_len, ← HN.out]; omega))
    rw [HX.out] at SC
    clear o3 b3 P3
    by_cases hkR : k = R
    · have e4 : risesB (applyP (bricks n k) xs) = true := by rw [hkR]; exact HR.out
      rw [e4] at SC
      clear e4
      go_wp2_with fail
      refine SC.out.mono ?_
      rintro e w4 ⟨rfl, b4⟩
      have B4 := Lib.hid b4
      clear b4
      go_wp2_with fail
      go_ret
      exact ⟨rfl, B3.out.trans (B4.out.mono (by omega))⟩
    · have e4 : risesB (applyP (bricks n k) xs) = false := HRF.out k (by omega)
      rw [e4] at SC
      clear e4
      go_wp2_with fail
      refine SC.out.mono ?_
      rintro e w4 ⟨rfl, b4⟩
      have B4 := Lib.hid b4
      clear b4
      go_wp2_with fail
      go_roundw
      case rel => exact ⟨k + 1, by omega, by go_num, B3.out.trans (B4.out.mono (by omega))⟩
      case measure => simp [intOf]; omega

def countP (n : Int) (xss : List (List Int)) : Int := if netOk n xss = true then xss.length else -1
theorem CountPairs_impl_c (n : Int) (lo hi : Nat) (v : Value) (vs : List Value) (xss : List (List Int)) (w : World) (hv : OwnR w lo hi v vs xss) (hhi : hi ≤ w.heap.size) :
    Calls Try.prog 61 #[.agg #[.int .i64 n, v]] w fun e w' => e = .returned (.int .i64 (countP n xss)) ∧ Below w.heap.size w w' := by
  have HC := Lib.hid (NetworkOk_c n lo hi v vs xss)
  obtain ⟨ao, g, cap, rfl, -, -, -⟩ := hv.rows
  have HV := Lib.hid hv
  clear hv
  obtain ⟨len, hlen⟩ : ∃ l, l = xss.length := ⟨_, rfl⟩
  have HLEN := Lib.hid hlen
  rw [← hlen] at HV HC ⊢
  clear hlen
  have hb0 : Below w.heap.size w (w.alloc (.cells #[.int .i64 n, .slice ao len cap] 30)) := (Below.refl _ _).alloc (Nat.le_refl _) _
  cases hok : netOk n xss
  · have HR : Hid (countP n xss = -1) := by show countP n xss = -1; simp [countP, hok]
    rw [hok] at HC
    clear hok
    go_enter Try.func61, Try.ntmps61
    go_wp2_with (go_at_call 94; refine (HC.out _ (HV.out.below hb0 (by omega)) (by simp; omega)).mono ?_; rintro e w1 ⟨rfl, b1⟩)
    go_ret
    exact ⟨by rw [HR.out]; rfl, hb0.trans (b1.mono (by simp))⟩
  · have HR : Hid (countP n xss = len) := by show countP n xss = _; rw [HLEN.out]; simp [countP, hok]
    rw [hok] at HC
    clear hok
    clear hb0
    go_enter Try.func61, Try.ntmps61
    go_wp2_with fail
    obtain ⟨W1, hW1, c0, c1, hz, hb, -, -⟩ := box2 w (.int .i64 n) (.slice ao len cap) 30
    rw [hW1]
    clear hW1
    refine (HC.out W1 (HV.out.below hb (by omega)) (by omega)).mono ?_
    rintro e w1 ⟨rfl, b1⟩
    replace c0 := (b1.cell (p := ⟨w.heap.size, 0, none⟩) (by show w.heap.size < _; omega)).trans c0
    replace c1 := (b1.cell (p := ⟨w.heap.size, 1, none⟩) (by show w.heap.size < _; omega)).trans c1
    go_wp2
    go_ret
    exact ⟨by rw [HR.out]; rfl, hb.trans (b1.mono (by omega))⟩
theorem take_eq_succ {α : Type} [DecidableEq α] {xs ys : List α} {k : Nat} (d : α) (h : xs.take k = ys.take k) (hx : k < xs.length) (hy : k < ys.length) (he : xs.getD k d = ys.getD k d) : xs.take (k + 1) = ys.take (k + 1) := by
  rw [take_snoc_getD d hx, take_snoc_getD d hy, h, he]
theorem below_drewN {B : Nat} {w0 w : World} (h : Below B w0 w) (q : Nat) : Below B w0 (w.drewN q) := ⟨h.os, h.tape, h.output, h.size, h.block⟩
set_option maxHeartbeats 1000000 in
theorem EqualFunc_c (n m : Nat) (lo hi lo2 hi2 : Nat) (v u : Value) (vs us : List Value) (xss yss : List (List Int)) (w : World) (hv : OwnR w lo hi v vs xss) (hhi : hi ≤ w.heap.size) (hx : netOk n xss = true) (hu : OwnR w lo2 hi2 u us yss) (hhi2 : hi2 ≤ w.heap.size) (hy : netOk m yss = true) :
    Calls Try.prog 140 #[v, u, .func (.func 141) #[] #[]] w fun e w' => e = .returned (.bool (decide (xss = yss))) ∧ Below w.heap.size w w' := by
  have HPX := Lib.hid (netOk_pair hx)
  have HPY := Lib.hid (netOk_pair hy)
  have hlx := netOk_len hx
  have hly := netOk_len hy
  obtain ⟨ao, g, cap, A, G, C, rfl, hcap, hao, hrow⟩ := hv.view
  obtain ⟨bo, h, cap2, B, H, D, rfl, hcap2, hbo, hrow2⟩ := hu.view
  have HRX := Lib.hid hrow
  have HRY := Lib.hid hrow2
  obtain ⟨L, hL⟩ : ∃ L, L = xss.length := ⟨_, rfl⟩
  obtain ⟨M, hM⟩ : ∃ M, M = yss.length := ⟨_, rfl⟩
  have HL := Lib.hid hL
  have HM := Lib.hid hM
  rw [← hL] at hlx hcap hao HRX HPX ⊢
  rw [← hM] at hly hcap2 hbo HRY HPY ⊢
  obtain ⟨RES, hRES⟩ : ∃ R, R = decide (xss = yss) := ⟨_, rfl⟩
  have HRES := Lib.hid hRES
  rw [← hRES]
  have eg : ∀ (args : Array Value) (w : World), (callFunc 141 args).run Try.prog w = .ok (.enter 141 args) w := fun args w => by kernel_rfl
  clear hv hu hrow hrow2 hL hM hRES
  by_cases hLM : L = M
  · subst hLM
    have hne : ((L : Int) != (L : Int)) = false := by simp
    go_enter Try.func140, Try.ntmps140
    go_wp2_with fail
    go_loopw [17] (fun t wr => ∃ k : Nat, k ≤ L ∧ t = .int .i64 k ∧ Hid (xss.take k = yss.take k) ∧ Below w.heap.size w wr) (fun t _ => L - (intOf t).toNat)
    case atStart => exact ⟨0, Nat.zero_le _, rfl, by show _ = _; simp, Below.refl _ _⟩
    case round =>
      obtain ⟨k, hk, rfl, HT, hb⟩ := hrel
      have HB := Lib.hid hb
      have hz := hb.size
      by_cases hlt : k < L
      · have hki : (k : Int) < (L : Int) := by omega
        obtain ⟨i, j, hr, -, -, -⟩ := HPX.out k hlt
        obtain ⟨i2, j2, hr2, -, -, -⟩ := HPY.out k hlt
        obtain ⟨p1, p2, p3, p4⟩ := HRX.out k hlt
        obtain ⟨q1, q2, q3, q4⟩ := HRY.out k hlt
        obtain ⟨ha0, hg1, hg2⟩ := hao (by omega)
        obtain ⟨hb0, hh1, hh2⟩ := hbo (by omega)
        subst ha0
        subst hb0
        rw [hr] at p1 p2 p3 p4
        rw [hr2] at q1 q2 q3 q4
        obtain ⟨ea, p5, p6⟩ := p3 (by simp)
        obtain ⟨eb, q5, q6⟩ := q3 (by simp)
        rw [ea] at p1
        rw [eb] at q1
        have e2 : ∀ a b : Int, ([a, b] : List Int).length = 2 := fun _ _ => rfl
        rw [e2] at p1 q1
        have c1 := (hb.cell (p := ⟨g, k, none⟩) (by show g < _; omega)).trans p1
        have c2 := (hb.cell (p := ⟨h, k, none⟩) (by show h < _; omega)).trans q1
        have HE := Lib.hid (Try.slices_Equal_int (G k) 0 2 (C k) (H k) 0 2 (D k) [(i : Int), (j : Int)] [(i2 : Int), (j2 : Int)] wr (by simp) (by simp) (by omega) (by omega)
          (fun t ht => by rw [Nat.zero_add]; exact (hb.cell (p := ⟨G k, t, none⟩) (by show G k < _; omega)).trans (p4 t ht))
          (fun t ht => by rw [Nat.zero_add]; exact (hb.cell (p := ⟨H k, t, none⟩) (by show H k < _; omega)).trans (q4 t ht)))
        have hkx : k < xss.length := by rw [← HL.out]; exact hlt
        have hky : k < yss.length := by rw [← HM.out]; exact hlt
        have eb2 : (([(i : Int), (j : Int)].take 2) == ([(i2 : Int), (j2 : Int)].take 2)) = decide (xss.getD k [] = yss.getD k []) := by rw [hr, hr2, Bool.eq_iff_iff]; simp
        rw [eb2] at HE
        clear p1 p2 p3 p4 q1 q2 q3 q4 ea eb hr hr2 eb2 hb
        by_cases heq : xss.getD k [] = yss.getD k []
        · rw [decide_eq_true heq] at HE
          have HT2 : Hid (xss.take (k + 1) = yss.take (k + 1)) := take_eq_succ [] HT.out hkx hky heq
          go_wp2_with (go_at_call 141; refine HE.out.mono ?_; rintro e w' ⟨rfl, q, rfl⟩)
          go_roundw
          case rel => exact ⟨k + 1, by omega, by go_num, HT2, below_drewN HB.out q⟩
          case measure => simp [intOf]; omega
        · rw [decide_eq_false heq] at HE
          have HR : Hid (RES = false) := by
            show _ = _
            rw [HRES.out]
            exact decide_eq_false fun e => heq (by rw [e])
          go_wp2_with (go_at_call 141; refine HE.out.mono ?_; rintro e w' ⟨rfl, q, rfl⟩)
          go_ret
          exact ⟨by rw [HR.out]; rfl, below_drewN HB.out q⟩
      · have hki : ¬ (k : Int) < (L : Int) := by omega
        have HR : Hid (RES = true) := by
          show _ = _
          rw [HRES.out]
          have h := HT.out
          rw [List.take_of_length_le (by rw [← HL.out]; omega), List.take_of_length_le (by rw [← HM.out]; omega)] at h
          exact decide_eq_true h
        go_wp2
        go_ret
        exact ⟨by rw [HR.out]; rfl, HB.out⟩
  · have hne : ((L : Int) != (M : Int)) = true := by simp; omega
    have HR : Hid (RES = false) := by
      show _ = _
      rw [HRES.out]
      exact decide_eq_false fun e => hLM (by rw [HL.out, HM.out, e])
    go_enter Try.func140, Try.ntmps140
    go_wp2
    go_ret
    exact ⟨by rw [HR.out]; rfl, Below.refl _ _⟩
set_option maxHeartbeats 1000000 in
theorem SameNetwork_y (n m : Nat) (lo hi lo2 hi2 : Nat) (v u : Value) (vs us : List Value) (xss yss : List (List Int)) (w : World) (hv : OwnR w lo hi v vs xss) (hhi : hi ≤ w.heap.size) (hx : netOk n xss = true) (hu : OwnR w lo2 hi2 u us yss) (hhi2 : hi2 ≤ w.heap.size) (hy : netOk m yss = true) :
    Calls Try.prog 63 #[.agg #[.int .i64 n, v], .agg #[.int .i64 m, u]] w fun e w' => e = .returned (.bool (decide (n = m) && decide (xss = yss))) ∧ Below w.heap.size w w' := by
  have HC : Hid (∀ w1, Below w.heap.size w w1 → Calls Try.prog 94 #[.agg #[.int .i64 n, v]] w1 fun e w' => e = .returned (.bool true) ∧ Below w1.heap.size w1 w') := fun w1 h1 => by
    have := NetworkOk_c n lo hi v vs xss w1 (hv.below h1 hhi) (by have := h1.size; omega)
    rwa [hx] at this
  have HD : Hid (∀ w1, Below w.heap.size w w1 → Calls Try.prog 94 #[.agg #[.int .i64 m, u]] w1 fun e w' => e = .returned (.bool true) ∧ Below w1.heap.size w1 w') := fun w1 h1 => by
    have := NetworkOk_c m lo2 hi2 u us yss w1 (hu.below h1 hhi2) (by have := h1.size; omega)
    rwa [hy] at this
  have HE : Hid (∀ w1, Below w.heap.size w w1 → Calls Try.prog 140 #[v, u, .func (.func 141) #[] #[]] w1 fun e w' => e = .returned (.bool (decide (xss = yss))) ∧ Below w1.heap.size w1 w') := fun w1 h1 =>
    EqualFunc_c n m lo hi lo2 hi2 v u vs us xss yss w1 (hv.below h1 hhi) (by have := h1.size; omega) hx (hu.below h1 hhi2) (by have := h1.size; omega) hy
  obtain ⟨ao, g, cap, rfl, -, -, -⟩ := hv.rows
  obtain ⟨bo, h, cap2, rfl, -, -, -⟩ := hu.rows
  obtain ⟨L, hL⟩ : ∃ L, L = xss.length := ⟨_, rfl⟩
  obtain ⟨M, hM⟩ : ∃ M, M = yss.length := ⟨_, rfl⟩
  rw [← hL] at HC HE ⊢
  rw [← hM] at HD HE ⊢
  obtain ⟨RES, hRES⟩ : ∃ R, R = decide (xss = yss) := ⟨_, rfl⟩
  rw [← hRES] at HE ⊢
  clear hv hu hL hM hRES hx hy
  by_cases hnm : n = m
  · subst hnm
    have hne : ((n : Int) == (n : Int)) = true := by simp
    have HF : Hid ((decide (n = n) && RES) = RES) := by show _ = _; simp
    go_enter Try.func63, Try.ntmps63
    go_wp2_with fail
    obtain ⟨W1, hW1, c0, c1, hsz, hB1, -, -⟩ := box2 w (.int .i64 n) (.slice ao L cap) 30
    rw [hW1]
    clear hW1
    obtain ⟨W2, hW2, d0, d1, hsz2, hB2, -, -⟩ := box2 W1 (.int .i64 n) (.slice bo M cap2) 30
    rw [hW2]
    clear hW2
    obtain ⟨c0, c1, hz0⟩ := boxC hB2 (by omega) c0 c1
    rw [hsz] at d0 d1
    have hB3 : Below w.heap.size w W2 := hB1.trans (hB2.mono (by omega))
    refine (HC.out W2 hB3).mono ?_
    rintro e w3 ⟨rfl, b3⟩
    obtain ⟨c0, c1, hz0⟩ := boxC b3 (by omega) c0 c1
    obtain ⟨d0, d1, hz1⟩ := boxC b3 (by omega) d0 d1
    have hB4 := hB3.trans (b3.mono (by omega))
    clear b3 hB3 hB2 hB1
    go_wp2_with fail
    refine (HD.out w3 hB4).mono ?_
    rintro e w4 ⟨rfl, b4⟩
    obtain ⟨c0, c1, hz0⟩ := boxC b4 hz0 c0 c1
    obtain ⟨d0, d1, hz1⟩ := boxC b4 hz1 d0 d1
    have hB5 := hB4.trans (b4.mono hB4.size)
    clear b4 hB4
    go_wp2_with fail
    refine (HE.out w4 hB5).mono ?_
    rintro e w5 ⟨rfl, b5⟩
    have B5 := Lib.hid (hB5.trans (b5.mono hB5.size))
    clear b5 hB5 c0 c1 d0 d1
    go_wp2
    go_ret
    exact ⟨by rw [HF.out]; rfl, B5.out⟩
  · have hne : ((n : Int) == (m : Int)) = false := by simp; omega
    have HF : Hid ((decide (n = m) && RES) = false) := by show _ = _; simp [hnm]
    go_enter Try.func63, Try.ntmps63
    go_wp2_with fail
    obtain ⟨W1, hW1, c0, c1, hsz, hB1, -, -⟩ := box2 w (.int .i64 n) (.slice ao L cap) 30
    rw [hW1]
    clear hW1
    obtain ⟨W2, hW2, d0, d1, hsz2, hB2, -, -⟩ := box2 W1 (.int .i64 m) (.slice bo M cap2) 30
    rw [hW2]
    clear hW2
    obtain ⟨c0, c1, hz0⟩ := boxC hB2 (by omega) c0 c1
    rw [hsz] at d0 d1
    have hB3 : Below w.heap.size w W2 := hB1.trans (hB2.mono (by omega))
    refine (HC.out W2 hB3).mono ?_
    rintro e w3 ⟨rfl, b3⟩
    obtain ⟨c0, c1, hz0⟩ := boxC b3 (by omega) c0 c1
    obtain ⟨d0, d1, hz1⟩ := boxC b3 (by omega) d0 d1
    have hB4 := hB3.trans (b3.mono (by omega))
    clear b3 hB3 hB2 hB1
    go_wp2_with fail
    refine (HD.out w3 hB4).mono ?_
    rintro e w4 ⟨rfl, b4⟩
    obtain ⟨c0, c1, hz0⟩ := boxC b4 hz0 c0 c1
    obtain ⟨d0, d1, hz1⟩ := boxC b4 hz1 d0 d1
    have B5 := Lib.hid (hB4.trans (b4.mono hB4.size))
    clear b4 hB4
    go_wp2
    go_ret
    exact ⟨by rw [HF.out]; rfl, B5.out⟩
end Go.Proofs.Ytiodolbgapjmkaa

namespace Go.Proofs.Ytiodolbgapjmkaa
open Go.RowKit
set_option maxRecDepth 100000
set_option linter.unusedVariables false

theorem sortsE_ok {n : Nat} {xss : List (List Int)} (h : sortsR n xss = true) : netOk n xss = true := by
  simp only [sortsR, Bool.and_eq_true] at h
  exact h.1
def bubE (n : Nat) : List (List Int) := net2 (fun s => n - 1 - s) (fun (_ k : Nat) => [(k : Int), (k : Int) + 1]) (n - 1)
def insE (n : Nat) : List (List Int) := net2 (fun s => s + 1) (fun (s k : Nat) => [(s : Int) - k, (s : Int) - k + 1]) (n - 1)
def selE (n : Nat) : List (List Int) := XSelectionNetwork n
/-- The levels of the bubbles and of the insertions, and their orders. -/
def lvB (n : Nat) : List Int := ([[], [], [1], [1, 2, 3], [1, 2, 3, 3, 4, 5], [1, 2, 3, 4, 3, 4, 5, 5, 6, 7], [1, 2, 3, 4, 5, 3, 4, 5, 6, 5, 6, 7, 7, 8, 9], [1, 2, 3, 4, 5, 6, 3, 4, 5, 6, 7, 5, 6, 7, 8, 7, 8, 9, 9, 10, 11]] : List (List Int)).getD n []
def lvI (n : Nat) : List Int := ([[], [], [1], [1, 2, 3], [1, 2, 3, 3, 4, 5], [1, 2, 3, 3, 4, 5, 4, 5, 6, 7], [1, 2, 3, 3, 4, 5, 4, 5, 6, 7, 5, 6, 7, 8, 9], [1, 2, 3, 3, 4, 5, 4, 5, 6, 7, 5, 6, 7, 8, 9, 6, 7, 8, 9, 10, 11]] : List (List Int)).getD n []
def orB (n : Nat) : List Int := ([[], [], [0], [0, 1, 2], [0, 1, 3, 2, 4, 5], [0, 1, 4, 2, 5, 3, 7, 6, 8, 9], [0, 1, 5, 2, 6, 3, 9, 7, 4, 10, 8, 12, 11, 13, 14], [0, 1, 6, 2, 7, 3, 11, 8, 4, 12, 9, 5, 15, 13, 10, 16, 14, 18, 17, 19, 20]] : List (List Int)).getD n []
def orI (n : Nat) : List Int := ([[], [], [0], [0, 1, 2], [0, 1, 2, 3, 4, 5], [0, 1, 2, 3, 4, 6, 5, 7, 8, 9], [0, 1, 2, 3, 4, 6, 5, 7, 10, 8, 11, 9, 12, 13, 14], [0, 1, 2, 3, 4, 6, 5, 7, 10, 8, 11, 15, 9, 12, 16, 13, 17, 14, 18, 19, 20]] : List (List Int)).getD n []
theorem lvB_eq : ∀ n : Nat, n < 8 → levelsP (bubE n) (bubE n).length = lvB n := by decide +kernel
theorem lvI_eq : ∀ n : Nat, n < 8 → levelsP (insE n) (insE n).length = lvI n := by decide +kernel
/-- Strictly ascending. -/
def ascB : List Int → Bool
  | a :: b :: t => decide (a < b) && ascB (b :: t)
  | _ => true
theorem ascB_pw : ∀ {l : List Int}, ascB l = true → l.Pairwise (· < ·)
  | [], _ => .nil
  | [a], _ => by simp
  | a :: b :: t, h => by
    simp only [ascB, Bool.and_eq_true, decide_eq_true_eq] at h
    have ih := ascB_pw h.2
    refine .cons (fun x hx => ?_) ih
    rcases List.mem_cons.1 hx with rfl | hx
    · exact h.1
    · have := (List.pairwise_cons.1 ih).1 x hx
      omega
/-- The one order of the key. -/
def keyL (ll : List Int) (xss : List (List Int)) (x : Int) : Int := ll.getD x.toNat 0 * 64 + Lib.minOf (xss.getD x.toNat [])
theorem by_unique {xss : List (List Int)} {ll c : List Int} (h1 : levelsP xss xss.length = ll) (hp : c.Perm (upI 0 xss.length)) (ha : ascB (c.map (keyL ll xss)) = true) {l : List Int} (h : SortP (levKey xss) (upI 0 xss.length) l 0 xss.length) : l = c := by
  have hk : levKey xss = keyL ll xss := by funext x; unfold levKey keyL; rw [h1]
  have hcl : c.length = xss.length := by rw [hp.length_eq, upI_length]
  have hll : l.length = xss.length := by rw [h.len, upI_length]
  have hpw := ascB_pw ha
  rw [List.pairwise_map] at hpw
  rw [List.pairwise_iff_getElem] at hpw
  have hc : ordOn (levKey xss) c 0 c.length := by
    intro p q _ hpq hq
    have := hpw p q (by omega) hq hpq
    rw [hk]
    simp only [List.getD, List.getElem?_eq_getElem (show p < c.length by omega), List.getElem?_eq_getElem hq, Option.getD_some]
    omega
  have hd : ∀ x ∈ c, ∀ y ∈ c, levKey xss x = levKey xss y → x = y := by
    intro x hx y hy hxy
    obtain ⟨i, hi, rfl⟩ := List.mem_iff_getElem.1 hx
    obtain ⟨j, hj, rfl⟩ := List.mem_iff_getElem.1 hy
    rw [hk] at hxy
    rcases Nat.lt_trichotomy i j with h | h | h
    · have := hpw i j hi hj h; omega
    · subst h; rfl
    · have := hpw j i hj hi h; omega
  exact (ord_unique hc (by rw [hll]; exact h.ord) (hp.trans h.perm.symm) hd).symm
theorem fin_lenE : ∀ n : Nat, n < 8 → (orB n).isPerm (upI 0 (bubE n).length) = true ∧ (orI n).isPerm (upI 0 (insE n).length) = true ∧ ascB ((orB n).map (keyL (lvB n) (bubE n))) = true ∧ ascB ((orI n).map (keyL (lvI n) (insE n))) = true ∧ rowsAt (bubE n) (orB n) = rowsAt (insE n) (orI n) ∧ (1 ≤ n → netOk n (rowsAt (bubE n) (orB n)) = true) := by decide +kernel
/-- What ByLevels makes of the bubbles and of the insertions is the same. -/
theorem by_same {n : Nat} (h1 : 1 ≤ n) (h7 : n ≤ 7) {l m : List Int} (hl : SortP (levKey (bubE n)) (upI 0 (bubE n).length) l 0 (bubE n).length) (hm : SortP (levKey (insE n)) (upI 0 (insE n).length) m 0 (insE n).length) :
    rowsAt (bubE n) l = rowsAt (insE n) m ∧ netOk n (rowsAt (bubE n) l) = true := by
  obtain ⟨a, b, c, d, e, f⟩ := fin_lenE n (by omega)
  rw [by_unique (lvB_eq n (by omega)) (List.isPerm_iff.1 a) c hl, by_unique (lvI_eq n (by omega)) (List.isPerm_iff.1 b) d hm]
  exact ⟨e, f h1⟩
theorem fin_elem : ∀ n : Nat, n < 8 → 1 ≤ n → sortsR n (bubE n) = true ∧ sortsR n (insE n) = true ∧ sortsR n (selE n) = true ∧ sortsR n (bricks n n) = true ∧ countP n (bubE n) = ((n : Int) * ((n : Int) - 1)) / 2 ∧ countP n (insE n) = ((n : Int) * ((n : Int) - 1)) / 2 ∧ countP n (selE n) = ((n : Int) * ((n : Int) - 1)) / 2 ∧ countP n (bricks n n) = ((n : Int) * ((n : Int) - 1)) / 2 ∧ primB (bubE n) = true ∧ primB (bricks n n) = true ∧ (bubE n).length ≤ 21 ∧ (insE n).length ≤ 21 := by decide +kernel
theorem fin_depthE : ∀ n : Nat, n < 8 → 1 ≤ n → (depthP (bubE n) (bubE n).length : Int) = max 0 (2 * (n : Int) - 3) := by decide +kernel
/-- The rounds that a list wants. -/
theorem rounds_elem {n : Nat} (h1 : 1 ≤ n) (h7 : n ≤ 7) {l : List Int} (hl : l.length = n) : ∃ R, R ≤ n ∧ risesB (applyP (bricks n R) l) = true ∧ (∀ r, r < R → risesB (applyP (bricks n r) l) = false) ∧ (decide (R = 0) = risesB l) ∧ (applyP (bricks n R) l).length = n := by
  have hb := bricks_ok n n h1 (by omega) (by omega)
  obtain ⟨R, a, b, c⟩ := least_of (p := fun r => risesB (applyP (bricks n r) l)) (n := n) (zero_one (netOk_pair hb) (by omega) (bricks_sort n h1 (by omega)) l hl)
  refine ⟨R, a, b, c, ?_, ?_⟩
  · have h0 : applyP (bricks n 0) l = l := rfl
    by_cases hR : R = 0
    · subst hR
      have : risesB (applyP (bricks n 0) l) = true := b
      rw [h0] at this
      rw [this]; rfl
    · have := c 0 (by omega)
      simp only [h0] at this
      rw [this]
      exact decide_eq_false hR
  · rw [(applyP_perm (netOk_pair (bricks_ok n R h1 (by omega) (by omega))) l hl).length_eq, hl]
/-- A comparator below wire n leaves bit n. -/
theorem stp_over1 : ∀ n < 7, ∀ m < 2 ^ n, ∀ i < n, ∀ k < n, stp (m + 2 ^ n) i k = stp m i k + 2 ^ n ∧ stp m i k < 2 ^ n := by decide +kernel
theorem stp_over (n : Nat) (hn : n < 7) (m : Nat) (hm : m < 2 ^ n) (b : Nat) (hb : b < 2) (i : Nat) (hi : i < n) (k : Nat) (hk : k < n) : stp (m + 2 ^ n * b) i k = stp m i k + 2 ^ n * b ∧ stp m i k < 2 ^ n := by
  obtain ⟨a, c⟩ := stp_over1 n hn m hm i hi k hk
  rcases (by omega : b = 0 ∨ b = 1) with rfl | rfl
  · simpa using c
  · rw [Nat.mul_one]; exact ⟨a, c⟩
theorem stp_up : ∀ m < 64, ∀ b < 2, ∀ i < 6, ∀ k < 6, stp (2 * m + b) (i + 1) (k + 1) = 2 * stp m i k + b := by decide +kernel
theorem bits_over {n : Nat} (hn : n ≤ 6) : ∀ {xss : List (List Int)}, pairUp n true xss → ∀ m b, m < 2 ^ n → b < 2 → bitsP xss (m + 2 ^ n * b) = bitsP xss m + 2 ^ n * b
  | [], _, m, b, _, _ => rfl
  | r :: xss, h, m, b, hm, hb => by
    obtain ⟨i, j, rfl, h1, h2, -, -⟩ := h r (List.mem_cons_self ..)
    have ht : pairUp n true xss := fun q hq => h q (List.mem_cons_of_mem _ hq)
    obtain ⟨e, e2⟩ := stp_over n (by omega) m hm b hb i h1 j h2
    have ih := bits_over hn ht (stp m i j) b e2 hb
    unfold bitsP at ih ⊢
    simp only [List.foldl_cons, List.getD_cons_zero, List.getD_cons_succ, Int.toNat_natCast]
    rw [e, ih]
theorem bits_up {n : Nat} (hn : n ≤ 6) : ∀ {xss : List (List Int)}, pairUp n true xss → ∀ m b, m < 2 ^ n → b < 2 → bitsP (renP (fun x => x + 1) xss) (2 * m + b) = 2 * bitsP xss m + b
  | [], _, m, b, _, _ => rfl
  | r :: xss, h, m, b, hm, hb => by
    obtain ⟨i, j, rfl, h1, h2, -, -⟩ := h r (List.mem_cons_self ..)
    have ht : pairUp n true xss := fun q hq => h q (List.mem_cons_of_mem _ hq)
    have h64 : 2 ^ n ≤ 2 ^ 6 := Nat.pow_le_pow_right (by omega) hn
    obtain ⟨-, e2⟩ := stp_over n (by omega) m hm 0 (by omega) i h1 j h2
    have e := stp_up m (by omega) b hb i (by omega) j (by omega)
    have ih := bits_up hn ht (stp m i j) b e2 hb
    unfold bitsP renP at ih ⊢
    simp only [List.map_cons, List.map_nil, List.foldl_cons, List.getD_cons_zero, List.getD_cons_succ]
    rw [show ((i : Int) + 1).toNat = i + 1 from by omega, show ((j : Int) + 1).toNat = j + 1 from by omega, e, ih]
    simp
theorem fin_insK : ∀ n < 7, 1 ≤ n → ∀ m < 2 ^ (n + 1), bitsP (insK n n) (srt n (m % 2 ^ n) + 2 ^ n * (m / 2 ^ n)) = srt (n + 1) m := by decide +kernel
theorem fin_selK : ∀ n < 7, 1 ≤ n → ∀ m < 2 ^ (n + 1), bitsP (selK n) m / 2 < 2 ^ n ∧ 2 * srt n (bitsP (selK n) m / 2) + bitsP (selK n) m % 2 = srt (n + 1) m := by decide +kernel
theorem pairUp_ok {n : Nat} {xss : List (List Int)} (h : pairUp n true xss) (h1 : 1 ≤ n) (h8 : n ≤ 8) (hl : xss.length ≤ 60) : netOk n xss = true := by
  simp only [netOk, Bool.and_eq_true, decide_eq_true_eq, List.all_eq_true]
  refine ⟨⟨inB_mk (by omega), hl⟩, fun r hr => ?_⟩
  obtain ⟨i, j, rfl, h3, h4, h5, -⟩ := h r hr
  simp only [pairOk, Bool.and_eq_true, decide_eq_true_eq, bne_iff_ne, List.getD_cons_zero, List.getD_cons_succ]
  exact ⟨⟨⟨rfl, by omega⟩, inB_mk (by omega)⟩, inB_mk (by omega)⟩
theorem insK_pair : ∀ n < 7, 1 ≤ n → (insK n n).all (fun r => decide (r.length = 2) && decide (0 ≤ r.getD 0 0) && decide (r.getD 0 0 < r.getD 1 0) && decide (r.getD 1 0 < ((n + 1 : Nat) : Int))) = true := by decide +kernel
theorem selK_pair : ∀ n < 7, 1 ≤ n → (selK n).all (fun r => decide (r.length = 2) && decide (0 ≤ r.getD 0 0) && decide (r.getD 0 0 < r.getD 1 0) && decide (r.getD 1 0 < ((n + 1 : Nat) : Int))) = true := by decide +kernel
theorem pairUp_more {n m : Nat} {xss : List (List Int)} (h : pairUp n true xss) (hm : n ≤ m) : pairUp m true xss := fun r hr => by
  obtain ⟨i, j, e, h3, h4, h5, h6⟩ := h r hr
  exact ⟨i, j, e, by omega, by omega, h5, h6⟩
theorem pairUp_ren {n : Nat} {xss : List (List Int)} (h : pairUp n true xss) : pairUp (n + 1) true (renP (fun x => x + 1) xss) := fun r hr => by
  obtain ⟨q, hq, rfl⟩ := List.mem_map.1 hr
  obtain ⟨i, j, rfl, h3, h4, h5, h6⟩ := h q hq
  exact ⟨i + 1, j + 1, by simp, by omega, by omega, by omega, fun h => by have := h6 h; omega⟩
theorem sortsR_of {n : Nat} {xss : List (List Int)} (h : pairUp n true xss) (h1 : 1 ≤ n) (h8 : n ≤ 8) (hl : xss.length ≤ 60) (hs : ∀ m, m < 2 ^ n → bitsP xss m = srt n m) : sortsR n xss = true := by
  unfold sortsR
  rw [pairUp_ok h h1 h8 hl, Bool.true_and, Int.toNat_natCast]
  exact (allB_iff _ _).2 fun m hm => by simp [sortB, hs m hm]
/-- One more wire, inserted. -/
theorem ins_wire {n : Nat} (h1 : 1 ≤ n) (h6 : n ≤ 6) {xss : List (List Int)} (h : sortS n xss) (hl : xss.length ≤ 22) : sortsR (n + 1 : Nat) (xss ++ insK n n) = true := by
  refine sortsR_of (pairUp_app (pairUp_more h.1 (by omega)) (pairUp_all (insK_pair n (by omega) h1))) (by omega) (by omega) (by rw [List.length_append, insK_len]; omega) fun m hm => ?_
  have hp := Nat.two_pow_pos n
  have e := bits_over (by omega) h.1 (m % 2 ^ n) (m / 2 ^ n) (Nat.mod_lt _ hp) (by rw [Nat.div_lt_iff_lt_mul hp]; rw [Nat.pow_succ] at hm; omega)
  rw [Nat.mod_add_div, h.2 _ (Nat.mod_lt _ hp)] at e
  rw [bitsP_app, e]
  exact fin_insK n (by omega) h1 m hm
/-- One more wire, selected. -/
theorem sel_wire {n : Nat} (h1 : 1 ≤ n) (h6 : n ≤ 6) {xss : List (List Int)} (h : sortS n xss) (hl : xss.length ≤ 22) : sortsR (n + 1 : Nat) (selX n xss) = true := by
  unfold selX
  refine sortsR_of (pairUp_app (pairUp_all (selK_pair n (by omega) h1)) (pairUp_ren h.1)) (by omega) (by omega) (by rw [List.length_append, selK_len, renP_len]; omega) fun m hm => ?_
  obtain ⟨a, b⟩ := fin_selK n (by omega) h1 m hm
  have e := bits_up (by omega) h.1 (bitsP (selK n) m / 2) (bitsP (selK n) m % 2) a (by omega)
  rw [h.2 _ a, b] at e
  rw [bitsP_app, ← e, Nat.div_add_mod]
end Go.Proofs.Ytiodolbgapjmkaa

namespace Go.Proofs.Ytiodolbgapjmkaa
open Go.RowKit
set_option maxRecDepth 100000
set_option linter.unusedVariables false
set_option linter.unusedSimpArgs false
theorem Bub_z (n : Nat) (h1 : 1 ≤ n) (h8 : n ≤ 8) (w : World) : Calls Try.prog 57 #[.int .i64 n] w (NetC w (n : Int) (bubE n) true) := BubbleNetwork_i n w h1 h8 (inB_mk (by omega))
theorem Ins_z (n : Nat) (h1 : 1 ≤ n) (h8 : n ≤ 8) (w : World) : Calls Try.prog 58 #[.int .i64 n] w (NetC w (n : Int) (insE n) true) := InsertionNetwork_i n w h1 h8 (inB_mk (by omega))
theorem Sel_z (n : Nat) (h1 : 1 ≤ n) (h8 : n ≤ 8) (w : World) : Calls Try.prog 59 #[.int .i64 n] w (NetC w (n : Int) (selE n) true) := by
  have h := SelectionNetwork_i_c n w
  have hb : inB (n : Int) 1 8 = true := inB_mk (by omega)
  rwa [if_pos hb, hb] at h
theorem Brick_z (n r : Nat) (h1 : 1 ≤ n) (h8 : n ≤ 8) (hr : r ≤ 8) (w : World) : Calls Try.prog 60 #[.int .i64 n, .int .i64 r] w (NetC w (n : Int) (bricks n r) true) := BrickNetwork_i n r w h1 h8 (inB_mk (by omega)) hr (inB_mk (by omega))
theorem InsW_z (n : Nat) (lo hi : Nat) (v : Value) (vs : List Value) (xss : List (List Int)) (w : World) (hv : OwnR w lo hi v vs xss) (hhi : hi ≤ w.heap.size) (hok : netOk n xss = true) (h : sortsR (n + 1 : Nat) (xss ++ insK n n) = true) :
    Calls Try.prog 66 #[.agg #[.int .i64 n, v]] w (NetC w ((n : Int) + 1) (xss ++ insK n n) true) := by
  have c := InsertWire_i_yes n lo hi v vs xss w hv hhi hok
  have e : netOk ((n : Int) + 1) (xss ++ insK n n) = true := sortsE_ok h
  rwa [if_pos e, if_pos e, e] at c
theorem SelW_z (n : Nat) (lo hi : Nat) (v : Value) (vs : List Value) (xss : List (List Int)) (w : World) (hv : OwnR w lo hi v vs xss) (hhi : hi ≤ w.heap.size) (hok : netOk n xss = true) (h : sortsR (n + 1 : Nat) (selX n xss) = true) :
    Calls Try.prog 67 #[.agg #[.int .i64 n, v]] w (NetC w ((n : Int) + 1) (selX n xss) true) := by
  have c := SelectWire_i_yes n lo hi v vs xss w hv hhi hok
  have e : netOk ((n : Int) + 1) (selX n xss) = true := sortsE_ok h
  rwa [if_pos e, if_pos e, e] at c

set_option maxHeartbeats 8000000 in
theorem FnElementary_core (w : World) (N : Nat) (cv : Value) (hv : BytesV w w.heap.size cv N) : Calls Try.prog 7 #[cv] w fun e w' => e = .returned (.bool true) ∧ Below w.heap.size w w' := by
  have HV := Lib.hid hv
  obtain ⟨cao, cb, coff, ccap, ecv, -, -, -⟩ := id hv
  subst ecv
  clear hv
  by_cases hN : N ≤ 1048576
  rotate_left
  · have hN' : (1048576 : Int) < (N : Int) := by omega
    go_enter Try.func7, Try.ntmps7
    go_wp2_with fail
    go_ret
    exact ⟨rfl, Below.refl _ _⟩
  have hN' : ¬ (1048576 : Int) < (N : Int) := by omega
  go_enter Try.func7, Try.ntmps7
  have BA : Hid (Below w.heap.size w w) := Below.refl _ _
  have ZA : w.heap.size ≤ w.heap.size := Nat.le_refl _
  go_wp2_with fail
  refine (MakeSize_c w.heap.size N 0 (1) (7) _ w (HV.out.kept fun k hk => BA.out.block k hk) ZA hN (by omega) (by omega) (by omega)).mono ?_
  rintro e w1 ⟨n, rfl, n_lo, n_hi, b_w1⟩
  have z_w1 := b_w1.size
  replace BA : Hid (Below w.heap.size w w1) := BA.out.trans (b_w1.mono (by omega))
  replace ZA : w.heap.size ≤ w1.heap.size := (by omega)
  clear b_w1
  have F := Lib.hid (fin_elem n (by omega) n_lo)
  have FD := Lib.hid (fin_depthE n (by omega) n_lo)
  go_wp2_with fail
  refine (Bub_z n n_lo (by omega) w1).mono ?_
  rintro e w2 ⟨qa, usa, rfl, oa, b_w2⟩
  obtain ⟨xa, hxa⟩ : ∃ X, X = bubE n := ⟨_, rfl⟩
  rw [← hxa] at oa
  have HXa := Lib.hid hxa
  clear hxa
  obtain ⟨aoa, ga, capa, ea, -, -, -⟩ := oa.rows
  obtain ⟨La, hLa⟩ : ∃ L, L = xa.length := ⟨_, rfl⟩
  rw [← hLa] at ea
  subst ea
  have HNa := Lib.hid hLa
  clear hLa
  have z_w2 := b_w2.size
  replace BA : Hid (Below w.heap.size w w2) := BA.out.trans (b_w2.mono (by omega))
  replace ZA : w.heap.size ≤ w2.heap.size := (by omega)
  clear b_w2
  have Oa := Lib.hid oa
  clear oa
  go_wp2_with fail
  obtain ⟨w3, hWw3, ca0, ca1, hzw3, b_w3, -, -⟩ := box2 w2 (.int .i64 n) (.slice aoa La capa) 30
  rw [hWw3]
  clear hWw3
  have zz_w3 : w2.heap.size < w3.heap.size := (by omega)
  clear hzw3
  have z_w3 := b_w3.size
  replace Oa := Lib.hid (Oa.out.later b_w3)
  replace BA : Hid (Below w.heap.size w w3) := BA.out.trans (b_w3.mono (by omega))
  replace ZA : w.heap.size ≤ w3.heap.size := (by omega)
  clear b_w3
  have ya : w2.heap.size < w3.heap.size := zz_w3
  go_wp2_with fail
  refine (Ins_z n n_lo (by omega) w3).mono ?_
  rintro e w4 ⟨qb, usb, rfl, ob, b_w4⟩
  obtain ⟨xb, hxb⟩ : ∃ X, X = insE n := ⟨_, rfl⟩
  rw [← hxb] at ob
  have HXb := Lib.hid hxb
  clear hxb
  obtain ⟨aob, gb, capb, eb, -, -, -⟩ := ob.rows
  obtain ⟨Lb, hLb⟩ : ∃ L, L = xb.length := ⟨_, rfl⟩
  rw [← hLb] at eb
  subst eb
  have HNb := Lib.hid hLb
  clear hLb
  have z_w4 := b_w4.size
  replace Oa := Lib.hid (Oa.out.later b_w4)
  replace ca0 := (b_w4.cell (p := ⟨w2.heap.size, 0, none⟩) (by show w2.heap.size < _; omega)).trans ca0
  replace ca1 := (b_w4.cell (p := ⟨w2.heap.size, 1, none⟩) (by show w2.heap.size < _; omega)).trans ca1
  replace BA : Hid (Below w.heap.size w w4) := BA.out.trans (b_w4.mono (by omega))
  replace ZA : w.heap.size ≤ w4.heap.size := (by omega)
  replace ya : w2.heap.size < w4.heap.size := (by omega)
  clear b_w4
  have Ob := Lib.hid ob
  clear ob
  go_wp2_with fail
  obtain ⟨w5, hWw5, cb0, cb1, hzw5, b_w5, -, -⟩ := box2 w4 (.int .i64 n) (.slice aob Lb capb) 30
  rw [hWw5]
  clear hWw5
  have zz_w5 : w4.heap.size < w5.heap.size := (by omega)
  clear hzw5
  have z_w5 := b_w5.size
  replace Oa := Lib.hid (Oa.out.later b_w5)
  replace Ob := Lib.hid (Ob.out.later b_w5)
  replace ca0 := (b_w5.cell (p := ⟨w2.heap.size, 0, none⟩) (by show w2.heap.size < _; omega)).trans ca0
  replace ca1 := (b_w5.cell (p := ⟨w2.heap.size, 1, none⟩) (by show w2.heap.size < _; omega)).trans ca1
  replace BA : Hid (Below w.heap.size w w5) := BA.out.trans (b_w5.mono (by omega))
  replace ZA : w.heap.size ≤ w5.heap.size := (by omega)
  replace ya : w2.heap.size < w5.heap.size := (by omega)
  clear b_w5
  have yb : w4.heap.size < w5.heap.size := zz_w5
  go_wp2_with fail
  refine (Sel_z n n_lo (by omega) w5).mono ?_
  rintro e w6 ⟨qc, usc, rfl, oc, b_w6⟩
  obtain ⟨xc, hxc⟩ : ∃ X, X = selE n := ⟨_, rfl⟩
  rw [← hxc] at oc
  have HXc := Lib.hid hxc
  clear hxc
  obtain ⟨aoc, gc, capc, ec, -, -, -⟩ := oc.rows
  obtain ⟨Lc, hLc⟩ : ∃ L, L = xc.length := ⟨_, rfl⟩
  rw [← hLc] at ec
  subst ec
  have HNc := Lib.hid hLc
  clear hLc
  have z_w6 := b_w6.size
  replace Oa := Lib.hid (Oa.out.later b_w6)
  replace Ob := Lib.hid (Ob.out.later b_w6)
  replace ca0 := (b_w6.cell (p := ⟨w2.heap.size, 0, none⟩) (by show w2.heap.size < _; omega)).trans ca0
  replace ca1 := (b_w6.cell (p := ⟨w2.heap.size, 1, none⟩) (by show w2.heap.size < _; omega)).trans ca1
  replace cb0 := (b_w6.cell (p := ⟨w4.heap.size, 0, none⟩) (by show w4.heap.size < _; omega)).trans cb0
  replace cb1 := (b_w6.cell (p := ⟨w4.heap.size, 1, none⟩) (by show w4.heap.size < _; omega)).trans cb1
  replace BA : Hid (Below w.heap.size w w6) := BA.out.trans (b_w6.mono (by omega))
  replace ZA : w.heap.size ≤ w6.heap.size := (by omega)
  replace ya : w2.heap.size < w6.heap.size := (by omega)
  replace yb : w4.heap.size < w6.heap.size := (by omega)
  clear b_w6
  have Oc := Lib.hid oc
  clear oc
  go_wp2_with fail
  obtain ⟨w7, hWw7, cc0, cc1, hzw7, b_w7, -, -⟩ := box2 w6 (.int .i64 n) (.slice aoc Lc capc) 30
  rw [hWw7]
  clear hWw7
  have zz_w7 : w6.heap.size < w7.heap.size := (by omega)
  clear hzw7
  have z_w7 := b_w7.size
  replace Oa := Lib.hid (Oa.out.later b_w7)
  replace Ob := Lib.hid (Ob.out.later b_w7)
  replace Oc := Lib.hid (Oc.out.later b_w7)
  replace ca0 := (b_w7.cell (p := ⟨w2.heap.size, 0, none⟩) (by show w2.heap.size < _; omega)).trans ca0
  replace ca1 := (b_w7.cell (p := ⟨w2.heap.size, 1, none⟩) (by show w2.heap.size < _; omega)).trans ca1
  replace cb0 := (b_w7.cell (p := ⟨w4.heap.size, 0, none⟩) (by show w4.heap.size < _; omega)).trans cb0
  replace cb1 := (b_w7.cell (p := ⟨w4.heap.size, 1, none⟩) (by show w4.heap.size < _; omega)).trans cb1
  replace BA : Hid (Below w.heap.size w w7) := BA.out.trans (b_w7.mono (by omega))
  replace ZA : w.heap.size ≤ w7.heap.size := (by omega)
  replace ya : w2.heap.size < w7.heap.size := (by omega)
  replace yb : w4.heap.size < w7.heap.size := (by omega)
  clear b_w7
  have yc : w6.heap.size < w7.heap.size := zz_w7
  go_wp2_with fail
  refine (Brick_z n n n_lo (by omega) (by omega) w7).mono ?_
  rintro e w8 ⟨qd, usd, rfl, od, b_w8⟩
  obtain ⟨xd, hxd⟩ : ∃ X, X = bricks n n := ⟨_, rfl⟩
  rw [← hxd] at od
  have HXd := Lib.hid hxd
  clear hxd
  obtain ⟨aod, gd, capd, ed, -, -, -⟩ := od.rows
  obtain ⟨Ld, hLd⟩ : ∃ L, L = xd.length := ⟨_, rfl⟩
  rw [← hLd] at ed
  subst ed
  have HNd := Lib.hid hLd
  clear hLd
  have z_w8 := b_w8.size
  replace Oa := Lib.hid (Oa.out.later b_w8)
  replace Ob := Lib.hid (Ob.out.later b_w8)
  replace Oc := Lib.hid (Oc.out.later b_w8)
  replace ca0 := (b_w8.cell (p := ⟨w2.heap.size, 0, none⟩) (by show w2.heap.size < _; omega)).trans ca0
  replace ca1 := (b_w8.cell (p := ⟨w2.heap.size, 1, none⟩) (by show w2.heap.size < _; omega)).trans ca1
  replace cb0 := (b_w8.cell (p := ⟨w4.heap.size, 0, none⟩) (by show w4.heap.size < _; omega)).trans cb0
  replace cb1 := (b_w8.cell (p := ⟨w4.heap.size, 1, none⟩) (by show w4.heap.size < _; omega)).trans cb1
  replace cc0 := (b_w8.cell (p := ⟨w6.heap.size, 0, none⟩) (by show w6.heap.size < _; omega)).trans cc0
  replace cc1 := (b_w8.cell (p := ⟨w6.heap.size, 1, none⟩) (by show w6.heap.size < _; omega)).trans cc1
  replace BA : Hid (Below w.heap.size w w8) := BA.out.trans (b_w8.mono (by omega))
  replace ZA : w.heap.size ≤ w8.heap.size := (by omega)
  replace ya : w2.heap.size < w8.heap.size := (by omega)
  replace yb : w4.heap.size < w8.heap.size := (by omega)
  replace yc : w6.heap.size < w8.heap.size := (by omega)
  clear b_w8
  have Od := Lib.hid od
  clear od
  go_upto_region 8 with fail
  obtain ⟨w9, hWw9, cd0, cd1, hzw9, b_w9, -, -⟩ := box2 w8 (.int .i64 n) (.slice aod Ld capd) 30
  rw [hWw9]
  clear hWw9
  have zz_w9 : w8.heap.size < w9.heap.size := (by omega)
  clear hzw9
  have z_w9 := b_w9.size
  replace Oa := Lib.hid (Oa.out.later b_w9)
  replace Ob := Lib.hid (Ob.out.later b_w9)
  replace Oc := Lib.hid (Oc.out.later b_w9)
  replace Od := Lib.hid (Od.out.later b_w9)
  replace ca0 := (b_w9.cell (p := ⟨w2.heap.size, 0, none⟩) (by show w2.heap.size < _; omega)).trans ca0
  replace ca1 := (b_w9.cell (p := ⟨w2.heap.size, 1, none⟩) (by show w2.heap.size < _; omega)).trans ca1
  replace cb0 := (b_w9.cell (p := ⟨w4.heap.size, 0, none⟩) (by show w4.heap.size < _; omega)).trans cb0
  replace cb1 := (b_w9.cell (p := ⟨w4.heap.size, 1, none⟩) (by show w4.heap.size < _; omega)).trans cb1
  replace cc0 := (b_w9.cell (p := ⟨w6.heap.size, 0, none⟩) (by show w6.heap.size < _; omega)).trans cc0
  replace cc1 := (b_w9.cell (p := ⟨w6.heap.size, 1, none⟩) (by show w6.heap.size < _; omega)).trans cc1
  replace BA : Hid (Below w.heap.size w w9) := BA.out.trans (b_w9.mono (by omega))
  replace ZA : w.heap.size ≤ w9.heap.size := (by omega)
  replace ya : w2.heap.size < w9.heap.size := (by omega)
  replace yb : w4.heap.size < w9.heap.size := (by omega)
  replace yc : w6.heap.size < w9.heap.size := (by omega)
  clear b_w9
  have yd : w8.heap.size < w9.heap.size := zz_w9
  have SA : Hid (sortsR (n : Nat) xa = true) := by show _ = _; rw [HXa.out]; exact F.out.1
  have SB : Hid (sortsR (n : Nat) xb = true) := by show _ = _; rw [HXb.out]; exact F.out.2.1
  have SC : Hid (sortsR (n : Nat) xc = true) := by show _ = _; rw [HXc.out]; exact F.out.2.2.1
  have SD : Hid (sortsR (n : Nat) xd = true) := by show _ = _; rw [HXd.out]; exact F.out.2.2.2.1
  obtain ⟨pp, hpp⟩ : ∃ x, x = n * (n - 1) := ⟨_, rfl⟩
  obtain ⟨al, hal⟩ : ∃ x, x = pp / 2 := ⟨_, rfl⟩
  have hp1 : (n : Int) * ((n : Int) - 1) = (pp : Int) := by
    have e9 : (n : Int) - 1 = ((n - 1 : Nat) : Int) := by omega
    rw [hpp, e9]
    simp
  have hp42 : pp ≤ 42 := by
    rw [hpp]
    have : n * (n - 1) ≤ 7 * 6 := Nat.mul_le_mul n_hi (by omega)
    omega
  have m4 : (n : Int) * ((n : Int) - 1) = (pp : Int) := hp1
  have wm4 : IntKind.i64.wrap ((n : Int) * ((n : Int) - 1)) = (pp : Int) := by rw [hp1]; exact IntWalk.i64_in _ (by omega)
  have q2 : (pp : Int) / 2 = (al : Int) := by omega
  have q4 : (pp : Int).tdiv 2 = (al : Int) := by rw [Int.tdiv_eq_ediv_of_nonneg (by omega)]; exact q2
  have ta : ((al : Int) != (al : Int)) = false := by simp
  have HAL : Hid ((n : Int) * ((n : Int) - 1) / 2 = (al : Int)) := by show _ = _; rw [hp1]; exact q2
  clear hpp hal hp1
  go_wp2_with fail
  refine (CountPairs_impl_c n _ _ _ usa xa w9 Oa.out (by omega)).mono ?_
  rintro e w10 ⟨rfl, b_w10⟩
  rw [show countP (n : Int) xa = (al : Int) from by rw [HXa.out, ← HAL.out]; exact F.out.2.2.2.2.1]
  have z_w10 := b_w10.size
  replace Oa := Lib.hid (Oa.out.later b_w10)
  replace Ob := Lib.hid (Ob.out.later b_w10)
  replace Oc := Lib.hid (Oc.out.later b_w10)
  replace Od := Lib.hid (Od.out.later b_w10)
  replace ca0 := (b_w10.cell (p := ⟨w2.heap.size, 0, none⟩) (by show w2.heap.size < _; omega)).trans ca0
  replace ca1 := (b_w10.cell (p := ⟨w2.heap.size, 1, none⟩) (by show w2.heap.size < _; omega)).trans ca1
  replace cb0 := (b_w10.cell (p := ⟨w4.heap.size, 0, none⟩) (by show w4.heap.size < _; omega)).trans cb0
  replace cb1 := (b_w10.cell (p := ⟨w4.heap.size, 1, none⟩) (by show w4.heap.size < _; omega)).trans cb1
  replace cc0 := (b_w10.cell (p := ⟨w6.heap.size, 0, none⟩) (by show w6.heap.size < _; omega)).trans cc0
  replace cc1 := (b_w10.cell (p := ⟨w6.heap.size, 1, none⟩) (by show w6.heap.size < _; omega)).trans cc1
  replace cd0 := (b_w10.cell (p := ⟨w8.heap.size, 0, none⟩) (by show w8.heap.size < _; omega)).trans cd0
  replace cd1 := (b_w10.cell (p := ⟨w8.heap.size, 1, none⟩) (by show w8.heap.size < _; omega)).trans cd1
  replace BA : Hid (Below w.heap.size w w10) := BA.out.trans (b_w10.mono (by omega))
  replace ZA : w.heap.size ≤ w10.heap.size := (by omega)
  replace ya : w2.heap.size < w10.heap.size := (by omega)
  replace yb : w4.heap.size < w10.heap.size := (by omega)
  replace yc : w6.heap.size < w10.heap.size := (by omega)
  replace yd : w8.heap.size < w10.heap.size := (by omega)
  clear b_w10
  go_wp2_with fail
  refine (CountPairs_impl_c n _ _ _ usb xb w10 Ob.out (by omega)).mono ?_
  rintro e w11 ⟨rfl, b_w11⟩
  rw [show countP (n : Int) xb = (al : Int) from by rw [HXb.out, ← HAL.out]; exact F.out.2.2.2.2.2.1]
  have z_w11 := b_w11.size
  replace Oa := Lib.hid (Oa.out.later b_w11)
  replace Ob := Lib.hid (Ob.out.later b_w11)
  replace Oc := Lib.hid (Oc.out.later b_w11)
  replace Od := Lib.hid (Od.out.later b_w11)
  replace ca0 := (b_w11.cell (p := ⟨w2.heap.size, 0, none⟩) (by show w2.heap.size < _; omega)).trans ca0
  replace ca1 := (b_w11.cell (p := ⟨w2.heap.size, 1, none⟩) (by show w2.heap.size < _; omega)).trans ca1
  replace cb0 := (b_w11.cell (p := ⟨w4.heap.size, 0, none⟩) (by show w4.heap.size < _; omega)).trans cb0
  replace cb1 := (b_w11.cell (p := ⟨w4.heap.size, 1, none⟩) (by show w4.heap.size < _; omega)).trans cb1
  replace cc0 := (b_w11.cell (p := ⟨w6.heap.size, 0, none⟩) (by show w6.heap.size < _; omega)).trans cc0
  replace cc1 := (b_w11.cell (p := ⟨w6.heap.size, 1, none⟩) (by show w6.heap.size < _; omega)).trans cc1
  replace cd0 := (b_w11.cell (p := ⟨w8.heap.size, 0, none⟩) (by show w8.heap.size < _; omega)).trans cd0
  replace cd1 := (b_w11.cell (p := ⟨w8.heap.size, 1, none⟩) (by show w8.heap.size < _; omega)).trans cd1
  replace BA : Hid (Below w.heap.size w w11) := BA.out.trans (b_w11.mono (by omega))
  replace ZA : w.heap.size ≤ w11.heap.size := (by omega)
  replace ya : w2.heap.size < w11.heap.size := (by omega)
  replace yb : w4.heap.size < w11.heap.size := (by omega)
  replace yc : w6.heap.size < w11.heap.size := (by omega)
  replace yd : w8.heap.size < w11.heap.size := (by omega)
  clear b_w11
  go_wp2_with fail
  refine (CountPairs_impl_c n _ _ _ usc xc w11 Oc.out (by omega)).mono ?_
  rintro e w12 ⟨rfl, b_w12⟩
  rw [show countP (n : Int) xc = (al : Int) from by rw [HXc.out, ← HAL.out]; exact F.out.2.2.2.2.2.2.1]
  have z_w12 := b_w12.size
  replace Oa := Lib.hid (Oa.out.later b_w12)
  replace Ob := Lib.hid (Ob.out.later b_w12)
  replace Oc := Lib.hid (Oc.out.later b_w12)
  replace Od := Lib.hid (Od.out.later b_w12)
  replace ca0 := (b_w12.cell (p := ⟨w2.heap.size, 0, none⟩) (by show w2.heap.size < _; omega)).trans ca0
  replace ca1 := (b_w12.cell (p := ⟨w2.heap.size, 1, none⟩) (by show w2.heap.size < _; omega)).trans ca1
  replace cb0 := (b_w12.cell (p := ⟨w4.heap.size, 0, none⟩) (by show w4.heap.size < _; omega)).trans cb0
  replace cb1 := (b_w12.cell (p := ⟨w4.heap.size, 1, none⟩) (by show w4.heap.size < _; omega)).trans cb1
  replace cc0 := (b_w12.cell (p := ⟨w6.heap.size, 0, none⟩) (by show w6.heap.size < _; omega)).trans cc0
  replace cc1 := (b_w12.cell (p := ⟨w6.heap.size, 1, none⟩) (by show w6.heap.size < _; omega)).trans cc1
  replace cd0 := (b_w12.cell (p := ⟨w8.heap.size, 0, none⟩) (by show w8.heap.size < _; omega)).trans cd0
  replace cd1 := (b_w12.cell (p := ⟨w8.heap.size, 1, none⟩) (by show w8.heap.size < _; omega)).trans cd1
  replace BA : Hid (Below w.heap.size w w12) := BA.out.trans (b_w12.mono (by omega))
  replace ZA : w.heap.size ≤ w12.heap.size := (by omega)
  replace ya : w2.heap.size < w12.heap.size := (by omega)
  replace yb : w4.heap.size < w12.heap.size := (by omega)
  replace yc : w6.heap.size < w12.heap.size := (by omega)
  replace yd : w8.heap.size < w12.heap.size := (by omega)
  clear b_w12
  go_wp2_with fail
  refine (CountPairs_impl_c n _ _ _ usd xd w12 Od.out (by omega)).mono ?_
  rintro e w13 ⟨rfl, b_w13⟩
  rw [show countP (n : Int) xd = (al : Int) from by rw [HXd.out, ← HAL.out]; exact F.out.2.2.2.2.2.2.2.1]
  have z_w13 := b_w13.size
  replace Oa := Lib.hid (Oa.out.later b_w13)
  replace Ob := Lib.hid (Ob.out.later b_w13)
  replace Oc := Lib.hid (Oc.out.later b_w13)
  replace Od := Lib.hid (Od.out.later b_w13)
  replace ca0 := (b_w13.cell (p := ⟨w2.heap.size, 0, none⟩) (by show w2.heap.size < _; omega)).trans ca0
  replace ca1 := (b_w13.cell (p := ⟨w2.heap.size, 1, none⟩) (by show w2.heap.size < _; omega)).trans ca1
  replace cb0 := (b_w13.cell (p := ⟨w4.heap.size, 0, none⟩) (by show w4.heap.size < _; omega)).trans cb0
  replace cb1 := (b_w13.cell (p := ⟨w4.heap.size, 1, none⟩) (by show w4.heap.size < _; omega)).trans cb1
  replace cc0 := (b_w13.cell (p := ⟨w6.heap.size, 0, none⟩) (by show w6.heap.size < _; omega)).trans cc0
  replace cc1 := (b_w13.cell (p := ⟨w6.heap.size, 1, none⟩) (by show w6.heap.size < _; omega)).trans cc1
  replace cd0 := (b_w13.cell (p := ⟨w8.heap.size, 0, none⟩) (by show w8.heap.size < _; omega)).trans cd0
  replace cd1 := (b_w13.cell (p := ⟨w8.heap.size, 1, none⟩) (by show w8.heap.size < _; omega)).trans cd1
  replace BA : Hid (Below w.heap.size w w13) := BA.out.trans (b_w13.mono (by omega))
  replace ZA : w.heap.size ≤ w13.heap.size := (by omega)
  replace ya : w2.heap.size < w13.heap.size := (by omega)
  replace yb : w4.heap.size < w13.heap.size := (by omega)
  replace yc : w6.heap.size < w13.heap.size := (by omega)
  replace yd : w8.heap.size < w13.heap.size := (by omega)
  clear b_w13
  go_wp2_with fail
  refine (ByLevels_y n _ _ _ usa xa w13 Oa.out (by omega) (sortsE_ok SA.out) (by rw [HXa.out]; exact F.out.2.2.2.2.2.2.2.2.2.2.1)).mono ?_
  rintro e w14 ⟨lx, hsx, qx, usx, rfl, ox, b_w14⟩
  obtain ⟨xx, hxx⟩ : ∃ X, X = rowsAt xa lx := ⟨_, rfl⟩
  rw [← hxx] at ox
  have HXx := Lib.hid hxx
  have HSx := Lib.hid hsx
  clear hxx hsx
  obtain ⟨aox, gx, capx, ex, -, -, -⟩ := ox.rows
  obtain ⟨Lx, hLx⟩ : ∃ L, L = xx.length := ⟨_, rfl⟩
  rw [← hLx] at ex
  subst ex
  have HNx := Lib.hid hLx
  clear hLx
  have z_w14 := b_w14.size
  replace Oa := Lib.hid (Oa.out.later b_w14)
  replace Ob := Lib.hid (Ob.out.later b_w14)
  replace Oc := Lib.hid (Oc.out.later b_w14)
  replace Od := Lib.hid (Od.out.later b_w14)
  replace ca0 := (b_w14.cell (p := ⟨w2.heap.size, 0, none⟩) (by show w2.heap.size < _; omega)).trans ca0
  replace ca1 := (b_w14.cell (p := ⟨w2.heap.size, 1, none⟩) (by show w2.heap.size < _; omega)).trans ca1
  replace cb0 := (b_w14.cell (p := ⟨w4.heap.size, 0, none⟩) (by show w4.heap.size < _; omega)).trans cb0
  replace cb1 := (b_w14.cell (p := ⟨w4.heap.size, 1, none⟩) (by show w4.heap.size < _; omega)).trans cb1
  replace cc0 := (b_w14.cell (p := ⟨w6.heap.size, 0, none⟩) (by show w6.heap.size < _; omega)).trans cc0
  replace cc1 := (b_w14.cell (p := ⟨w6.heap.size, 1, none⟩) (by show w6.heap.size < _; omega)).trans cc1
  replace cd0 := (b_w14.cell (p := ⟨w8.heap.size, 0, none⟩) (by show w8.heap.size < _; omega)).trans cd0
  replace cd1 := (b_w14.cell (p := ⟨w8.heap.size, 1, none⟩) (by show w8.heap.size < _; omega)).trans cd1
  replace BA : Hid (Below w.heap.size w w14) := BA.out.trans (b_w14.mono (by omega))
  replace ZA : w.heap.size ≤ w14.heap.size := (by omega)
  replace ya : w2.heap.size < w14.heap.size := (by omega)
  replace yb : w4.heap.size < w14.heap.size := (by omega)
  replace yc : w6.heap.size < w14.heap.size := (by omega)
  replace yd : w8.heap.size < w14.heap.size := (by omega)
  clear b_w14
  have Ox := Lib.hid ox
  clear ox
  go_upto_region 12 with fail
  obtain ⟨w15, hWw15, cx0, cx1, hzw15, b_w15, -, -⟩ := box2 w14 (.int .i64 n) (.slice aox Lx capx) 30
  rw [hWw15]
  clear hWw15
  have zz_w15 : w14.heap.size < w15.heap.size := (by omega)
  clear hzw15
  have z_w15 := b_w15.size
  replace Oa := Lib.hid (Oa.out.later b_w15)
  replace Ob := Lib.hid (Ob.out.later b_w15)
  replace Oc := Lib.hid (Oc.out.later b_w15)
  replace Od := Lib.hid (Od.out.later b_w15)
  replace Ox := Lib.hid (Ox.out.later b_w15)
  replace ca0 := (b_w15.cell (p := ⟨w2.heap.size, 0, none⟩) (by show w2.heap.size < _; omega)).trans ca0
  replace ca1 := (b_w15.cell (p := ⟨w2.heap.size, 1, none⟩) (by show w2.heap.size < _; omega)).trans ca1
  replace cb0 := (b_w15.cell (p := ⟨w4.heap.size, 0, none⟩) (by show w4.heap.size < _; omega)).trans cb0
  replace cb1 := (b_w15.cell (p := ⟨w4.heap.size, 1, none⟩) (by show w4.heap.size < _; omega)).trans cb1
  replace cc0 := (b_w15.cell (p := ⟨w6.heap.size, 0, none⟩) (by show w6.heap.size < _; omega)).trans cc0
  replace cc1 := (b_w15.cell (p := ⟨w6.heap.size, 1, none⟩) (by show w6.heap.size < _; omega)).trans cc1
  replace cd0 := (b_w15.cell (p := ⟨w8.heap.size, 0, none⟩) (by show w8.heap.size < _; omega)).trans cd0
  replace cd1 := (b_w15.cell (p := ⟨w8.heap.size, 1, none⟩) (by show w8.heap.size < _; omega)).trans cd1
  replace BA : Hid (Below w.heap.size w w15) := BA.out.trans (b_w15.mono (by omega))
  replace ZA : w.heap.size ≤ w15.heap.size := (by omega)
  replace ya : w2.heap.size < w15.heap.size := (by omega)
  replace yb : w4.heap.size < w15.heap.size := (by omega)
  replace yc : w6.heap.size < w15.heap.size := (by omega)
  replace yd : w8.heap.size < w15.heap.size := (by omega)
  clear b_w15
  have yx : w14.heap.size < w15.heap.size := zz_w15
  go_wp2_with fail
  refine (ByLevels_y n _ _ _ usb xb w15 Ob.out (by omega) (sortsE_ok SB.out) (by rw [HXb.out]; exact F.out.2.2.2.2.2.2.2.2.2.2.2)).mono ?_
  rintro e w16 ⟨ly, hsy, qy, usy, rfl, oy, b_w16⟩
  obtain ⟨xy, hxy⟩ : ∃ X, X = rowsAt xb ly := ⟨_, rfl⟩
  rw [← hxy] at oy
  have HXy := Lib.hid hxy
  have HSy := Lib.hid hsy
  clear hxy hsy
  obtain ⟨aoy, gy, capy, ey, -, -, -⟩ := oy.rows
  obtain ⟨Ly, hLy⟩ : ∃ L, L = xy.length := ⟨_, rfl⟩
  rw [← hLy] at ey
  subst ey
  have HNy := Lib.hid hLy
  clear hLy
  have z_w16 := b_w16.size
  replace Oa := Lib.hid (Oa.out.later b_w16)
  replace Ob := Lib.hid (Ob.out.later b_w16)
  replace Oc := Lib.hid (Oc.out.later b_w16)
  replace Od := Lib.hid (Od.out.later b_w16)
  replace Ox := Lib.hid (Ox.out.later b_w16)
  replace ca0 := (b_w16.cell (p := ⟨w2.heap.size, 0, none⟩) (by show w2.heap.size < _; omega)).trans ca0
  replace ca1 := (b_w16.cell (p := ⟨w2.heap.size, 1, none⟩) (by show w2.heap.size < _; omega)).trans ca1
  replace cb0 := (b_w16.cell (p := ⟨w4.heap.size, 0, none⟩) (by show w4.heap.size < _; omega)).trans cb0
  replace cb1 := (b_w16.cell (p := ⟨w4.heap.size, 1, none⟩) (by show w4.heap.size < _; omega)).trans cb1
  replace cc0 := (b_w16.cell (p := ⟨w6.heap.size, 0, none⟩) (by show w6.heap.size < _; omega)).trans cc0
  replace cc1 := (b_w16.cell (p := ⟨w6.heap.size, 1, none⟩) (by show w6.heap.size < _; omega)).trans cc1
  replace cd0 := (b_w16.cell (p := ⟨w8.heap.size, 0, none⟩) (by show w8.heap.size < _; omega)).trans cd0
  replace cd1 := (b_w16.cell (p := ⟨w8.heap.size, 1, none⟩) (by show w8.heap.size < _; omega)).trans cd1
  replace cx0 := (b_w16.cell (p := ⟨w14.heap.size, 0, none⟩) (by show w14.heap.size < _; omega)).trans cx0
  replace cx1 := (b_w16.cell (p := ⟨w14.heap.size, 1, none⟩) (by show w14.heap.size < _; omega)).trans cx1
  replace BA : Hid (Below w.heap.size w w16) := BA.out.trans (b_w16.mono (by omega))
  replace ZA : w.heap.size ≤ w16.heap.size := (by omega)
  replace ya : w2.heap.size < w16.heap.size := (by omega)
  replace yb : w4.heap.size < w16.heap.size := (by omega)
  replace yc : w6.heap.size < w16.heap.size := (by omega)
  replace yd : w8.heap.size < w16.heap.size := (by omega)
  replace yx : w14.heap.size < w16.heap.size := (by omega)
  clear b_w16
  have Oy := Lib.hid oy
  clear oy
  go_upto_region 13 with fail
  obtain ⟨w17, hWw17, cy0, cy1, hzw17, b_w17, -, -⟩ := box2 w16 (.int .i64 n) (.slice aoy Ly capy) 30
  rw [hWw17]
  clear hWw17
  have zz_w17 : w16.heap.size < w17.heap.size := (by omega)
  clear hzw17
  have z_w17 := b_w17.size
  replace Oa := Lib.hid (Oa.out.later b_w17)
  replace Ob := Lib.hid (Ob.out.later b_w17)
  replace Oc := Lib.hid (Oc.out.later b_w17)
  replace Od := Lib.hid (Od.out.later b_w17)
  replace Ox := Lib.hid (Ox.out.later b_w17)
  replace Oy := Lib.hid (Oy.out.later b_w17)
  replace ca0 := (b_w17.cell (p := ⟨w2.heap.size, 0, none⟩) (by show w2.heap.size < _; omega)).trans ca0
  replace ca1 := (b_w17.cell (p := ⟨w2.heap.size, 1, none⟩) (by show w2.heap.size < _; omega)).trans ca1
  replace cb0 := (b_w17.cell (p := ⟨w4.heap.size, 0, none⟩) (by show w4.heap.size < _; omega)).trans cb0
  replace cb1 := (b_w17.cell (p := ⟨w4.heap.size, 1, none⟩) (by show w4.heap.size < _; omega)).trans cb1
  replace cc0 := (b_w17.cell (p := ⟨w6.heap.size, 0, none⟩) (by show w6.heap.size < _; omega)).trans cc0
  replace cc1 := (b_w17.cell (p := ⟨w6.heap.size, 1, none⟩) (by show w6.heap.size < _; omega)).trans cc1
  replace cd0 := (b_w17.cell (p := ⟨w8.heap.size, 0, none⟩) (by show w8.heap.size < _; omega)).trans cd0
  replace cd1 := (b_w17.cell (p := ⟨w8.heap.size, 1, none⟩) (by show w8.heap.size < _; omega)).trans cd1
  replace cx0 := (b_w17.cell (p := ⟨w14.heap.size, 0, none⟩) (by show w14.heap.size < _; omega)).trans cx0
  replace cx1 := (b_w17.cell (p := ⟨w14.heap.size, 1, none⟩) (by show w14.heap.size < _; omega)).trans cx1
  replace BA : Hid (Below w.heap.size w w17) := BA.out.trans (b_w17.mono (by omega))
  replace ZA : w.heap.size ≤ w17.heap.size := (by omega)
  replace ya : w2.heap.size < w17.heap.size := (by omega)
  replace yb : w4.heap.size < w17.heap.size := (by omega)
  replace yc : w6.heap.size < w17.heap.size := (by omega)
  replace yd : w8.heap.size < w17.heap.size := (by omega)
  replace yx : w14.heap.size < w17.heap.size := (by omega)
  clear b_w17
  have yy : w16.heap.size < w17.heap.size := zz_w17
  have HSM : Hid (xx = xy ∧ netOk (n : Nat) xx = true) := by
    have h1 := HSx.out
    have h2 := HSy.out
    have e1 := HXx.out
    have e2 := HXy.out
    rw [HXa.out] at h1 e1
    rw [HXb.out] at h2 e2
    have := by_same n_lo n_hi h1 h2
    rw [← e1, ← e2] at this
    exact this
  have XOK : Hid (netOk (n : Nat) xx = true) := HSM.out.2
  have YOK : Hid (netOk (n : Nat) xy = true) := by show _ = _; rw [← HSM.out.1]; exact HSM.out.2
  go_wp2_with fail
  refine (SameNetwork_y n n _ _ _ _ _ _ usx usy xx xy w17 Ox.out (by omega) XOK.out Oy.out (by omega) YOK.out).mono ?_
  rintro e w18 ⟨rfl, b_w18⟩
  rw [show (decide (n = n) && decide (xx = xy)) = true from by rw [HSM.out.1]; simp]
  have z_w18 := b_w18.size
  replace Oa := Lib.hid (Oa.out.later b_w18)
  replace Ob := Lib.hid (Ob.out.later b_w18)
  replace Oc := Lib.hid (Oc.out.later b_w18)
  replace Od := Lib.hid (Od.out.later b_w18)
  replace Ox := Lib.hid (Ox.out.later b_w18)
  replace Oy := Lib.hid (Oy.out.later b_w18)
  replace ca0 := (b_w18.cell (p := ⟨w2.heap.size, 0, none⟩) (by show w2.heap.size < _; omega)).trans ca0
  replace ca1 := (b_w18.cell (p := ⟨w2.heap.size, 1, none⟩) (by show w2.heap.size < _; omega)).trans ca1
  replace cb0 := (b_w18.cell (p := ⟨w4.heap.size, 0, none⟩) (by show w4.heap.size < _; omega)).trans cb0
  replace cb1 := (b_w18.cell (p := ⟨w4.heap.size, 1, none⟩) (by show w4.heap.size < _; omega)).trans cb1
  replace cc0 := (b_w18.cell (p := ⟨w6.heap.size, 0, none⟩) (by show w6.heap.size < _; omega)).trans cc0
  replace cc1 := (b_w18.cell (p := ⟨w6.heap.size, 1, none⟩) (by show w6.heap.size < _; omega)).trans cc1
  replace cd0 := (b_w18.cell (p := ⟨w8.heap.size, 0, none⟩) (by show w8.heap.size < _; omega)).trans cd0
  replace cd1 := (b_w18.cell (p := ⟨w8.heap.size, 1, none⟩) (by show w8.heap.size < _; omega)).trans cd1
  replace cx0 := (b_w18.cell (p := ⟨w14.heap.size, 0, none⟩) (by show w14.heap.size < _; omega)).trans cx0
  replace cx1 := (b_w18.cell (p := ⟨w14.heap.size, 1, none⟩) (by show w14.heap.size < _; omega)).trans cx1
  replace cy0 := (b_w18.cell (p := ⟨w16.heap.size, 0, none⟩) (by show w16.heap.size < _; omega)).trans cy0
  replace cy1 := (b_w18.cell (p := ⟨w16.heap.size, 1, none⟩) (by show w16.heap.size < _; omega)).trans cy1
  replace BA : Hid (Below w.heap.size w w18) := BA.out.trans (b_w18.mono (by omega))
  replace ZA : w.heap.size ≤ w18.heap.size := (by omega)
  replace ya : w2.heap.size < w18.heap.size := (by omega)
  replace yb : w4.heap.size < w18.heap.size := (by omega)
  replace yc : w6.heap.size < w18.heap.size := (by omega)
  replace yd : w8.heap.size < w18.heap.size := (by omega)
  replace yx : w14.heap.size < w18.heap.size := (by omega)
  replace yy : w16.heap.size < w18.heap.size := (by omega)
  clear b_w18
  go_wp2_with fail
  refine (IsSorting_i n _ _ _ usa xa w18 Oa.out (by omega)).mono ?_
  rintro e w19 ⟨rfl, b_w19⟩
  rw [show sortsR (n : Int) xa = true from SA.out]
  have z_w19 := b_w19.size
  replace Oa := Lib.hid (Oa.out.later b_w19)
  replace Ob := Lib.hid (Ob.out.later b_w19)
  replace Oc := Lib.hid (Oc.out.later b_w19)
  replace Od := Lib.hid (Od.out.later b_w19)
  replace Ox := Lib.hid (Ox.out.later b_w19)
  replace Oy := Lib.hid (Oy.out.later b_w19)
  replace ca0 := (b_w19.cell (p := ⟨w2.heap.size, 0, none⟩) (by show w2.heap.size < _; omega)).trans ca0
  replace ca1 := (b_w19.cell (p := ⟨w2.heap.size, 1, none⟩) (by show w2.heap.size < _; omega)).trans ca1
  replace cb0 := (b_w19.cell (p := ⟨w4.heap.size, 0, none⟩) (by show w4.heap.size < _; omega)).trans cb0
  replace cb1 := (b_w19.cell (p := ⟨w4.heap.size, 1, none⟩) (by show w4.heap.size < _; omega)).trans cb1
  replace cc0 := (b_w19.cell (p := ⟨w6.heap.size, 0, none⟩) (by show w6.heap.size < _; omega)).trans cc0
  replace cc1 := (b_w19.cell (p := ⟨w6.heap.size, 1, none⟩) (by show w6.heap.size < _; omega)).trans cc1
  replace cd0 := (b_w19.cell (p := ⟨w8.heap.size, 0, none⟩) (by show w8.heap.size < _; omega)).trans cd0
  replace cd1 := (b_w19.cell (p := ⟨w8.heap.size, 1, none⟩) (by show w8.heap.size < _; omega)).trans cd1
  replace cx0 := (b_w19.cell (p := ⟨w14.heap.size, 0, none⟩) (by show w14.heap.size < _; omega)).trans cx0
  replace cx1 := (b_w19.cell (p := ⟨w14.heap.size, 1, none⟩) (by show w14.heap.size < _; omega)).trans cx1
  replace cy0 := (b_w19.cell (p := ⟨w16.heap.size, 0, none⟩) (by show w16.heap.size < _; omega)).trans cy0
  replace cy1 := (b_w19.cell (p := ⟨w16.heap.size, 1, none⟩) (by show w16.heap.size < _; omega)).trans cy1
  replace BA : Hid (Below w.heap.size w w19) := BA.out.trans (b_w19.mono (by omega))
  replace ZA : w.heap.size ≤ w19.heap.size := (by omega)
  replace ya : w2.heap.size < w19.heap.size := (by omega)
  replace yb : w4.heap.size < w19.heap.size := (by omega)
  replace yc : w6.heap.size < w19.heap.size := (by omega)
  replace yd : w8.heap.size < w19.heap.size := (by omega)
  replace yx : w14.heap.size < w19.heap.size := (by omega)
  replace yy : w16.heap.size < w19.heap.size := (by omega)
  clear b_w19
  go_wp2_with fail
  refine (IsSorting_i n _ _ _ usc xc w19 Oc.out (by omega)).mono ?_
  rintro e w20 ⟨rfl, b_w20⟩
  rw [show sortsR (n : Int) xc = true from SC.out]
  have z_w20 := b_w20.size
  replace Oa := Lib.hid (Oa.out.later b_w20)
  replace Ob := Lib.hid (Ob.out.later b_w20)
  replace Oc := Lib.hid (Oc.out.later b_w20)
  replace Od := Lib.hid (Od.out.later b_w20)
  replace Ox := Lib.hid (Ox.out.later b_w20)
  replace Oy := Lib.hid (Oy.out.later b_w20)
  replace ca0 := (b_w20.cell (p := ⟨w2.heap.size, 0, none⟩) (by show w2.heap.size < _; omega)).trans ca0
  replace ca1 := (b_w20.cell (p := ⟨w2.heap.size, 1, none⟩) (by show w2.heap.size < _; omega)).trans ca1
  replace cb0 := (b_w20.cell (p := ⟨w4.heap.size, 0, none⟩) (by show w4.heap.size < _; omega)).trans cb0
  replace cb1 := (b_w20.cell (p := ⟨w4.heap.size, 1, none⟩) (by show w4.heap.size < _; omega)).trans cb1
  replace cc0 := (b_w20.cell (p := ⟨w6.heap.size, 0, none⟩) (by show w6.heap.size < _; omega)).trans cc0
  replace cc1 := (b_w20.cell (p := ⟨w6.heap.size, 1, none⟩) (by show w6.heap.size < _; omega)).trans cc1
  replace cd0 := (b_w20.cell (p := ⟨w8.heap.size, 0, none⟩) (by show w8.heap.size < _; omega)).trans cd0
  replace cd1 := (b_w20.cell (p := ⟨w8.heap.size, 1, none⟩) (by show w8.heap.size < _; omega)).trans cd1
  replace cx0 := (b_w20.cell (p := ⟨w14.heap.size, 0, none⟩) (by show w14.heap.size < _; omega)).trans cx0
  replace cx1 := (b_w20.cell (p := ⟨w14.heap.size, 1, none⟩) (by show w14.heap.size < _; omega)).trans cx1
  replace cy0 := (b_w20.cell (p := ⟨w16.heap.size, 0, none⟩) (by show w16.heap.size < _; omega)).trans cy0
  replace cy1 := (b_w20.cell (p := ⟨w16.heap.size, 1, none⟩) (by show w16.heap.size < _; omega)).trans cy1
  replace BA : Hid (Below w.heap.size w w20) := BA.out.trans (b_w20.mono (by omega))
  replace ZA : w.heap.size ≤ w20.heap.size := (by omega)
  replace ya : w2.heap.size < w20.heap.size := (by omega)
  replace yb : w4.heap.size < w20.heap.size := (by omega)
  replace yc : w6.heap.size < w20.heap.size := (by omega)
  replace yd : w8.heap.size < w20.heap.size := (by omega)
  replace yx : w14.heap.size < w20.heap.size := (by omega)
  replace yy : w16.heap.size < w20.heap.size := (by omega)
  clear b_w20
  go_wp2_with fail
  refine (IsSorting_i n _ _ _ usd xd w20 Od.out (by omega)).mono ?_
  rintro e w21 ⟨rfl, b_w21⟩
  rw [show sortsR (n : Int) xd = true from SD.out]
  have z_w21 := b_w21.size
  replace Oa := Lib.hid (Oa.out.later b_w21)
  replace Ob := Lib.hid (Ob.out.later b_w21)
  replace Oc := Lib.hid (Oc.out.later b_w21)
  replace Od := Lib.hid (Od.out.later b_w21)
  replace Ox := Lib.hid (Ox.out.later b_w21)
  replace Oy := Lib.hid (Oy.out.later b_w21)
  replace ca0 := (b_w21.cell (p := ⟨w2.heap.size, 0, none⟩) (by show w2.heap.size < _; omega)).trans ca0
  replace ca1 := (b_w21.cell (p := ⟨w2.heap.size, 1, none⟩) (by show w2.heap.size < _; omega)).trans ca1
  replace cb0 := (b_w21.cell (p := ⟨w4.heap.size, 0, none⟩) (by show w4.heap.size < _; omega)).trans cb0
  replace cb1 := (b_w21.cell (p := ⟨w4.heap.size, 1, none⟩) (by show w4.heap.size < _; omega)).trans cb1
  replace cc0 := (b_w21.cell (p := ⟨w6.heap.size, 0, none⟩) (by show w6.heap.size < _; omega)).trans cc0
  replace cc1 := (b_w21.cell (p := ⟨w6.heap.size, 1, none⟩) (by show w6.heap.size < _; omega)).trans cc1
  replace cd0 := (b_w21.cell (p := ⟨w8.heap.size, 0, none⟩) (by show w8.heap.size < _; omega)).trans cd0
  replace cd1 := (b_w21.cell (p := ⟨w8.heap.size, 1, none⟩) (by show w8.heap.size < _; omega)).trans cd1
  replace cx0 := (b_w21.cell (p := ⟨w14.heap.size, 0, none⟩) (by show w14.heap.size < _; omega)).trans cx0
  replace cx1 := (b_w21.cell (p := ⟨w14.heap.size, 1, none⟩) (by show w14.heap.size < _; omega)).trans cx1
  replace cy0 := (b_w21.cell (p := ⟨w16.heap.size, 0, none⟩) (by show w16.heap.size < _; omega)).trans cy0
  replace cy1 := (b_w21.cell (p := ⟨w16.heap.size, 1, none⟩) (by show w16.heap.size < _; omega)).trans cy1
  replace BA : Hid (Below w.heap.size w w21) := BA.out.trans (b_w21.mono (by omega))
  replace ZA : w.heap.size ≤ w21.heap.size := (by omega)
  replace ya : w2.heap.size < w21.heap.size := (by omega)
  replace yb : w4.heap.size < w21.heap.size := (by omega)
  replace yc : w6.heap.size < w21.heap.size := (by omega)
  replace yd : w8.heap.size < w21.heap.size := (by omega)
  replace yx : w14.heap.size < w21.heap.size := (by omega)
  replace yy : w16.heap.size < w21.heap.size := (by omega)
  clear b_w21
  go_wp2_with fail
  refine (IsPrimitive_y n _ _ _ usa xa w21 Oa.out (by omega) (sortsE_ok SA.out)).mono ?_
  rintro e w22 ⟨rfl, b_w22⟩
  rw [show primB xa = true from by rw [HXa.out]; exact F.out.2.2.2.2.2.2.2.2.1]
  have z_w22 := b_w22.size
  replace Oa := Lib.hid (Oa.out.later b_w22)
  replace Ob := Lib.hid (Ob.out.later b_w22)
  replace Oc := Lib.hid (Oc.out.later b_w22)
  replace Od := Lib.hid (Od.out.later b_w22)
  replace Ox := Lib.hid (Ox.out.later b_w22)
  replace Oy := Lib.hid (Oy.out.later b_w22)
  replace ca0 := (b_w22.cell (p := ⟨w2.heap.size, 0, none⟩) (by show w2.heap.size < _; omega)).trans ca0
  replace ca1 := (b_w22.cell (p := ⟨w2.heap.size, 1, none⟩) (by show w2.heap.size < _; omega)).trans ca1
  replace cb0 := (b_w22.cell (p := ⟨w4.heap.size, 0, none⟩) (by show w4.heap.size < _; omega)).trans cb0
  replace cb1 := (b_w22.cell (p := ⟨w4.heap.size, 1, none⟩) (by show w4.heap.size < _; omega)).trans cb1
  replace cc0 := (b_w22.cell (p := ⟨w6.heap.size, 0, none⟩) (by show w6.heap.size < _; omega)).trans cc0
  replace cc1 := (b_w22.cell (p := ⟨w6.heap.size, 1, none⟩) (by show w6.heap.size < _; omega)).trans cc1
  replace cd0 := (b_w22.cell (p := ⟨w8.heap.size, 0, none⟩) (by show w8.heap.size < _; omega)).trans cd0
  replace cd1 := (b_w22.cell (p := ⟨w8.heap.size, 1, none⟩) (by show w8.heap.size < _; omega)).trans cd1
  replace cx0 := (b_w22.cell (p := ⟨w14.heap.size, 0, none⟩) (by show w14.heap.size < _; omega)).trans cx0
  replace cx1 := (b_w22.cell (p := ⟨w14.heap.size, 1, none⟩) (by show w14.heap.size < _; omega)).trans cx1
  replace cy0 := (b_w22.cell (p := ⟨w16.heap.size, 0, none⟩) (by show w16.heap.size < _; omega)).trans cy0
  replace cy1 := (b_w22.cell (p := ⟨w16.heap.size, 1, none⟩) (by show w16.heap.size < _; omega)).trans cy1
  replace BA : Hid (Below w.heap.size w w22) := BA.out.trans (b_w22.mono (by omega))
  replace ZA : w.heap.size ≤ w22.heap.size := (by omega)
  replace ya : w2.heap.size < w22.heap.size := (by omega)
  replace yb : w4.heap.size < w22.heap.size := (by omega)
  replace yc : w6.heap.size < w22.heap.size := (by omega)
  replace yd : w8.heap.size < w22.heap.size := (by omega)
  replace yx : w14.heap.size < w22.heap.size := (by omega)
  replace yy : w16.heap.size < w22.heap.size := (by omega)
  clear b_w22
  go_wp2_with fail
  refine (IsPrimitive_y n _ _ _ usd xd w22 Od.out (by omega) (sortsE_ok SD.out)).mono ?_
  rintro e w23 ⟨rfl, b_w23⟩
  rw [show primB xd = true from by rw [HXd.out]; exact F.out.2.2.2.2.2.2.2.2.2.1]
  have z_w23 := b_w23.size
  replace Oa := Lib.hid (Oa.out.later b_w23)
  replace Ob := Lib.hid (Ob.out.later b_w23)
  replace Oc := Lib.hid (Oc.out.later b_w23)
  replace Od := Lib.hid (Od.out.later b_w23)
  replace Ox := Lib.hid (Ox.out.later b_w23)
  replace Oy := Lib.hid (Oy.out.later b_w23)
  replace ca0 := (b_w23.cell (p := ⟨w2.heap.size, 0, none⟩) (by show w2.heap.size < _; omega)).trans ca0
  replace ca1 := (b_w23.cell (p := ⟨w2.heap.size, 1, none⟩) (by show w2.heap.size < _; omega)).trans ca1
  replace cb0 := (b_w23.cell (p := ⟨w4.heap.size, 0, none⟩) (by show w4.heap.size < _; omega)).trans cb0
  replace cb1 := (b_w23.cell (p := ⟨w4.heap.size, 1, none⟩) (by show w4.heap.size < _; omega)).trans cb1
  replace cc0 := (b_w23.cell (p := ⟨w6.heap.size, 0, none⟩) (by show w6.heap.size < _; omega)).trans cc0
  replace cc1 := (b_w23.cell (p := ⟨w6.heap.size, 1, none⟩) (by show w6.heap.size < _; omega)).trans cc1
  replace cd0 := (b_w23.cell (p := ⟨w8.heap.size, 0, none⟩) (by show w8.heap.size < _; omega)).trans cd0
  replace cd1 := (b_w23.cell (p := ⟨w8.heap.size, 1, none⟩) (by show w8.heap.size < _; omega)).trans cd1
  replace cx0 := (b_w23.cell (p := ⟨w14.heap.size, 0, none⟩) (by show w14.heap.size < _; omega)).trans cx0
  replace cx1 := (b_w23.cell (p := ⟨w14.heap.size, 1, none⟩) (by show w14.heap.size < _; omega)).trans cx1
  replace cy0 := (b_w23.cell (p := ⟨w16.heap.size, 0, none⟩) (by show w16.heap.size < _; omega)).trans cy0
  replace cy1 := (b_w23.cell (p := ⟨w16.heap.size, 1, none⟩) (by show w16.heap.size < _; omega)).trans cy1
  replace BA : Hid (Below w.heap.size w w23) := BA.out.trans (b_w23.mono (by omega))
  replace ZA : w.heap.size ≤ w23.heap.size := (by omega)
  replace ya : w2.heap.size < w23.heap.size := (by omega)
  replace yb : w4.heap.size < w23.heap.size := (by omega)
  replace yc : w6.heap.size < w23.heap.size := (by omega)
  replace yd : w8.heap.size < w23.heap.size := (by omega)
  replace yx : w14.heap.size < w23.heap.size := (by omega)
  replace yy : w16.heap.size < w23.heap.size := (by omega)
  clear b_w23
  obtain ⟨dd, hdd⟩ : ∃ x, x = depthP xa xa.length := ⟨_, rfl⟩
  have hde : (dd : Int) = max 0 (2 * (n : Int) - 3) := by rw [hdd, HXa.out]; exact FD.out
  have HDD := Lib.hid hdd
  have td : ((dd : Int) != max 0 (2 * (n : Int) - 3)) = false := by rw [hde]; simp
  have HDE := Lib.hid hde
  clear hdd hde
  go_wp2_with fail
  refine (DepthOf_y n _ _ _ usa xa w23 Oa.out (by omega) (sortsE_ok SA.out)).mono ?_
  rintro e w24 ⟨rfl, b_w24⟩
  rw [show depthP xa xa.length = dd from HDD.out.symm]
  have z_w24 := b_w24.size
  replace Oa := Lib.hid (Oa.out.later b_w24)
  replace Ob := Lib.hid (Ob.out.later b_w24)
  replace Oc := Lib.hid (Oc.out.later b_w24)
  replace Od := Lib.hid (Od.out.later b_w24)
  replace Ox := Lib.hid (Ox.out.later b_w24)
  replace Oy := Lib.hid (Oy.out.later b_w24)
  replace ca0 := (b_w24.cell (p := ⟨w2.heap.size, 0, none⟩) (by show w2.heap.size < _; omega)).trans ca0
  replace ca1 := (b_w24.cell (p := ⟨w2.heap.size, 1, none⟩) (by show w2.heap.size < _; omega)).trans ca1
  replace cb0 := (b_w24.cell (p := ⟨w4.heap.size, 0, none⟩) (by show w4.heap.size < _; omega)).trans cb0
  replace cb1 := (b_w24.cell (p := ⟨w4.heap.size, 1, none⟩) (by show w4.heap.size < _; omega)).trans cb1
  replace cc0 := (b_w24.cell (p := ⟨w6.heap.size, 0, none⟩) (by show w6.heap.size < _; omega)).trans cc0
  replace cc1 := (b_w24.cell (p := ⟨w6.heap.size, 1, none⟩) (by show w6.heap.size < _; omega)).trans cc1
  replace cd0 := (b_w24.cell (p := ⟨w8.heap.size, 0, none⟩) (by show w8.heap.size < _; omega)).trans cd0
  replace cd1 := (b_w24.cell (p := ⟨w8.heap.size, 1, none⟩) (by show w8.heap.size < _; omega)).trans cd1
  replace cx0 := (b_w24.cell (p := ⟨w14.heap.size, 0, none⟩) (by show w14.heap.size < _; omega)).trans cx0
  replace cx1 := (b_w24.cell (p := ⟨w14.heap.size, 1, none⟩) (by show w14.heap.size < _; omega)).trans cx1
  replace cy0 := (b_w24.cell (p := ⟨w16.heap.size, 0, none⟩) (by show w16.heap.size < _; omega)).trans cy0
  replace cy1 := (b_w24.cell (p := ⟨w16.heap.size, 1, none⟩) (by show w16.heap.size < _; omega)).trans cy1
  replace BA : Hid (Below w.heap.size w w24) := BA.out.trans (b_w24.mono (by omega))
  replace ZA : w.heap.size ≤ w24.heap.size := (by omega)
  replace ya : w2.heap.size < w24.heap.size := (by omega)
  replace yb : w4.heap.size < w24.heap.size := (by omega)
  replace yc : w6.heap.size < w24.heap.size := (by omega)
  replace yd : w8.heap.size < w24.heap.size := (by omega)
  replace yx : w14.heap.size < w24.heap.size := (by omega)
  replace yy : w16.heap.size < w24.heap.size := (by omega)
  clear b_w24
  clear Oa
  clear Ob
  clear Oc
  clear Od
  clear Ox
  clear Oy
  go_wp2_with fail
  refine (MakeList_c w.heap.size N 20 (n) _ w24 (HV.out.kept fun k hk => BA.out.block k hk) ZA hN (by omega) (by omega)).mono ?_
  rintro e w25 ⟨ql, xl, rfl, hll, hxl, ol, b_w25⟩
  obtain ⟨aol, gl, capl, el, -, -, -⟩ := OwnI.view ol
  obtain ⟨Ll, hLl⟩ : ∃ L, L = xl.length := ⟨_, rfl⟩
  rw [← hLl] at el
  subst el
  have HNl := Lib.hid hLl
  clear hLl
  have z_w25 := b_w25.size
  replace BA : Hid (Below w.heap.size w w25) := BA.out.trans (b_w25.mono (by omega))
  replace ZA : w.heap.size ≤ w25.heap.size := (by omega)
  clear b_w25
  have Ol := Lib.hid ol
  clear ol
  have HLl := Lib.hid hll
  have HXl := Lib.hid hxl
  clear hll hxl
  obtain ⟨R, hRn, hR1, hR2, hR3, hR4⟩ := rounds_elem n_lo n_hi HLl.out
  have HR1 := Lib.hid hR1
  have HR2 := Lib.hid hR2
  have HR4 := Lib.hid hR4
  obtain ⟨z9, hz9⟩ : ∃ z, z = risesB xl := ⟨_, rfl⟩
  have tz : ((R : Int) == 0) = z9 := by
    rw [hz9, ← hR3]
    by_cases h : R = 0
    · subst h; rfl
    · rw [decide_eq_false h]; simp; exact h
  have tz2 : (z9 != z9) = false := by simp
  have HZ9 := Lib.hid hz9
  have tr0 : ¬ (R : Int) < 0 := by omega
  have trn : ¬ (n : Int) < (R : Int) := by omega
  clear hR1 hR2 hR3 hR4 hz9
  go_wp2_with fail
  refine (BrickRounds_i n R _ _ _ xl w25 Ol.out (by omega) HLl.out.symm (inB_mk (by omega)) (by omega) HR1.out HR2.out).mono ?_
  rintro e w26 ⟨rfl, b_w26⟩
  have z_w26 := b_w26.size
  replace Ol := Lib.hid (Ol.out.later b_w26)
  replace BA : Hid (Below w.heap.size w w26) := BA.out.trans (b_w26.mono (by omega))
  replace ZA : w.heap.size ≤ w26.heap.size := (by omega)
  clear b_w26
  go_wp2_with fail
  refine (rises_c _ _ _ xl w26 (OwnI.ints Ol.out) (by omega) (by rw [HLl.out]; omega)).mono ?_
  rintro e w27 ⟨rfl, b_w27⟩
  rw [show risesB xl = z9 from HZ9.out.symm]
  have z_w27 := b_w27.size
  replace Ol := Lib.hid (Ol.out.later b_w27)
  replace BA : Hid (Below w.heap.size w w27) := BA.out.trans (b_w27.mono (by omega))
  replace ZA : w.heap.size ≤ w27.heap.size := (by omega)
  clear b_w27
  go_wp2_with fail
  refine (Brick_z n R n_lo (by omega) (by omega) w27).mono ?_
  rintro e w28 ⟨qe, use, rfl, oe, b_w28⟩
  obtain ⟨xe, hxe⟩ : ∃ X, X = bricks n R := ⟨_, rfl⟩
  rw [← hxe] at oe
  have HXe := Lib.hid hxe
  clear hxe
  obtain ⟨aoe, ge, cape, ee, -, -, -⟩ := oe.rows
  obtain ⟨Le, hLe⟩ : ∃ L, L = xe.length := ⟨_, rfl⟩
  rw [← hLe] at ee
  subst ee
  have HNe := Lib.hid hLe
  clear hLe
  have z_w28 := b_w28.size
  replace Ol := Lib.hid (Ol.out.later b_w28)
  replace BA : Hid (Below w.heap.size w w28) := BA.out.trans (b_w28.mono (by omega))
  replace ZA : w.heap.size ≤ w28.heap.size := (by omega)
  clear b_w28
  have Oe := Lib.hid oe
  clear oe
  go_wp2_with fail
  obtain ⟨w29, hWw29, ce0, ce1, hzw29, b_w29, -, -⟩ := box2 w28 (.int .i64 n) (.slice aoe Le cape) 30
  rw [hWw29]
  clear hWw29
  have zz_w29 : w28.heap.size < w29.heap.size := (by omega)
  clear hzw29
  have z_w29 := b_w29.size
  replace Ol := Lib.hid (Ol.out.later b_w29)
  replace Oe := Lib.hid (Oe.out.later b_w29)
  replace BA : Hid (Below w.heap.size w w29) := BA.out.trans (b_w29.mono (by omega))
  replace ZA : w.heap.size ≤ w29.heap.size := (by omega)
  clear b_w29
  have ye : w28.heap.size < w29.heap.size := zz_w29
  have EOK : Hid (netOk (n : Nat) xe = true) := by show _ = _; rw [HXe.out]; exact bricks_ok n R n_lo (by omega) (by omega)
  go_wp2_with fail
  refine (ApplyNetwork_y n _ _ _ _ _ use xe _ xl w29 Oe.out (by omega) EOK.out (OwnI.ints Ol.out) (by omega) HLl.out).mono ?_
  rintro e w30 ⟨qf, rfl, of, b_w30⟩
  obtain ⟨xf, hxf⟩ : ∃ X, X = applyP xe xl := ⟨_, rfl⟩
  rw [← hxf] at of
  have HXf := Lib.hid hxf
  clear hxf
  obtain ⟨aof, gf, capf, ef, -, -, -⟩ := OwnI.view of
  obtain ⟨Lf, hLf⟩ : ∃ L, L = xf.length := ⟨_, rfl⟩
  rw [← hLf] at ef
  subst ef
  have HNf := Lib.hid hLf
  clear hLf
  have z_w30 := b_w30.size
  replace Ol := Lib.hid (Ol.out.later b_w30)
  replace Oe := Lib.hid (Oe.out.later b_w30)
  replace ce0 := (b_w30.cell (p := ⟨w28.heap.size, 0, none⟩) (by show w28.heap.size < _; omega)).trans ce0
  replace ce1 := (b_w30.cell (p := ⟨w28.heap.size, 1, none⟩) (by show w28.heap.size < _; omega)).trans ce1
  replace BA : Hid (Below w.heap.size w w30) := BA.out.trans (b_w30.mono (by omega))
  replace ZA : w.heap.size ≤ w30.heap.size := (by omega)
  replace ye : w28.heap.size < w30.heap.size := (by omega)
  clear b_w30
  have Of := Lib.hid of
  clear of
  have HLf : Hid (Lf = n) := by show _ = _; rw [HNf.out, HXf.out, HXe.out]; exact HR4.out
  have tf : ((Lf : Int) != (n : Int)) = false := by rw [HLf.out]; simp
  go_wp2_with fail
  refine (rises_c _ _ _ xf w30 (OwnI.ints Of.out) (by omega) (by rw [← HNf.out, HLf.out]; omega)).mono ?_
  rintro e w31 ⟨rfl, b_w31⟩
  rw [show risesB xf = true from by rw [HXf.out, HXe.out]; exact HR1.out]
  have z_w31 := b_w31.size
  replace Ol := Lib.hid (Ol.out.later b_w31)
  replace Oe := Lib.hid (Oe.out.later b_w31)
  replace Of := Lib.hid (Of.out.later b_w31)
  replace ce0 := (b_w31.cell (p := ⟨w28.heap.size, 0, none⟩) (by show w28.heap.size < _; omega)).trans ce0
  replace ce1 := (b_w31.cell (p := ⟨w28.heap.size, 1, none⟩) (by show w28.heap.size < _; omega)).trans ce1
  replace BA : Hid (Below w.heap.size w w31) := BA.out.trans (b_w31.mono (by omega))
  replace ZA : w.heap.size ≤ w31.heap.size := (by omega)
  replace ye : w28.heap.size < w31.heap.size := (by omega)
  clear b_w31
  clear Ol
  clear Oe
  clear Of
  go_wp2_with fail
  refine (MakeSorting_c w.heap.size N 40 6 _ w31 (HV.out.kept fun k hk => BA.out.block k hk) ZA hN (by omega) (by omega) (by omega)).mono ?_
  rintro e w32 ⟨k, qz, usz, xz, rfl, ⟨k1, k6, hss, hxl, hx4⟩, oz, b_w32⟩
  obtain ⟨aoz, gz, capz, ez, -, -, -⟩ := oz.rows
  obtain ⟨Lz, hLz⟩ : ∃ L, L = xz.length := ⟨_, rfl⟩
  rw [← hLz] at ez
  subst ez
  have HNz := Lib.hid hLz
  clear hLz
  have z_w32 := b_w32.size
  replace BA : Hid (Below w.heap.size w w32) := BA.out.trans (b_w32.mono (by omega))
  replace ZA : w.heap.size ≤ w32.heap.size := (by omega)
  clear b_w32
  have Oz := Lib.hid oz
  clear oz
  go_wp2_with fail
  obtain ⟨w33, hWw33, cz0, cz1, hzw33, b_w33, -, -⟩ := box2 w32 (.int .i64 k) (.slice aoz Lz capz) 30
  rw [hWw33]
  clear hWw33
  have zz_w33 : w32.heap.size < w33.heap.size := (by omega)
  clear hzw33
  have z_w33 := b_w33.size
  replace Oz := Lib.hid (Oz.out.later b_w33)
  replace BA : Hid (Below w.heap.size w w33) := BA.out.trans (b_w33.mono (by omega))
  replace ZA : w.heap.size ≤ w33.heap.size := (by omega)
  clear b_w33
  have yz : w32.heap.size < w33.heap.size := zz_w33
  have ZOK : Hid (netOk (k : Nat) xz = true) := pairUp_ok hss.1 k1 (by omega) (by omega)
  have HIW := Lib.hid (ins_wire k1 k6 hss hxl)
  have HSW := Lib.hid (sel_wire k1 k6 hss hxl)
  have hLz : Lz ≤ 22 := by rw [HNz.out]; exact hxl
  clear hss hxl hx4
  go_wp2_with fail
  refine (InsW_z k _ _ _ usz xz w33 Oz.out (by omega) ZOK.out HIW.out).mono ?_
  rintro e w34 ⟨qg, usg, rfl, og, b_w34⟩
  obtain ⟨xg, hxg⟩ : ∃ X, X = xz ++ insK k k := ⟨_, rfl⟩
  rw [← hxg] at og
  have HXg := Lib.hid hxg
  clear hxg
  obtain ⟨aog, gg, capg, eg, -, -, -⟩ := og.rows
  obtain ⟨Lg, hLg⟩ : ∃ L, L = xg.length := ⟨_, rfl⟩
  rw [← hLg] at eg
  subst eg
  have HNg := Lib.hid hLg
  clear hLg
  have z_w34 := b_w34.size
  replace Oz := Lib.hid (Oz.out.later b_w34)
  replace cz0 := (b_w34.cell (p := ⟨w32.heap.size, 0, none⟩) (by show w32.heap.size < _; omega)).trans cz0
  replace cz1 := (b_w34.cell (p := ⟨w32.heap.size, 1, none⟩) (by show w32.heap.size < _; omega)).trans cz1
  replace BA : Hid (Below w.heap.size w w34) := BA.out.trans (b_w34.mono (by omega))
  replace ZA : w.heap.size ≤ w34.heap.size := (by omega)
  replace yz : w32.heap.size < w34.heap.size := (by omega)
  clear b_w34
  have Og := Lib.hid og
  clear og
  go_wp2_with fail
  obtain ⟨w35, hWw35, cg0, cg1, hzw35, b_w35, -, -⟩ := box2 w34 (.int .i64 ((k : Int) + 1)) (.slice aog Lg capg) 30
  rw [hWw35]
  clear hWw35
  have zz_w35 : w34.heap.size < w35.heap.size := (by omega)
  clear hzw35
  have z_w35 := b_w35.size
  replace Oz := Lib.hid (Oz.out.later b_w35)
  replace Og := Lib.hid (Og.out.later b_w35)
  replace cz0 := (b_w35.cell (p := ⟨w32.heap.size, 0, none⟩) (by show w32.heap.size < _; omega)).trans cz0
  replace cz1 := (b_w35.cell (p := ⟨w32.heap.size, 1, none⟩) (by show w32.heap.size < _; omega)).trans cz1
  replace BA : Hid (Below w.heap.size w w35) := BA.out.trans (b_w35.mono (by omega))
  replace ZA : w.heap.size ≤ w35.heap.size := (by omega)
  replace yz : w32.heap.size < w35.heap.size := (by omega)
  clear b_w35
  have yg : w34.heap.size < w35.heap.size := zz_w35
  go_wp2_with fail
  refine (SelW_z k _ _ _ usz xz w35 Oz.out (by omega) ZOK.out HSW.out).mono ?_
  rintro e w36 ⟨qh, ush, rfl, oh, b_w36⟩
  obtain ⟨xh, hxh⟩ : ∃ X, X = selX k xz := ⟨_, rfl⟩
  rw [← hxh] at oh
  have HXh := Lib.hid hxh
  clear hxh
  obtain ⟨aoh, gh, caph, eh, -, -, -⟩ := oh.rows
  obtain ⟨Lh, hLh⟩ : ∃ L, L = xh.length := ⟨_, rfl⟩
  rw [← hLh] at eh
  subst eh
  have HNh := Lib.hid hLh
  clear hLh
  have z_w36 := b_w36.size
  replace Oz := Lib.hid (Oz.out.later b_w36)
  replace Og := Lib.hid (Og.out.later b_w36)
  replace cz0 := (b_w36.cell (p := ⟨w32.heap.size, 0, none⟩) (by show w32.heap.size < _; omega)).trans cz0
  replace cz1 := (b_w36.cell (p := ⟨w32.heap.size, 1, none⟩) (by show w32.heap.size < _; omega)).trans cz1
  replace cg0 := (b_w36.cell (p := ⟨w34.heap.size, 0, none⟩) (by show w34.heap.size < _; omega)).trans cg0
  replace cg1 := (b_w36.cell (p := ⟨w34.heap.size, 1, none⟩) (by show w34.heap.size < _; omega)).trans cg1
  replace BA : Hid (Below w.heap.size w w36) := BA.out.trans (b_w36.mono (by omega))
  replace ZA : w.heap.size ≤ w36.heap.size := (by omega)
  replace yz : w32.heap.size < w36.heap.size := (by omega)
  replace yg : w34.heap.size < w36.heap.size := (by omega)
  clear b_w36
  have Oh := Lib.hid oh
  clear oh
  go_upto_region 26 with fail
  obtain ⟨w37, hWw37, ch0, ch1, hzw37, b_w37, -, -⟩ := box2 w36 (.int .i64 ((k : Int) + 1)) (.slice aoh Lh caph) 30
  rw [hWw37]
  clear hWw37
  have zz_w37 : w36.heap.size < w37.heap.size := (by omega)
  clear hzw37
  have z_w37 := b_w37.size
  replace Oz := Lib.hid (Oz.out.later b_w37)
  replace Og := Lib.hid (Og.out.later b_w37)
  replace Oh := Lib.hid (Oh.out.later b_w37)
  replace cz0 := (b_w37.cell (p := ⟨w32.heap.size, 0, none⟩) (by show w32.heap.size < _; omega)).trans cz0
  replace cz1 := (b_w37.cell (p := ⟨w32.heap.size, 1, none⟩) (by show w32.heap.size < _; omega)).trans cz1
  replace cg0 := (b_w37.cell (p := ⟨w34.heap.size, 0, none⟩) (by show w34.heap.size < _; omega)).trans cg0
  replace cg1 := (b_w37.cell (p := ⟨w34.heap.size, 1, none⟩) (by show w34.heap.size < _; omega)).trans cg1
  replace BA : Hid (Below w.heap.size w w37) := BA.out.trans (b_w37.mono (by omega))
  replace ZA : w.heap.size ≤ w37.heap.size := (by omega)
  replace yz : w32.heap.size < w37.heap.size := (by omega)
  replace yg : w34.heap.size < w37.heap.size := (by omega)
  clear b_w37
  have yh : w36.heap.size < w37.heap.size := zz_w37
  have hk1 : (k : Int) + 1 = ((k + 1 : Nat) : Int) := by omega
  have HGS : Hid (sortsR ((k : Int) + 1) xg = true) := by show _ = _; rw [HXg.out]; exact HIW.out
  have HHS : Hid (sortsR ((k : Int) + 1) xh = true) := by show _ = _; rw [HXh.out]; exact HSW.out
  have hLg : Lg = Lz + k := by rw [HNg.out, HXg.out, List.length_append, insK_len, HNz.out]
  have hLh : Lh = Lg := by rw [HNh.out, hLg, HXh.out, HNz.out]; unfold selX; rw [List.length_append, selK_len, renP_len]; omega
  have tg : ((Lg : Int) == (Lz : Int) + (k : Int)) = true := by rw [hLg]; simp
  have th : ((Lh : Int) == (Lg : Int)) = true := by rw [hLh]; simp
  clear hk1 hLg hLh
  go_wp2_with fail
  refine (IsSorting_i _ _ _ _ usg xg w37 Og.out (by omega)).mono ?_
  rintro e w38 ⟨rfl, b_w38⟩
  rw [show sortsR ((k : Int) + 1) xg = true from HGS.out]
  have z_w38 := b_w38.size
  replace Oz := Lib.hid (Oz.out.later b_w38)
  replace Og := Lib.hid (Og.out.later b_w38)
  replace Oh := Lib.hid (Oh.out.later b_w38)
  replace cz0 := (b_w38.cell (p := ⟨w32.heap.size, 0, none⟩) (by show w32.heap.size < _; omega)).trans cz0
  replace cz1 := (b_w38.cell (p := ⟨w32.heap.size, 1, none⟩) (by show w32.heap.size < _; omega)).trans cz1
  replace cg0 := (b_w38.cell (p := ⟨w34.heap.size, 0, none⟩) (by show w34.heap.size < _; omega)).trans cg0
  replace cg1 := (b_w38.cell (p := ⟨w34.heap.size, 1, none⟩) (by show w34.heap.size < _; omega)).trans cg1
  replace ch0 := (b_w38.cell (p := ⟨w36.heap.size, 0, none⟩) (by show w36.heap.size < _; omega)).trans ch0
  replace ch1 := (b_w38.cell (p := ⟨w36.heap.size, 1, none⟩) (by show w36.heap.size < _; omega)).trans ch1
  replace BA : Hid (Below w.heap.size w w38) := BA.out.trans (b_w38.mono (by omega))
  replace ZA : w.heap.size ≤ w38.heap.size := (by omega)
  replace yz : w32.heap.size < w38.heap.size := (by omega)
  replace yg : w34.heap.size < w38.heap.size := (by omega)
  replace yh : w36.heap.size < w38.heap.size := (by omega)
  clear b_w38
  go_wp2_with fail
  refine (IsSorting_i _ _ _ _ ush xh w38 Oh.out (by omega)).mono ?_
  rintro e w39 ⟨rfl, b_w39⟩
  rw [show sortsR ((k : Int) + 1) xh = true from HHS.out]
  have z_w39 := b_w39.size
  replace Oz := Lib.hid (Oz.out.later b_w39)
  replace Og := Lib.hid (Og.out.later b_w39)
  replace Oh := Lib.hid (Oh.out.later b_w39)
  replace cz0 := (b_w39.cell (p := ⟨w32.heap.size, 0, none⟩) (by show w32.heap.size < _; omega)).trans cz0
  replace cz1 := (b_w39.cell (p := ⟨w32.heap.size, 1, none⟩) (by show w32.heap.size < _; omega)).trans cz1
  replace cg0 := (b_w39.cell (p := ⟨w34.heap.size, 0, none⟩) (by show w34.heap.size < _; omega)).trans cg0
  replace cg1 := (b_w39.cell (p := ⟨w34.heap.size, 1, none⟩) (by show w34.heap.size < _; omega)).trans cg1
  replace ch0 := (b_w39.cell (p := ⟨w36.heap.size, 0, none⟩) (by show w36.heap.size < _; omega)).trans ch0
  replace ch1 := (b_w39.cell (p := ⟨w36.heap.size, 1, none⟩) (by show w36.heap.size < _; omega)).trans ch1
  replace BA : Hid (Below w.heap.size w w39) := BA.out.trans (b_w39.mono (by omega))
  replace ZA : w.heap.size ≤ w39.heap.size := (by omega)
  replace yz : w32.heap.size < w39.heap.size := (by omega)
  replace yg : w34.heap.size < w39.heap.size := (by omega)
  replace yh : w36.heap.size < w39.heap.size := (by omega)
  clear b_w39
  go_wp2
  go_ret
  exact ⟨rfl, BA.out⟩
end Go.Proofs.Ytiodolbgapjmkaa
