/- The cursor of the reference's draws: a block of three cells that each byte drawn writes, and the code that it reads. Conditions: the code has at most 1048576 bytes. -/
import Derived.Test.YtiodolbgapjmkaaGreatDoorInts
import Derived.Test.YtiodolbgapjmkaaGreatDoorRowApp
import Derived.Laws.Bits128
import Derived.Maps.AppendAt
namespace Go.Proofs.YtiodolbgapjmkaaGreatDoor
open Go.RowKit
set_option maxRecDepth 100000
set_option linter.unusedVariables false

/-- A slice of bytes, wherever it lies below block B. -/
def BytesV (w : World) (B : Nat) (v : Value) (n : Nat) : Prop :=
  ∃ ao b off cap, v = .slice ao n cap ∧ n ≤ cap ∧ (0 < cap → ao = some ⟨b, off, none⟩ ∧ b < B) ∧ ∀ i, i < n → ∃ y : Int, w.cell? ⟨b, off + i, none⟩ = some (.int .u8 y) ∧ 0 ≤ y ∧ y < 256
/-- The cursor at block p, its code below block B. -/
def Cur (w : World) (p B : Nat) : Prop :=
  ∃ (v : Value) (n i : Nat) (h : Int), w.heap[p]? = some (.cells #[v, .int .i64 i, .int .i64 h] 82 (0, 0)) ∧ BytesV w B v n ∧ i ≤ n ∧ n ≤ 1048576 ∧ B ≤ p

theorem BytesV.kept {w w' : World} {B n : Nat} {v : Value} (h : BytesV w B v n) (hk : ∀ k, k < B → w'.heap[k]? = w.heap[k]?) : BytesV w' B v n := by
  obtain ⟨ao, b, off, cap, e, h1, h2, h3⟩ := h
  refine ⟨ao, b, off, cap, e, h1, h2, fun i hi => ?_⟩
  obtain ⟨y, q1, q2⟩ := h3 i hi
  refine ⟨y, ?_, q2⟩
  have hb := (h2 (by omega)).2
  rw [← q1]
  unfold World.cell?
  simp only [hk b hb]
theorem Cur.lt {w : World} {p B : Nat} (h : Cur w p B) : p < w.heap.size := by
  obtain ⟨v, n, i, x, hb, -⟩ := h
  exact lt_of_block hb
theorem Cur.kept {w w' : World} {p B : Nat} (h : Cur w p B) (hk : ∀ k, k ≤ p → w'.heap[k]? = w.heap[k]?) : Cur w' p B := by
  obtain ⟨v, n, i, x, hb, hv, h1, h2, h3⟩ := h
  exact ⟨v, n, i, x, (hk p (Nat.le_refl _)).trans hb, hv.kept fun k hk2 => hk k (by omega), h1, h2, h3⟩
theorem Cur.below {w w' : World} {p B D : Nat} (h : Cur w p B) (hb : Below D w w') (hp : p < D) : Cur w' p B := h.kept fun k hk => hb.block k (by omega)
theorem Cur.drew {w : World} {p B : Nat} (h : Cur w p B) : Cur w.drew p B := h.kept fun k hk => rfl

/-- All that was there but block p is as it was. -/
def But (D p : Nat) (w w' : World) : Prop := Below p w w' ∧ ∀ k, p < k → k < D → w'.heap[k]? = w.heap[k]?
theorem But.refl (D p : Nat) (w : World) : But D p w w := ⟨Below.refl _ _, fun _ _ _ => rfl⟩
theorem But.size {D p : Nat} {w w' : World} (h : But D p w w') : w.heap.size ≤ w'.heap.size := h.1.size
theorem But.trans {D p : Nat} {a b c : World} (h : But D p a b) (k : But D p b c) : But D p a c :=
  ⟨h.1.trans k.1, fun i h1 h2 => (k.2 i h1 h2).trans (h.2 i h1 h2)⟩
theorem But.mono {D D' p : Nat} {w w' : World} (h : But D p w w') (hD : D' ≤ D) : But D' p w w' := ⟨h.1, fun k h1 h2 => h.2 k h1 (by omega)⟩
theorem But.of_below {D p E : Nat} {w w' : World} (h : Below E w w') (hp : p ≤ E) (hD : D ≤ E) : But D p w w' := ⟨h.mono hp, fun k _ h2 => h.block k (by omega)⟩
theorem But.below {D p E : Nat} {w w' : World} (h : But D p w w') (hE : E ≤ p) : Below E w w' := h.1.mono hE
theorem But.own {e : TypeId} {D p lo hi : Nat} {w w' : World} {v : Value} {xs : List Value} (h : But D p w w') (ho : Own e w lo hi v xs) (hp : p < lo) (hD : hi ≤ D) : Own e w' lo hi v xs :=
  ho.kept fun k h1 h2 _ => h.2 k (by omega) (by omega)
theorem But.ownR {D p lo hi : Nat} {w w' : World} {v : Value} {vs : List Value} {xss : List (List Int)} (h : But D p w w') (ho : OwnR w lo hi v vs xss) (hp : p < lo) (hD : hi ≤ D) : OwnR w' lo hi v vs xss :=
  ho.kept fun k h1 h2 _ => h.2 k (by omega) (by omega)
theorem But.blk {D p k : Nat} {w w' : World} {x : Obj} (h : But D p w w') (hb : w.heap[k]? = some x) (h1 : k ≠ p) (h2 : k < D) : w'.heap[k]? = some x := by
  rcases (by omega : k < p ∨ p < k) with q | q
  · exact (h.1.block k q).trans hb
  · exact (h.2 k q h2).trans hb

theorem set3_1 {w : World} {X : Nat} {a b c y : Value} {T : TypeId} (h : w.heap[X]? = some (.cells #[a, b, c] T (0, 0))) : (w.setCell ⟨X, 1, none⟩ y).heap[X]? = some (.cells #[a, y, c] T (0, 0)) := by
  have hlt : X < w.heap.size := lt_of_block h
  have h' : w.heap[X] = .cells #[a, b, c] T (0, 0) := by simpa [Array.getElem?_eq_getElem hlt] using h
  show (w.heap.modify X _)[X]? = _
  rw [Array.getElem?_eq_getElem (by simpa using hlt), Array.getElem_modify_self, h']
  rfl
theorem set3_2 {w : World} {X : Nat} {a b c y : Value} {T : TypeId} (h : w.heap[X]? = some (.cells #[a, b, c] T (0, 0))) : (w.setCell ⟨X, 2, none⟩ y).heap[X]? = some (.cells #[a, b, y] T (0, 0)) := by
  have hlt : X < w.heap.size := lt_of_block h
  have h' : w.heap[X] = .cells #[a, b, c] T (0, 0) := by simpa [Array.getElem?_eq_getElem hlt] using h
  show (w.heap.modify X _)[X]? = _
  rw [Array.getElem?_eq_getElem (by simpa using hlt), Array.getElem_modify_self, h']
  rfl
theorem But.set (D p i : Nat) (w : World) (y : Value) : But D p w (w.setCell ⟨p, i, none⟩ y) :=
  ⟨(Below.refl p w).setCell (by show p ≤ p; omega) _, fun k h1 _ => Below.heap_setCell _ _ _ _ (by show k ≠ p; omega)⟩

/-- An int from lo up to below hi comes back; the cursor has moved on. -/
def CurInt (w : World) (p B : Nat) (lo hi : Int) (e : Ending) (w' : World) : Prop :=
  ∃ x : Int, e = .returned (.int .i64 x) ∧ lo ≤ x ∧ x < hi ∧ Cur w' p B ∧ But w.heap.size p w w'
theorem i64_and255 (n : Int) : bits .and .i64 n 255 = n % 256 := by
  have h127 : (BitVec.ofInt 64 255).toNat = 2 ^ 8 - 1 := by decide
  have key : (BitVec.ofInt 64 n &&& BitVec.ofInt 64 255).toNat = (n % ((2 ^ 64 : Nat) : Int)).toNat % 2 ^ 8 := by
    rw [BitVec.toNat_and, BitVec.toNat_ofInt, h127, Nat.and_two_pow_sub_one_eq_mod]
  show IntKind.i64.wrap ((BitVec.ofInt 64 n &&& BitVec.ofInt 64 255).toNat : Nat) = n % 256
  rw [key, IntKind.wrap_i64]
  omega

set_option maxHeartbeats 1000000 in
theorem l01Byte_c (p B : Nat) (w : World) (hc : Cur w p B) : Calls Tryz.prog 50 #[.pointer (some ⟨p, 0, none⟩)] w (CurInt w p B 0 256) := by
  obtain ⟨v, n, i, h, hb, hv, h1, h2, h3⟩ := hc
  have HV := Lib.hid hv
  have HB := Lib.hid hb
  obtain ⟨ao, b, off, cap, rfl, hcap, hao, hcell⟩ := hv
  have HCELL := Lib.hid hcell
  have HAO := Lib.hid hao
  have c0 := blk_cell hb 0
  have c1 := blk_cell hb 1
  have c2 := blk_cell hb 2
  have f1 := blk_free hb 1
  have f2 := blk_free hb 2
  clear hb hcell hao
  go_enter Tryz.func50, Tryz.ntmps50
  go_wp2_with fail
  obtain ⟨h9, hh9⟩ : ∃ y, y = wrap64 (wrap64 (h * 6364136223846793005) + 1442695040888963407) := ⟨_, rfl⟩
  rw [← hh9]
  clear hh9 c0 c1 c2 f1 f2
  obtain ⟨W1, hW1⟩ : ∃ W, W = w.setCell ⟨p, 2, none⟩ (.int .i64 h9) := ⟨_, rfl⟩
  have hb1 := set3_2 (y := .int .i64 h9) HB.out
  have B1 := But.set w.heap.size p 2 w (.int .i64 h9)
  have hs1 : (w.setCell ⟨p, 2, none⟩ (.int .i64 h9)).heap.size = w.heap.size := by simp [World.setCell]
  rw [← hW1] at hb1 B1 hs1 ⊢
  clear hW1
  have HB1 := Lib.hid hb1
  have BB1 := Lib.hid B1
  have HS1 := Lib.hid hs1
  have c0 := blk_cell hb1 0
  have c1 := blk_cell hb1 1
  have c2 := blk_cell hb1 2
  have f1 := blk_free hb1 1
  have hp : p < W1.heap.size := lt_of_block hb1
  clear hb1 B1 hs1
  refine wp_region_later W1.heap.size W1 (by kernel_rfl) (by kernel_rfl) (Below.refl _ _) ?_
  have hLW := LW.cells (B := W1.heap.size) (w0 := W1)
  repeat (go_big_quiet_step (fail))
  refine wpQuiet_nil ?_
  rintro w2 ⟨⟨w2s, hb2⟩, rfl⟩
  clear hLW
  rw [i64_and255]
  obtain ⟨x, hx, hx0, hx1⟩ : ∃ y, y = bits BinOp.xor IntKind.i64 (h9 / 8589934592) (h9 / 35184372088832) % 256 ∧ 0 ≤ y ∧ y < 256 := ⟨_, rfl, by omega, by omega⟩
  rw [← hx]
  clear hx c2
  have hb2' : w2.heap[p]? = some (.cells #[.slice ao n cap, .int .i64 i, .int .i64 h9] 82 (0, 0)) := (hb2.block p hp).trans HB1.out
  have HB2 := Lib.hid hb2'
  replace BB1 : Hid (But w.heap.size p w w2) := BB1.out.trans (But.of_below hb2 (by omega) (by have := HS1.out; omega))
  clear hb2'
  replace c0 := (hb2.cell (p := ⟨p, 0, none⟩) hp).trans c0
  replace c1 := (hb2.cell (p := ⟨p, 1, none⟩) hp).trans c1
  replace f1 := (hb2.frozen (p := ⟨p, 1, none⟩) hp).trans f1
  replace hp : p < w2.heap.size := by have := hb2.size; omega
  have hc2 : ∀ k, k < B → w2.heap[k]? = w.heap[k]? := fun k hk => BB1.out.1.block k (by omega)
  have HC2 := Lib.hid hc2
  clear hb2 hc2 HS1
  by_cases hin : i < n
  · obtain ⟨hao, hbB⟩ := HAO.out (by omega)
    subst hao
    obtain ⟨y, hy, y0, y1⟩ := HCELL.out i hin
    have cy : w2.cell? ⟨b, off + i, none⟩ = some (.int .u8 y) := by rw [← hy]; unfold World.cell?; simp only [HC2.out b hbB]
    have hbw : b < w2.heap.size := by omega
    have hin' : (i : Int) < (n : Int) := by omega
    clear hy
    go_wp2_with fail
    refine wp_region_later w2.heap.size w2 (by kernel_rfl) (by kernel_rfl) (Below.refl _ _) ?_
    have hLW := LW.cells (B := w2.heap.size) (w0 := w2)
    repeat (go_big_quiet_step (fail))
    refine wpQuiet_nil ?_
    rintro w3 ⟨⟨w2s, hb3⟩, rfl⟩
    clear hLW
    have HB3 := Lib.hid ((hb3.block p hp).trans HB2.out)
    replace BB1 : Hid (But w.heap.size p w w3) := BB1.out.trans (But.of_below hb3 (by omega) (by have := BB1.out.size; omega))
    replace c0 := (hb3.cell (p := ⟨p, 0, none⟩) hp).trans c0
    replace c1 := (hb3.cell (p := ⟨p, 1, none⟩) hp).trans c1
    replace f1 := (hb3.frozen (p := ⟨p, 1, none⟩) hp).trans f1
    replace cy := (hb3.cell (p := ⟨b, off + i, none⟩) hbw).trans cy
    replace hp : p < w3.heap.size := by have := hb3.size; omega
    replace hbw : b < w3.heap.size := by omega
    clear hb3
    go_wp2_with fail
    refine wp_region_later w3.heap.size w3 (by kernel_rfl) (by kernel_rfl) (Below.refl _ _) ?_
    have hLW := LW.cells (B := w3.heap.size) (w0 := w3)
    repeat (go_big_quiet_step (fail))
    refine wpQuiet_nil ?_
    rintro w4 ⟨⟨w2s, hb4⟩, rfl⟩
    clear hLW
    have HB4 := Lib.hid ((hb4.block p hp).trans HB3.out)
    replace BB1 : Hid (But w.heap.size p w w4) := BB1.out.trans (But.of_below hb4 (by omega) (by have := BB1.out.size; omega))
    replace c0 := (hb4.cell (p := ⟨p, 0, none⟩) hp).trans c0
    replace c1 := (hb4.cell (p := ⟨p, 1, none⟩) hp).trans c1
    replace f1 := (hb4.frozen (p := ⟨p, 1, none⟩) hp).trans f1
    replace hp : p < w4.heap.size := by have := hb4.size; omega
    clear hb4 cy
    have HB5 := Lib.hid (set3_1 (y := .int .i64 ((i : Int) + 1)) HB4.out)
    have B5 : Hid (But w.heap.size p w (w4.setCell ⟨p, 1, none⟩ (.int .i64 ((i : Int) + 1)))) := BB1.out.trans (But.set _ p 1 _ _)
    have HN1 : Hid (((i : Int) + 1) = ((i + 1 : Nat) : Int)) := by show _ = _; omega
    go_wp2
    rw [i64_and255]
    go_ret
    refine ⟨(x + y) % 256, rfl, by omega, by omega, ⟨_, n, i + 1, h9, by rw [HB5.out, HN1.out], HV.out.kept fun k hk => B5.out.1.block k (by omega), by omega, h2, h3⟩, B5.out⟩
  · have hin' : ¬ (i : Int) < (n : Int) := by omega
    go_wp2_with fail
    refine wp_region_later w2.heap.size w2 (by kernel_rfl) (by kernel_rfl) (Below.refl _ _) ?_
    have hLW := LW.cells (B := w2.heap.size) (w0 := w2)
    repeat (go_big_quiet_step (fail))
    refine wpQuiet_nil ?_
    rintro w3 ⟨⟨w2s, hb3⟩, rfl⟩
    clear hLW
    have HB3 := Lib.hid ((hb3.block p hp).trans HB2.out)
    replace BB1 : Hid (But w.heap.size p w w3) := BB1.out.trans (But.of_below hb3 (by omega) (by have := BB1.out.size; omega))
    clear hb3
    go_wp2
    go_ret
    exact ⟨x, rfl, hx0, hx1, ⟨_, n, i, h9, HB3.out, HV.out.kept fun k hk => BB1.out.1.block k (by omega), h1, h2, h3⟩, BB1.out⟩

theorem l01Below_c (p B : Nat) (m : Int) (w : World) (hc : Cur w p B) (hm : 0 < m) (hm2 : m ≤ 256) : Calls Tryz.prog 47 #[.pointer (some ⟨p, 0, none⟩), .int .i64 m] w (CurInt w p B 0 m) := by
  have HC := Lib.hid hc
  have h1 : ¬ m ≤ 0 := by omega
  have h2 : m ≠ 0 := by omega
  go_enter Tryz.func47, Tryz.ntmps47
  go_wp2_with (go_at_call 50; refine (l01Byte_c p B _ HC.out).mono ?_; rintro e w1 ⟨x, rfl, hx0, hx1, c1, b1⟩)
  go_ret
  exact ⟨x % m, rfl, Int.emod_nonneg _ h2, Int.emod_lt_of_pos _ hm, c1, b1⟩
/-- A Bool comes back; the cursor has moved on. -/
def CurBool (w : World) (p B : Nat) (e : Ending) (w' : World) : Prop :=
  ∃ x : Bool, e = .returned (.bool x) ∧ Cur w' p B ∧ But w.heap.size p w w'
/-- A new cursor comes back, in new memory. -/
def CurNew (w : World) (B : Nat) (e : Ending) (w' : World) : Prop :=
  ∃ p : Nat, e = .returned (.pointer (some ⟨p, 0, none⟩)) ∧ w.heap.size ≤ p ∧ Cur w' p B ∧ Below w.heap.size w w'
set_option maxHeartbeats 1000000 in
theorem l01New_c (B n : Nat) (v : Value) (w : World) (hv : BytesV w B v n) (hB : B ≤ w.heap.size) (hn : n ≤ 1048576) : Calls Tryz.prog 49 #[v] w (CurNew w B) := by
  have HV := Lib.hid hv
  obtain ⟨ao, b, off, cap, rfl, hcap, hao, hcell⟩ := hv
  have HCELL := Lib.hid hcell
  have HAO := Lib.hid hao
  clear hcell hao
  go_enter Tryz.func49, Tryz.ntmps49
  go_wp2_with fail
  go_loopw [3, 4] (fun h i wr => ∃ (k : Nat) (y : Int), k ≤ n ∧ i = .int .i64 k ∧ h = .int .i64 y ∧ Below w.heap.size w wr) (fun _ i _ => n - (intOf i).toNat)
  case atStart => exact ⟨0, _, by omega, rfl, rfl, Below.refl _ _⟩
  case round =>
    obtain ⟨k, y, hk, rfl, rfl, hb⟩ := hrel
    have HB := Lib.hid hb
    by_cases hlt : k < n ∧ k < 4000
    · obtain ⟨hk1, hk2⟩ := hlt
      obtain ⟨hao, hbB⟩ := HAO.out (by omega)
      subst hao
      obtain ⟨x, hx, x0, x1⟩ := HCELL.out k hk1
      have cy : wr.cell? ⟨b, off + k, none⟩ = some (.int .u8 x) := (hb.cell (p := ⟨b, off + k, none⟩) (by show b < _; omega)).trans hx
      have hbw : b < wr.heap.size := by have := hb.size; omega
      have e1 : (k : Int) < (n : Int) := by omega
      have e2 : (k : Int) < 4000 := by omega
      clear hx hb
      go_wp2
      go_roundw
      case rel => exact ⟨k + 1, _, by omega, by go_num, rfl, HB.out⟩
      case measure => simp [intOf]; omega
    · have HF : Hid (∀ h9 : Int, CurNew w B (.returned (.pointer (some ⟨wr.heap.size, 0, none⟩))) (wr.alloc (.cells #[.slice ao n cap, .int .i64 (0 : Nat), .int .i64 h9] 82))) := by
        show ∀ h9, _
        intro h9
        refine ⟨_, rfl, hb.size, ⟨_, n, 0, h9, blk_new _ _, HV.out.kept fun k hk => (Below.heap_alloc _ _ _ (by have := hb.size; omega)).trans (hb.block k (by omega)), by omega, hn, by have := hb.size; omega⟩, hb.trans ((Below.refl _ _).alloc hb.size _)⟩
      by_cases h1 : k < n
      · have e1 : (k : Int) < (n : Int) := by omega
        have e2 : ¬ (k : Int) < 4000 := by omega
        clear hlt hb
        go_wp2
        go_ret
        exact HF.out _
      · have e1 : ¬ (k : Int) < (n : Int) := by omega
        clear hlt hb
        go_wp2
        go_ret
        exact HF.out _
set_option maxHeartbeats 1000000 in
theorem l31New_c (B n m : Nat) (v : Value) (w : World) (hv : BytesV w B v n) (hB : B ≤ w.heap.size) (hn : n ≤ 1048576) (hm : m ≤ 1000) : Calls Tryz.prog 21 #[v, .int .i64 m] w (CurNew w B) := by
  have HN := Lib.hid (l01New_c B n v w hv hB hn)
  clear hv
  go_enter Tryz.func21, Tryz.ntmps21
  go_wp2_with fail
  refine HN.out.mono ?_
  rintro e w1 ⟨p, rfl, hp, c1, b1⟩
  have C1 := Lib.hid c1
  have B1 := Lib.hid b1
  have hz := b1.size
  clear c1 b1
  go_wp2_with fail
  go_loopw [6] (fun i wr => ∃ k : Nat, k ≤ m ∧ i = .int .i64 k ∧ Cur wr p B ∧ Below w.heap.size w wr) (fun i _ => m - (intOf i).toNat)
  case atStart => exact ⟨0, by omega, rfl, C1.out, B1.out⟩
  case round =>
    obtain ⟨k, hk, rfl, hc, hb⟩ := hrel
    have HC := Lib.hid hc
    have HB := Lib.hid hb
    clear hc hb
    by_cases hlt : k < m
    · have e1 : (k : Int) < (m : Int) := by omega
      go_wp2_with fail
      refine (l01Byte_c p B wr HC.out).mono ?_
      rintro e w2 ⟨x, rfl, -, -, c2, b2⟩
      have C2 := Lib.hid c2
      have B2 : Hid (Below w.heap.size w w2) := HB.out.trans (b2.below hp)
      clear c2 b2
      go_wp2
      go_roundw
      case rel => exact ⟨k + 1, by omega, by go_num, C2.out, B2.out⟩
      case measure => simp [intOf]; omega
    · have e1 : ¬ (k : Int) < (m : Int) := by omega
      go_wp2
      go_ret
      exact ⟨p, rfl, hp, HC.out, HB.out⟩
end Go.Proofs.YtiodolbgapjmkaaGreatDoor
