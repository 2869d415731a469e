/- What the laws draw from their code: sizes and lists. Conditions: the code has at most 1048576 bytes. -/
import Derived.Test.YtiodolbgapjmkaaGreatDoorCur
namespace Go.Proofs.YtiodolbgapjmkaaGreatDoor
open Go.RowKit
set_option maxRecDepth 100000
set_option linter.unusedVariables false

/-- A size from lo to hi. -/
def SizeC (w : World) (lo hi : Nat) (e : Ending) (w' : World) : Prop := ∃ k : Nat, e = .returned (.int .i64 k) ∧ lo ≤ k ∧ k ≤ hi ∧ Below w.heap.size w w'
/-- A list of n ints, whatever they are. -/
def SomeI (w : World) (n : Nat) (P : List Int → Prop) (e : Ending) (w' : World) : Prop := ∃ (v : Value) (xs : List Int), e = .returned v ∧ xs.length = n ∧ P xs ∧ OwnI w' w.heap.size w'.heap.size v xs ∧ Below w.heap.size w w'
/-- The same, beside a cursor. -/
def CurInts (w : World) (p B n : Nat) (P : List Int → Prop) (e : Ending) (w' : World) : Prop := ∃ (v : Value) (xs : List Int), e = .returned v ∧ xs.length = n ∧ P xs ∧ OwnI w' w.heap.size w'.heap.size v xs ∧ Cur w' p B ∧ But w.heap.size p w w'
/-- The ints of a drawn list lie near zero. -/
def nearB (xs : List Int) : Prop := ∀ x ∈ xs, -3 ≤ x ∧ x ≤ 8
set_option maxHeartbeats 1000000 in
theorem l02List_c (p B n : Nat) (w : World) (hc : Cur w p B) (hn : n ≤ 1000) : Calls Tryz.prog 31 #[.pointer (some ⟨p, 0, none⟩), .int .i64 n] w (CurInts w p B n nearB) := by
  have HC := Lib.hid hc
  have hp := hc.lt
  obtain ⟨W0, hW0⟩ : ∃ W, W = w.alloc (.cells #[] 3) := ⟨_, rfl⟩
  have HO : Hid (OwnI W0 w.heap.size W0.heap.size (.slice (some ⟨w.heap.size, 0, none⟩) 0 0) []) := by show OwnI _ _ _ _ _; rw [hW0]; exact Own.mono (ownI_empty w) (Nat.le_refl _) (by simp)
  have HB0 : Hid (Below w.heap.size w W0) := by show Below _ _ _; rw [hW0]; exact (Below.refl _ _).alloc (Nat.le_refl _) _
  have HW := Lib.hid hW0
  clear hc hW0
  go_enter Tryz.func31, Tryz.ntmps31
  go_wp2_with fail
  try rw [← HW.out]
  go_loopw [5, 6] (fun v i wr => ∃ (k : Nat) (xs : List Int), k ≤ n ∧ i = .int .i64 k ∧ xs.length = k ∧ nearB xs ∧ OwnI wr w.heap.size wr.heap.size v xs ∧ Cur wr p B ∧ But w.heap.size p w wr) (fun _ i _ => n - (intOf i).toNat)
  case atStart => exact ⟨0, [], by omega, rfl, rfl, by simp [nearB], HO.out, HC.out.below HB0.out hp, But.of_below HB0.out (by omega) (Nat.le_refl _)⟩
  case round =>
    obtain ⟨k, xs, hk, rfl, hlen, hnear, ho, hc, hb⟩ := hrel
    have HLEN := Lib.hid hlen
    have HNEAR := Lib.hid hnear
    have HOW := Lib.hid ho
    have HCR := Lib.hid hc
    have HB := Lib.hid hb
    have hz := hb.size
    have HL : Hid (xs.length ≤ 100000000) := by show _ ≤ _; omega
    clear hlen hnear ho hc hb
    by_cases hlt : k < n
    · have e1 : (k : Int) < (n : Int) := by omega
      go_wp2_with fail
      refine (l01Below_c p B 12 wr HCR.out (by omega) (by omega)).mono ?_
      rintro e w1 ⟨x, rfl, x0, x1, c1, b1⟩
      have z1 := b1.size
      have z2 : w.heap.size ≤ w1.heap.size := by omega
      have C1 := Lib.hid c1
      have O1 : Hid (OwnI w1 w.heap.size w1.heap.size _ xs) := Own.mono (b1.own HOW.out hp (Nat.le_refl _)) (Nat.le_refl _) z1
      have B1 : Hid (But w.heap.size p w w1) := HB.out.trans (b1.mono (by omega))
      clear c1 b1
      go_wp2_with (at_builtin; refine wpList_app_int rfl (.tmp 13) (.tmp 17) rfl w1 (x - 3) w.heap.size w1.heap.size _ xs O1.out z2 HL.out rfl rfl ?_; intro ao5 L5 cap5 w5 hL5 o5 b5 z5; have O5 := Lib.hid o5; have B5 := Lib.hid b5; clear o5 b5)
      go_roundw
      case rel => exact ⟨k + 1, xs ++ [x - 3], by omega, by go_num, by simp [HLEN.out], by intro y hy; rw [List.mem_append] at hy; rcases hy with hy | hy; exact HNEAR.out y hy; simp at hy; omega, O5.out, C1.out.below B5.out hp, B1.out.trans (But.of_below B5.out (by omega) (Nat.le_refl _))⟩
      case measure => simp [intOf]; omega
    · have e1 : ¬ (k : Int) < (n : Int) := by omega
      have HE : Hid (k = n) := by show k = n; omega
      go_wp2
      go_ret
      exact ⟨_, xs, rfl, by rw [HLEN.out, HE.out], HNEAR.out, HOW.out, HCR.out, HB.out⟩
set_option maxHeartbeats 1000000 in
theorem MakeList_c (B n m k : Nat) (v : Value) (w : World) (hv : BytesV w B v n) (hB : B ≤ w.heap.size) (hn : n ≤ 1048576) (hm : m ≤ 1000) (hk : k ≤ 1000) :
    Calls Tryz.prog 9 #[v, .int .i64 m, .int .i64 k] w (SomeI w k nearB) := by
  have HN := Lib.hid (l31New_c B n m v w hv hB hn hm)
  clear hv
  go_enter Tryz.func9, Tryz.ntmps9
  go_wp2_with fail
  refine HN.out.mono ?_
  rintro e w1 ⟨p, rfl, hp, c1, b1⟩
  have C1 := Lib.hid c1
  have B1 := Lib.hid b1
  have z1 := b1.size
  clear c1 b1
  go_wp2_with fail
  refine (l02List_c p B k w1 C1.out hk).mono ?_
  rintro e w2 ⟨u, xs, rfl, h1, h2, o2, c2, b2⟩
  have O2 : Hid (OwnI w2 w.heap.size w2.heap.size u xs) := Own.mono o2 z1 (Nat.le_refl _)
  have B2 : Hid (Below w.heap.size w w2) := B1.out.trans (b2.below hp)
  have H1 := Lib.hid h1
  clear o2 c2 b2 h1
  go_wp2
  go_ret
  exact ⟨u, xs, rfl, H1.out, h2, O2.out, B2.out⟩
end Go.Proofs.YtiodolbgapjmkaaGreatDoor
