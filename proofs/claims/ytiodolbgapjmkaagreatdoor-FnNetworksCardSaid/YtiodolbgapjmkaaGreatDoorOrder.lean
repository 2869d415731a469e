/- Orders, as the laws draw them. Conditions: the code has at most 1048576 bytes. -/
import Derived.Test.YtiodolbgapjmkaaGreatDoorMake
import Derived.Test.YtiodolbgapjmkaaGreatDoorSortL
namespace Go.Proofs.YtiodolbgapjmkaaGreatDoor
open Go.RowKit
set_option maxRecDepth 100000
set_option linter.unusedVariables false
set_option linter.unusedSimpArgs false

/-- The numbers below n, in some order. -/
def ordP (n : Nat) (xs : List Int) : Prop := xs.Perm (upI 0 n)
theorem ordP_len {n : Nat} {xs : List Int} (h : ordP n xs) : xs.length = n := by rw [List.Perm.length_eq h, upI_length]
set_option maxHeartbeats 2000000 in
theorem l02Order_c (p B n : Nat) (w : World) (hc : Cur w p B) (hn : n ≤ 50) : Calls Tryz.prog 35 #[.pointer (some ⟨p, 0, none⟩), .int .i64 n] w (CurInts w p B n (ordP n)) := by
  have HC := Lib.hid hc
  have hp := hc.lt
  obtain ⟨W0, hW0⟩ : ∃ W, W = w.alloc (.cells #[] 3) := ⟨_, rfl⟩
  have HO : Hid (OwnI W0 w.heap.size W0.heap.size (.slice (some ⟨w.heap.size, 0, none⟩) 0 0) []) := by show OwnI _ _ _ _ _; rw [hW0]; exact Own.mono (ownI_empty w) (Nat.le_refl _) (by simp)
  have HB0 : Hid (Below w.heap.size w W0) := by show Below _ _ _; rw [hW0]; exact (Below.refl _ _).alloc (Nat.le_refl _) _
  have HW := Lib.hid hW0
  clear hc hW0
  go_enter Tryz.func35, Tryz.ntmps35
  go_wp2_with fail
  try rw [← HW.out]
  go_loopw [5, 6] (fun v i wr => ∃ (k g cp : Nat) (ys : List Int), k ≤ n ∧ i = .int .i64 k ∧ v = .slice (some ⟨g, 0, none⟩) k cp ∧ Hid (ordP k ys) ∧ OwnI wr w.heap.size wr.heap.size v ys ∧ Cur wr p B ∧ But w.heap.size p w wr) (fun _ i _ => n - (intOf i).toNat)
  case atStart => exact ⟨0, _, _, [], by omega, rfl, rfl, List.Perm.refl _, HO.out, HC.out.below HB0.out hp, But.of_below HB0.out (by omega) (Nat.le_refl _)⟩
  case round =>
    obtain ⟨k, g1, cap1, ys, hk, rfl, rfl, HY, ho, hc, hb⟩ := hrel
    have HOW := Lib.hid ho
    have HCR := Lib.hid hc
    have HB := Lib.hid hb
    have hz := hb.size
    have HLEN : Hid (ys.length = k) := ordP_len HY.out
    have hcap : k ≤ cap1 := by
      obtain ⟨ao1, gg1, cc1, e1, hc1, -, -⟩ := OwnI.view ho
      injection e1 with _ _ e2
      rw [HLEN.out] at hc1
      omega
    clear ho hc hb
    by_cases hlt : k < n
    · have e1 : (k : Int) < (n : Int) := by omega
      have HKM : Hid ((0 : Int) < (k : Int) + 1 ∧ (k : Int) + 1 ≤ 256) := by show _ ∧ _; omega
      go_wp2_with fail
      refine (l01Below_c p B ((k : Int) + 1) wr HCR.out HKM.out.1 HKM.out.2).mono ?_
      rintro e w1 ⟨x, rfl, x0, x1, c1, b1⟩
      obtain ⟨q, rfl⟩ : ∃ q : Nat, x = q := ⟨x.toNat, by omega⟩
      have hqk : q ≤ k := by omega
      have z1 := b1.size
      have zz1 : w.heap.size ≤ w1.heap.size := by omega
      have C1 := Lib.hid c1
      have O1 : Hid (OwnI w1 w.heap.size w1.heap.size _ ys) := Own.mono (b1.own HOW.out hp (Nat.le_refl _)) (Nat.le_refl _) z1
      have B1 : Hid (But w.heap.size p w w1) := HB.out.trans (b1.mono (by omega))
      have HF0 : Hid (∀ j, ordP (k + 1) (ys.take j ++ [(k : Int)] ++ ys.drop j)) := fun j => by
        show List.Perm _ _
        refine (insert_perm ys k j).trans ?_
        rw [upI_succ, Int.zero_add]
        exact List.Perm.append_right _ HY.out
      have HF := Lib.hid (HF0.out q)
      clear c1 b1 HF0 HOW HCR x0 x1
      rcases Nat.eq_zero_or_pos q with hq0 | hq0
      · subst hq0
        have HT := Lib.hid ((OwnI.ints O1.out).fore HLEN.out (0) (by omega))
        have HDs := Lib.hid (OwnI.ints O1.out)
        have HLT : Hid ((ys.take (0)).length = (0) ∧ (ys.drop (0)).length = k - (0)) := by show _ ∧ _; rw [List.length_take, List.length_drop, HLEN.out]; omega
        obtain ⟨A, hA⟩ : ∃ A, A = ys.take (0) := ⟨_, rfl⟩
        obtain ⟨D, hD⟩ : ∃ D, D = ys.drop (0) := ⟨_, rfl⟩
        rw [List.drop_zero] at hD HLT HF
        rw [← hA] at HT
        rw [← hD] at HDs
        rw [← hA, ← hD] at HLT HF
        clear hA hD
        have HL0 : Hid (([] : List Int).length + A.length ≤ 1000000000) := by show _ ≤ _; have := HLT.out; simp; omega
        have HL1 : Hid ((([] : List Int) ++ A).length ≤ 100000000) := by show _ ≤ _; have := HLT.out; simp; omega
        have HL2 : Hid ((([] : List Int) ++ A ++ [(k : Int)]).length + D.length ≤ 1000000000) := by show _ ≤ _; have := HLT.out; simp; omega
        have HE0 : Hid (OwnI (w1.alloc (.cells #[] 3)) w1.heap.size (w1.heap.size + 1) (.slice (some ⟨w1.heap.size, 0, none⟩) 0 0) []) := ownI_empty w1
        have HEt : Hid (IntsV (w1.alloc (.cells #[] 3)) w.heap.size w1.heap.size (.slice (some ⟨g1, 0, none⟩) (0) cap1) A) := HT.out.below ((Below.refl _ _).alloc (Nat.le_refl _) _) (Nat.le_refl _)
        have HEz : Hid (w1.heap.size ≤ (w1.alloc (.cells #[] 3)).heap.size) := by show _ ≤ _; simp
        have HEb : Hid (Below w1.heap.size w1 (w1.alloc (.cells #[] 3))) := (Below.refl _ _).alloc (Nat.le_refl _) _
        clear HT
        go_wp2_with (at_builtin; first | (refine wpList_app_ints rfl (.tmp 28) (.tmp 31) rfl w3 w1.heap.size w3.heap.size w.heap.size w1.heap.size _ _ (([] : List Int) ++ A ++ [(k : Int)]) D O3.out HD3.out z3 HL2.out rfl rfl ?_; intro ao7 L7 cap7 w4 hL7 o4 q4 z4; have O4 := Lib.hid o4; have Q4 : Hid (Below w1.heap.size w1 w4) := Q3.out.trans q4; clear o4 q4) | (refine wpList_app_int rfl (.tmp 24) (.tmp 26) rfl w2 (k : Int) w1.heap.size w2.heap.size _ (([] : List Int) ++ A) O2.out z2 HL1.out rfl rfl ?_; intro ao6 L6 cap6 w3 hL6 o3 q3 z3; have O3 := Lib.hid o3; have Q3 : Hid (Below w1.heap.size w1 w3) := Q2.out.trans q3; have HD3 := Lib.hid (HDs.out.below Q3.out (Nat.le_refl _)); clear o3 q3) | (refine wpList_app_ints rfl (.tmp 19) (.tmp 22) rfl (w1.alloc (.cells #[] 3)) w1.heap.size (w1.heap.size + 1) w.heap.size w1.heap.size _ _ [] A HE0.out HEt.out HEz.out HL0.out rfl rfl ?_; intro ao5 L5 cap5 w2 hL5 o2 q2 z2; have O2 := Lib.hid o2; have Q2 : Hid (Below w1.heap.size w1 w2) := HEb.out.trans q2; clear o2 q2) | fail)
        have HR3 : Hid (∃ g, ao7 = some ⟨g, 0, none⟩ ∧ L7 = k + 1) := by
          obtain ⟨aoz, gz, capz, ez, -, haz, -⟩ := OwnI.view O4.out
          have hlz : (([] : List Int) ++ A ++ [(k : Int)] ++ D).length = k + 1 := by have := HLT.out; simp; omega
          rw [hlz] at ez haz
          injection ez with ez1 ez2 ez3
          exact ⟨gz, by rw [ez1]; exact (haz (by omega)).1, ez2⟩
        obtain ⟨g7, rfl, rfl⟩ := HR3.out
        go_roundw
        case rel => exact ⟨k + 1, g7, cap7, A ++ [(k : Int)] ++ D, by omega, by go_num, rfl, HF.out, by have := O4.out; rw [List.nil_append] at this; exact Own.mono this zz1 (Nat.le_refl _), C1.out.below Q4.out (by omega), B1.out.trans (But.of_below (Q4.out.mono zz1) (by omega) (Nat.le_refl _))⟩
        case measure => simp [intOf]; omega
      · obtain ⟨r, rfl⟩ : ∃ r, q = r + 1 := ⟨q - 1, by omega⟩
        have hr0 : ¬ cap1 = 0 := by omega
        have hqc : r + 1 ≤ cap1 := by omega
        by_cases hcq : cap1 = r + 1
        · have HT := Lib.hid ((OwnI.ints O1.out).fore HLEN.out (r + 1) (by omega))
          have HDs := Lib.hid (((OwnI.ints O1.out).aft HLEN.out (r + 1) (by omega)).1 hcq)
          subst hcq
          obtain rfl : k = r + 1 := by omega
          rw [Nat.sub_self] at HDs
          have HLT : Hid ((ys.take (r + 1)).length = (r + 1) ∧ (ys.drop (r + 1)).length = r + 1 - (r + 1)) := by show _ ∧ _; rw [List.length_take, List.length_drop, HLEN.out]; omega
          obtain ⟨A, hA⟩ : ∃ A, A = ys.take (r + 1) := ⟨_, rfl⟩
          obtain ⟨D, hD⟩ : ∃ D, D = ys.drop (r + 1) := ⟨_, rfl⟩
          rw [← hA] at HT
          rw [← hD] at HDs
          rw [← hA, ← hD] at HLT HF
          clear hA hD
          have HL0 : Hid (([] : List Int).length + A.length ≤ 1000000000) := by show _ ≤ _; have := HLT.out; simp; omega
          have HL1 : Hid ((([] : List Int) ++ A).length ≤ 100000000) := by show _ ≤ _; have := HLT.out; simp; omega
          have HL2 : Hid ((([] : List Int) ++ A ++ [(((r + 1 : Nat) : Int) : Int)]).length + D.length ≤ 1000000000) := by show _ ≤ _; have := HLT.out; simp; omega
          have HE0 : Hid (OwnI (w1.alloc (.cells #[] 3)) w1.heap.size (w1.heap.size + 1) (.slice (some ⟨w1.heap.size, 0, none⟩) 0 0) []) := ownI_empty w1
          have HEt : Hid (IntsV (w1.alloc (.cells #[] 3)) w.heap.size w1.heap.size (.slice (some ⟨g1, 0, none⟩) (r + 1) (r + 1)) A) := HT.out.below ((Below.refl _ _).alloc (Nat.le_refl _) _) (Nat.le_refl _)
          have HEz : Hid (w1.heap.size ≤ (w1.alloc (.cells #[] 3)).heap.size) := by show _ ≤ _; simp
          have HEb : Hid (Below w1.heap.size w1 (w1.alloc (.cells #[] 3))) := (Below.refl _ _).alloc (Nat.le_refl _) _
          clear HT
          go_wp2_with (at_builtin; first | (refine wpList_app_ints rfl (.tmp 28) (.tmp 31) rfl w3 w1.heap.size w3.heap.size w.heap.size w1.heap.size _ _ (([] : List Int) ++ A ++ [(((r + 1 : Nat) : Int) : Int)]) D O3.out HD3.out z3 HL2.out rfl rfl ?_; intro ao7 L7 cap7 w4 hL7 o4 q4 z4; have O4 := Lib.hid o4; have Q4 : Hid (Below w1.heap.size w1 w4) := Q3.out.trans q4; clear o4 q4) | (refine wpList_app_int rfl (.tmp 24) (.tmp 26) rfl w2 (((r + 1 : Nat) : Int) : Int) w1.heap.size w2.heap.size _ (([] : List Int) ++ A) O2.out z2 HL1.out rfl rfl ?_; intro ao6 L6 cap6 w3 hL6 o3 q3 z3; have O3 := Lib.hid o3; have Q3 : Hid (Below w1.heap.size w1 w3) := Q2.out.trans q3; have HD3 := Lib.hid (HDs.out.below Q3.out (Nat.le_refl _)); clear o3 q3) | (refine wpList_app_ints rfl (.tmp 19) (.tmp 22) rfl (w1.alloc (.cells #[] 3)) w1.heap.size (w1.heap.size + 1) w.heap.size w1.heap.size _ _ [] A HE0.out HEt.out HEz.out HL0.out rfl rfl ?_; intro ao5 L5 cap5 w2 hL5 o2 q2 z2; have O2 := Lib.hid o2; have Q2 : Hid (Below w1.heap.size w1 w2) := HEb.out.trans q2; clear o2 q2) | fail)
          have HR3 : Hid (∃ g, ao7 = some ⟨g, 0, none⟩ ∧ L7 = r + 1 + 1) := by
            obtain ⟨aoz, gz, capz, ez, -, haz, -⟩ := OwnI.view O4.out
            have hlz : (([] : List Int) ++ A ++ [(((r + 1 : Nat) : Int) : Int)] ++ D).length = r + 1 + 1 := by have := HLT.out; simp; omega
            rw [hlz] at ez haz
            injection ez with ez1 ez2 ez3
            exact ⟨gz, by rw [ez1]; exact (haz (by omega)).1, ez2⟩
          obtain ⟨g7, rfl, rfl⟩ := HR3.out
          go_roundw
          case rel => exact ⟨r + 1 + 1, g7, cap7, A ++ [(((r + 1 : Nat) : Int) : Int)] ++ D, by omega, by go_num, rfl, HF.out, by have := O4.out; rw [List.nil_append] at this; exact Own.mono this zz1 (Nat.le_refl _), C1.out.below Q4.out (by omega), B1.out.trans (But.of_below (Q4.out.mono zz1) (by omega) (Nat.le_refl _))⟩
          case measure => simp [intOf]; omega
        · have HT := Lib.hid ((OwnI.ints O1.out).fore HLEN.out (r + 1) (by omega))
          have HDs := Lib.hid (((OwnI.ints O1.out).aft HLEN.out (r + 1) (by omega)).2 hcq)
          rw [Nat.zero_add] at HDs
          have HLT : Hid ((ys.take (r + 1)).length = (r + 1) ∧ (ys.drop (r + 1)).length = k - (r + 1)) := by show _ ∧ _; rw [List.length_take, List.length_drop, HLEN.out]; omega
          obtain ⟨A, hA⟩ : ∃ A, A = ys.take (r + 1) := ⟨_, rfl⟩
          obtain ⟨D, hD⟩ : ∃ D, D = ys.drop (r + 1) := ⟨_, rfl⟩
          rw [← hA] at HT
          rw [← hD] at HDs
          rw [← hA, ← hD] at HLT HF
          clear hA hD
          have HL0 : Hid (([] : List Int).length + A.length ≤ 1000000000) := by show _ ≤ _; have := HLT.out; simp; omega
          have HL1 : Hid ((([] : List Int) ++ A).length ≤ 100000000) := by show _ ≤ _; have := HLT.out; simp; omega
          have HL2 : Hid ((([] : List Int) ++ A ++ [(k : Int)]).length + D.length ≤ 1000000000) := by show _ ≤ _; have := HLT.out; simp; omega
          have HE0 : Hid (OwnI (w1.alloc (.cells #[] 3)) w1.heap.size (w1.heap.size + 1) (.slice (some ⟨w1.heap.size, 0, none⟩) 0 0) []) := ownI_empty w1
          have HEt : Hid (IntsV (w1.alloc (.cells #[] 3)) w.heap.size w1.heap.size (.slice (some ⟨g1, 0, none⟩) (r + 1) cap1) A) := HT.out.below ((Below.refl _ _).alloc (Nat.le_refl _) _) (Nat.le_refl _)
          have HEz : Hid (w1.heap.size ≤ (w1.alloc (.cells #[] 3)).heap.size) := by show _ ≤ _; simp
          have HEb : Hid (Below w1.heap.size w1 (w1.alloc (.cells #[] 3))) := (Below.refl _ _).alloc (Nat.le_refl _) _
          clear HT
          go_wp2_with (at_builtin; first | (refine wpList_app_ints rfl (.tmp 28) (.tmp 31) rfl w3 w1.heap.size w3.heap.size w.heap.size w1.heap.size _ _ (([] : List Int) ++ A ++ [(k : Int)]) D O3.out HD3.out z3 HL2.out rfl rfl ?_; intro ao7 L7 cap7 w4 hL7 o4 q4 z4; have O4 := Lib.hid o4; have Q4 : Hid (Below w1.heap.size w1 w4) := Q3.out.trans q4; clear o4 q4) | (refine wpList_app_int rfl (.tmp 24) (.tmp 26) rfl w2 (k : Int) w1.heap.size w2.heap.size _ (([] : List Int) ++ A) O2.out z2 HL1.out rfl rfl ?_; intro ao6 L6 cap6 w3 hL6 o3 q3 z3; have O3 := Lib.hid o3; have Q3 : Hid (Below w1.heap.size w1 w3) := Q2.out.trans q3; have HD3 := Lib.hid (HDs.out.below Q3.out (Nat.le_refl _)); clear o3 q3) | (refine wpList_app_ints rfl (.tmp 19) (.tmp 22) rfl (w1.alloc (.cells #[] 3)) w1.heap.size (w1.heap.size + 1) w.heap.size w1.heap.size _ _ [] A HE0.out HEt.out HEz.out HL0.out rfl rfl ?_; intro ao5 L5 cap5 w2 hL5 o2 q2 z2; have O2 := Lib.hid o2; have Q2 : Hid (Below w1.heap.size w1 w2) := HEb.out.trans q2; clear o2 q2) | fail)
          have HR3 : Hid (∃ g, ao7 = some ⟨g, 0, none⟩ ∧ L7 = k + 1) := by
            obtain ⟨aoz, gz, capz, ez, -, haz, -⟩ := OwnI.view O4.out
            have hlz : (([] : List Int) ++ A ++ [(k : Int)] ++ D).length = k + 1 := by have := HLT.out; simp; omega
            rw [hlz] at ez haz
            injection ez with ez1 ez2 ez3
            exact ⟨gz, by rw [ez1]; exact (haz (by omega)).1, ez2⟩
          obtain ⟨g7, rfl, rfl⟩ := HR3.out
          go_roundw
          case rel => exact ⟨k + 1, g7, cap7, A ++ [(k : Int)] ++ D, by omega, by go_num, rfl, HF.out, by have := O4.out; rw [List.nil_append] at this; exact Own.mono this zz1 (Nat.le_refl _), C1.out.below Q4.out (by omega), B1.out.trans (But.of_below (Q4.out.mono zz1) (by omega) (Nat.le_refl _))⟩
          case measure => simp [intOf]; omega
    · have e1 : ¬ (k : Int) < (n : Int) := by omega
      have HE : Hid (k = n) := by show k = n; omega
      go_wp2
      go_ret
      exact ⟨_, ys, rfl, by rw [HLEN.out, HE.out], by rw [← HE.out]; exact HY.out, HOW.out, HCR.out, HB.out⟩
set_option maxHeartbeats 1000000 in
theorem MakeOrder_c (B n m k : Nat) (v : Value) (w : World) (hv : BytesV w B v n) (hB : B ≤ w.heap.size) (hn : n ≤ 1048576) (hm : m ≤ 1000) (hk : k ≤ 50) :
    Calls Tryz.prog 13 #[v, .int .i64 m, .int .i64 k] w (SomeI w k (ordP k)) := by
  have HN := Lib.hid (l31New_c B n m v w hv hB hn hm)
  clear hv
  go_enter Tryz.func13, Tryz.ntmps13
  go_wp2_with fail
  refine HN.out.mono ?_
  rintro e w1 ⟨p, rfl, hp, c1, b1⟩
  have C1 := Lib.hid c1
  have B1 := Lib.hid b1
  have z1 := b1.size
  clear c1 b1
  go_wp2_with fail
  refine (l02Order_c p B k w1 C1.out hk).mono ?_
  rintro e w2 ⟨u, xs, rfl, h1, h2, o2, c2, b2⟩
  have O2 : Hid (OwnI w2 w.heap.size w2.heap.size u xs) := Own.mono o2 z1 (Nat.le_refl _)
  have B2 : Hid (Below w.heap.size w w2) := B1.out.trans (b2.below hp)
  have H1 := Lib.hid h1
  have H2 := Lib.hid h2
  clear o2 c2 b2 h1 h2
  go_wp2
  go_ret
  exact ⟨u, xs, rfl, H1.out, H2.out, O2.out, B2.out⟩
end Go.Proofs.YtiodolbgapjmkaaGreatDoor
