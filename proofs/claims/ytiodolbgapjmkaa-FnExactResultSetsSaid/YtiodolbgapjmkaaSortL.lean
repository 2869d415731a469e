/- Lists of ints as the laws handle them: sorted by insertion, looked through, held against each other; by their contracts. Conditions: the lists are short. -/
import Derived.Test.YtiodolbgapjmkaaSortI
import Derived.Test.YtiodolbgapjmkaaInts
import Derived.Test.YtiodolbgapjmkaaBatch
namespace Go.Proofs.Ytiodolbgapjmkaa
open Go.RowKit
set_option maxRecDepth 100000
set_option linter.unusedVariables false
set_option linter.unusedSimpArgs false

/-- The first q of a list's ints, and the others, in the same memory. -/
theorem IntsV.fore {w : World} {lo hi b off L cap : Nat} {l : List Int} (h : IntsV w lo hi (.slice (some ⟨b, off, none⟩) L cap) l) (hL : l.length = L) (q : Nat) (hq : q ≤ L) : IntsV w lo hi (.slice (some ⟨b, off, none⟩) q cap) (l.take q) := by
  subst hL
  by_cases h0 : 0 < cap
  · exact h.take q hq h0
  · obtain ⟨ao, b', off', cap', e, hcap, hao, hc⟩ := h
    injection e with e1 e2 e3
    subst e3
    have hl : (l.take q).length = q := by rw [List.length_take]; omega
    exact ⟨_, b, off, cap, by rw [hl], by omega, fun h9 => absurd h9 h0, fun i hi' => by omega⟩
theorem IntsV.aft {w : World} {lo hi b off L cap : Nat} {l : List Int} (h : IntsV w lo hi (.slice (some ⟨b, off, none⟩) L cap) l) (hL : l.length = L) (q : Nat) (hq : q ≤ L) : (cap = q → IntsV w lo hi (.slice (some ⟨b, off, none⟩) (L - q) (cap - q)) (l.drop q)) ∧ (cap ≠ q → IntsV w lo hi (.slice (some ⟨b, off + q, none⟩) (L - q) (cap - q)) (l.drop q)) := by
  subst hL
  obtain ⟨ao, b', off', cap', e, hcap, hao, hc⟩ := h
  injection e with e1 e2 e3
  subst e3
  constructor
  · intro hc2
    exact ⟨_, b, off, cap - q, by rw [List.length_drop], by rw [List.length_drop]; omega, fun h9 => by omega, fun i hi' => by rw [List.length_drop] at hi'; omega⟩
  · intro hc2
    obtain ⟨rfl, q1, q2⟩ := hao (by omega)
    injection e1 with e1
    injection e1 with e1 e4
    subst e1 e4
    exact ⟨_, b, off + q, cap - q, by rw [List.length_drop], by rw [List.length_drop]; omega, fun _ => ⟨rfl, q1, q2⟩, fun i hi' => by
      rw [List.length_drop] at hi'
      rw [Nat.add_assoc, hc (q + i) (by omega)]
      simp [List.getD, List.getElem?_drop]⟩

set_option maxHeartbeats 2000000 in
theorem l08Sort_c (lo hi : Nat) (v : Value) (xs : List Int) (w : World) (hv : IntsV w lo hi v xs) (hh : hi ≤ w.heap.size) (hl : xs.length ≤ 1000) :
    Calls Try.prog 179 #[v] w (IntC w (sortI xs)) := by
  have HV := Lib.hid hv
  obtain ⟨ao, b, off, cap, rfl, hcap, hao, hc⟩ := hv
  have HC := Lib.hid hc
  have HAO := Lib.hid hao
  obtain ⟨L, hL⟩ : ∃ L, L = xs.length := ⟨_, rfl⟩
  have HL := Lib.hid hL
  rw [← hL] at HC hcap hl ⊢
  obtain ⟨W0, hW0⟩ : ∃ W, W = w.alloc (.cells #[] 3) := ⟨_, rfl⟩
  have hO0 : OwnI W0 w.heap.size W0.heap.size (.slice (some ⟨w.heap.size, 0, none⟩) 0 0) [] := by rw [hW0]; exact Own.mono (ownI_empty w) (Nat.le_refl _) (by simp)
  have hB0 : Below w.heap.size w W0 := by rw [hW0]; exact (Below.refl _ _).alloc (Nat.le_refl _) _
  have HO0 := Lib.hid hO0
  have HB0 := Lib.hid hB0
  have HW := Lib.hid hW0
  clear hc hao hL hW0 hO0 hB0
  go_enter Try.func179, Try.ntmps179
  go_wp2_with fail
  try rw [← HW.out]
  go_loopw [3, 11] (fun v i wr => ∃ (k g cp : Nat) (ys : List Int), k ≤ L ∧ i = .int .i64 k ∧ v = .slice (some ⟨g, 0, none⟩) k cp ∧ Hid (ys.Perm (xs.take k) ∧ ys.Pairwise (· ≤ ·)) ∧ OwnI wr w.heap.size wr.heap.size v ys ∧ Below w.heap.size w wr) (fun _ i _ => L - (intOf i).toNat)
  case atStart => exact ⟨0, _, _, [], Nat.zero_le _, rfl, rfl, ⟨by simp, .nil⟩, HO0.out, HB0.out⟩
  case round =>
    obtain ⟨k, g1, cap1, ys, hk, rfl, rfl, HY, ho, hb⟩ := hrel
    have HO := Lib.hid ho
    have HB := Lib.hid hb
    have hz := hb.size
    have hlen : ys.length = k := by rw [HY.out.1.length_eq, List.length_take]; have := HL.out; omega
    obtain ⟨ao1, gg1, cc1, e1, hc1, ha1, hcell1⟩ := OwnI.view ho
    rw [hlen] at e1 hc1 ha1 hcell1
    injection e1 with e1 _ e2
    subst e2
    have HLEN := Lib.hid hlen
    have HC1 : Hid (∀ i, i < k → wr.cell? ⟨g1, i, none⟩ = some (.int .i64 (ys.getD i 0))) := fun i hi => by
      obtain ⟨e3, -, -⟩ := ha1 (by omega)
      rw [← e1] at e3
      injection e3 with e3
      injection e3 with e3
      rw [e3]
      exact (hcell1 i hi).1
    clear ho hlen hcell1 ha1 e1
    by_cases hlt : k < L
    · have hk1 : (k : Int) < (L : Int) := by omega
      obtain ⟨ha, q1, q2⟩ := HAO.out (by omega)
      subst ha
      obtain ⟨x, hx⟩ : ∃ x, x = xs.getD k 0 := ⟨_, rfl⟩
      have c1 : wr.cell? ⟨b, off + k, none⟩ = some (.int .i64 x) := by rw [hx]; exact (hb.cell (p := ⟨b, off + k, none⟩) (by show b < _; omega)).trans (HC.out k (by omega))
      have HX := Lib.hid hx
      clear hx hb
      go_wp2_with fail
      go_loop [6] (fun p => ∃ q : Nat, q ≤ k ∧ p = .int .i64 q ∧ Hid (∀ r, q ≤ r → r < k → x < ys.getD r 0)) (fun p => (intOf p).toNat)
      case atStart => exact ⟨k, Nat.le_refl _, rfl, fun r h1 h2 => by omega⟩
      case round =>
        obtain ⟨q, hq, rfl, HQ⟩ := hrel
        have HOUT : Hid (q = 0 ∨ ys.getD (q - 1) 0 ≤ x → (ys.take q ++ [x] ++ ys.drop q).Perm (xs.take (k + 1)) ∧ (ys.take q ++ [x] ++ ys.drop q).Pairwise (· ≤ ·)) := by
          show _ → _
          intro h
          refine ⟨(insert_perm ys x q).trans ?_, insert_up HY.out.2 (by rw [HLEN.out]; exact hq) h fun r h1 h2 => HQ.out r h1 (by rw [← HLEN.out]; exact h2)⟩
          rw [take_snoc_getD 0 (by rw [← HL.out]; exact hlt), ← HX.out]
          exact List.Perm.append_right _ HY.out.1
        by_cases hgo : 0 < q ∧ x < ys.getD (q - 1) 0
        · obtain ⟨hq0, hx1⟩ := hgo
          obtain ⟨p, rfl⟩ : ∃ p, q = p + 1 := ⟨q - 1, by omega⟩
          obtain ⟨y, hy⟩ : ∃ y, y = ys.getD p 0 := ⟨_, rfl⟩
          rw [show p + 1 - 1 = p from rfl, ← hy] at hx1
          have c2 : wr.cell? ⟨g1, p, none⟩ = some (.int .i64 y) := by rw [hy]; exact HC1.out p (by omega)
          have hpk : (p : Int) < (k : Int) := by omega
          have hp0 : (0 : Int) < (p : Int) + 1 := by omega
          have hpt : (((p : Int) + 1 > 0)) = True := eq_true hp0
          have HNX : Hid (∀ r, p ≤ r → r < k → x < ys.getD r 0) := fun r h1 h2 => by
            rcases (by omega : r = p ∨ p + 1 ≤ r) with e | e
            · rw [e, ← hy]; exact hx1
            · exact HQ.out r e h2
          clear hy HOUT
          go_wp2
          go_round
          case rel => exact ⟨p, by omega, by go_num, HNX.out⟩
          case measure => simp [intOf]
        · have HF := Lib.hid (HOUT.out (by
            rcases Nat.eq_zero_or_pos q with h | h
            · exact .inl h
            · exact .inr (by have : ¬ x < ys.getD (q - 1) 0 := fun h' => hgo ⟨h, h'⟩; omega)))
          rcases Nat.eq_zero_or_pos q with hq0 | hq0
          · subst hq0
            have HT := Lib.hid ((OwnI.ints HO.out).fore HLEN.out (0) (by omega))
            have HDs := Lib.hid (OwnI.ints HO.out)
            have hqc : (0) ≤ cap1 := by omega
            have hqk : (0) ≤ k := by omega
            have HLT : Hid ((ys.take (0)).length = (0) ∧ (ys.drop (0)).length = k) := by show _ ∧ _; rw [List.length_take, List.length_drop, HLEN.out]; omega
            obtain ⟨A, hA⟩ : ∃ A, A = ys.take (0) := ⟨_, rfl⟩
            obtain ⟨B, hB⟩ : ∃ B, B = ys := ⟨_, rfl⟩
            rw [← hA] at HT
            rw [← hB] at HDs
            rw [List.drop_zero] at HLT HF
            rw [← hA, ← hB] at HLT HF
            clear hA
            have HL0 : Hid (([] : List Int).length + A.length ≤ 1000000000) := by show _ ≤ _; have := HLT.out; simp; omega
            have HL1 : Hid ((([] : List Int) ++ A).length ≤ 100000000) := by show _ ≤ _; have := HLT.out; simp; omega
            have HL2 : Hid ((([] : List Int) ++ A ++ [x]).length + B.length ≤ 1000000000) := by show _ ≤ _; have := HLT.out; simp; omega
            have HE0 : Hid (OwnI (wr.alloc (.cells #[] 3)) wr.heap.size (wr.heap.size + 1) (.slice (some ⟨wr.heap.size, 0, none⟩) 0 0) []) := ownI_empty wr
            have HEt : Hid (IntsV (wr.alloc (.cells #[] 3)) w.heap.size wr.heap.size (.slice (some ⟨g1, 0, none⟩) (0) cap1) A) := HT.out.below ((Below.refl _ _).alloc (Nat.le_refl _) _) (Nat.le_refl _)
            have HEz : Hid (wr.heap.size ≤ (wr.alloc (.cells #[] 3)).heap.size) := by show _ ≤ _; simp
            have HEb : Hid (Below wr.heap.size wr (wr.alloc (.cells #[] 3))) := (Below.refl _ _).alloc (Nat.le_refl _) _
            clear HT
            go_wp2_with (at_builtin; first | (refine wpList_app_ints rfl (.tmp 39) (.tmp 42) rfl w2 wr.heap.size w2.heap.size w.heap.size wr.heap.size _ _ (([] : List Int) ++ A ++ [x]) B O2.out HD2.out z2 HL2.out rfl rfl ?_; intro ao7 L7 cap7 w3 hL7 o3 q3 z3; have O3 := Lib.hid o3; have Q3 : Hid (Below wr.heap.size wr w3) := Q2.out.trans q3; clear o3 q3) | (refine wpList_app_int rfl (.tmp 35) (.tmp 37) rfl w1 x wr.heap.size w1.heap.size _ (([] : List Int) ++ A) O1.out z1 HL1.out rfl rfl ?_; intro ao6 L6 cap6 w2 hL6 o2 q2 z2; have O2 := Lib.hid o2; have Q2 : Hid (Below wr.heap.size wr w2) := Q1.out.trans q2; have HD2 := Lib.hid (HDs.out.below Q2.out (Nat.le_refl _)); clear o2 q2) | (refine wpList_app_ints rfl (.tmp 30) (.tmp 33) rfl (wr.alloc (.cells #[] 3)) wr.heap.size (wr.heap.size + 1) w.heap.size wr.heap.size _ _ [] A HE0.out HEt.out HEz.out HL0.out rfl rfl ?_; intro ao5 L5 cap5 w1 hL5 o1 q1 z1; have O1 := Lib.hid o1; have Q1 : Hid (Below wr.heap.size wr w1) := HEb.out.trans q1; clear o1 q1) | fail)
            have HR3 : Hid (∃ g, ao7 = some ⟨g, 0, none⟩ ∧ L7 = k + 1) := by
              obtain ⟨aoz, gz, capz, ez, -, haz, -⟩ := OwnI.view O3.out
              have hlz : (([] : List Int) ++ A ++ [x] ++ B).length = k + 1 := by have := HLT.out; simp; omega
              rw [hlz] at ez haz
              injection ez with ez1 ez2 ez3
              exact ⟨gz, by rw [ez1]; exact (haz (by omega)).1, ez2⟩
            obtain ⟨g7, rfl, rfl⟩ := HR3.out
            go_roundw
            case rel => exact ⟨k + 1, g7, cap7, A ++ [x] ++ B, by omega, by go_num, rfl, HF.out, by have := O3.out; rw [List.nil_append] at this; exact Own.mono this hz (Nat.le_refl _), HB.out.trans (Q3.out.mono hz)⟩
            case measure => simp [intOf]; omega
          · obtain ⟨p, rfl⟩ : ∃ p, q = p + 1 := ⟨q - 1, by omega⟩
            have hx1 : ¬ x < ys.getD p 0 := fun h' => hgo ⟨hq0, h'⟩
            obtain ⟨y, hy⟩ : ∃ y, y = ys.getD p 0 := ⟨_, rfl⟩
            rw [← hy] at hx1
            have c2 : wr.cell? ⟨g1, p, none⟩ = some (.int .i64 y) := by rw [hy]; exact HC1.out p (by omega)
            have hpk : (p : Int) < (k : Int) := by omega
            have hp0 : (0 : Int) < (p : Int) + 1 := by omega
            have hc0 : ¬ cap1 = 0 := by omega
            clear hy
            have HT := Lib.hid ((OwnI.ints HO.out).fore HLEN.out (p + 1) (by omega))
            have HD := Lib.hid ((OwnI.ints HO.out).aft HLEN.out (p + 1) (by omega))
            have hqc : (p + 1) ≤ cap1 := by omega
            have hqk : (p + 1) ≤ k := by omega
            have HLT : Hid ((ys.take (p + 1)).length = (p + 1) ∧ (ys.drop (p + 1)).length = k - (p + 1)) := by show _ ∧ _; rw [List.length_take, List.length_drop, HLEN.out]; omega
            obtain ⟨A, hA⟩ : ∃ A, A = ys.take (p + 1) := ⟨_, rfl⟩
            obtain ⟨B, hB⟩ : ∃ B, B = ys.drop (p + 1) := ⟨_, rfl⟩
            rw [← hA] at HT
            rw [← hB] at HD
            rw [← hA, ← hB] at HLT HF
            clear hA hB
            have HL0 : Hid (([] : List Int).length + A.length ≤ 1000000000) := by show _ ≤ _; have := HLT.out; simp; omega
            have HL1 : Hid ((([] : List Int) ++ A).length ≤ 100000000) := by show _ ≤ _; have := HLT.out; simp; omega
            have HL2 : Hid ((([] : List Int) ++ A ++ [x]).length + B.length ≤ 1000000000) := by show _ ≤ _; have := HLT.out; simp; omega
            have HE0 : Hid (OwnI (wr.alloc (.cells #[] 3)) wr.heap.size (wr.heap.size + 1) (.slice (some ⟨wr.heap.size, 0, none⟩) 0 0) []) := ownI_empty wr
            have HEt : Hid (IntsV (wr.alloc (.cells #[] 3)) w.heap.size wr.heap.size (.slice (some ⟨g1, 0, none⟩) (p + 1) cap1) A) := HT.out.below ((Below.refl _ _).alloc (Nat.le_refl _) _) (Nat.le_refl _)
            have HEz : Hid (wr.heap.size ≤ (wr.alloc (.cells #[] 3)).heap.size) := by show _ ≤ _; simp
            have HEb : Hid (Below wr.heap.size wr (wr.alloc (.cells #[] 3))) := (Below.refl _ _).alloc (Nat.le_refl _) _
            clear HT
            by_cases hcq : cap1 = p + 1
            · have HDs := Lib.hid (HD.out.1 hcq)
              subst hcq
              obtain rfl : k = p + 1 := by omega
              rw [Nat.sub_self] at HDs
              clear HD
              go_wp2_with (at_builtin; first | (refine wpList_app_ints rfl (.tmp 39) (.tmp 42) rfl w2 wr.heap.size w2.heap.size w.heap.size wr.heap.size _ _ (([] : List Int) ++ A ++ [x]) B O2.out HD2.out z2 HL2.out rfl rfl ?_; intro ao7 L7 cap7 w3 hL7 o3 q3 z3; have O3 := Lib.hid o3; have Q3 : Hid (Below wr.heap.size wr w3) := Q2.out.trans q3; clear o3 q3) | (refine wpList_app_int rfl (.tmp 35) (.tmp 37) rfl w1 x wr.heap.size w1.heap.size _ (([] : List Int) ++ A) O1.out z1 HL1.out rfl rfl ?_; intro ao6 L6 cap6 w2 hL6 o2 q2 z2; have O2 := Lib.hid o2; have Q2 : Hid (Below wr.heap.size wr w2) := Q1.out.trans q2; have HD2 := Lib.hid (HDs.out.below Q2.out (Nat.le_refl _)); clear o2 q2) | (refine wpList_app_ints rfl (.tmp 30) (.tmp 33) rfl (wr.alloc (.cells #[] 3)) wr.heap.size (wr.heap.size + 1) w.heap.size wr.heap.size _ _ [] A HE0.out HEt.out HEz.out HL0.out rfl rfl ?_; intro ao5 L5 cap5 w1 hL5 o1 q1 z1; have O1 := Lib.hid o1; have Q1 : Hid (Below wr.heap.size wr w1) := HEb.out.trans q1; clear o1 q1) | fail)
              have HR3 : Hid (∃ g, ao7 = some ⟨g, 0, none⟩ ∧ L7 = p + 1 + 1) := by
                obtain ⟨aoz, gz, capz, ez, -, haz, -⟩ := OwnI.view O3.out
                have hlz : (([] : List Int) ++ A ++ [x] ++ B).length = p + 1 + 1 := by have := HLT.out; simp; omega
                rw [hlz] at ez haz
                injection ez with ez1 ez2 ez3
                exact ⟨gz, by rw [ez1]; exact (haz (by omega)).1, ez2⟩
              obtain ⟨g7, rfl, rfl⟩ := HR3.out
              go_roundw
              case rel => exact ⟨p + 1 + 1, g7, cap7, A ++ [x] ++ B, by omega, by go_num, rfl, HF.out, by have := O3.out; rw [List.nil_append] at this; exact Own.mono this hz (Nat.le_refl _), HB.out.trans (Q3.out.mono hz)⟩
              case measure => simp [intOf]; omega
            · have HDs := Lib.hid (HD.out.2 hcq)
              rw [Nat.zero_add] at HDs
              clear HD
              go_wp2_with (at_builtin; first | (refine wpList_app_ints rfl (.tmp 39) (.tmp 42) rfl w2 wr.heap.size w2.heap.size w.heap.size wr.heap.size _ _ (([] : List Int) ++ A ++ [x]) B O2.out HD2.out z2 HL2.out rfl rfl ?_; intro ao7 L7 cap7 w3 hL7 o3 q3 z3; have O3 := Lib.hid o3; have Q3 : Hid (Below wr.heap.size wr w3) := Q2.out.trans q3; clear o3 q3) | (refine wpList_app_int rfl (.tmp 35) (.tmp 37) rfl w1 x wr.heap.size w1.heap.size _ (([] : List Int) ++ A) O1.out z1 HL1.out rfl rfl ?_; intro ao6 L6 cap6 w2 hL6 o2 q2 z2; have O2 := Lib.hid o2; have Q2 : Hid (Below wr.heap.size wr w2) := Q1.out.trans q2; have HD2 := Lib.hid (HDs.out.below Q2.out (Nat.le_refl _)); clear o2 q2) | (refine wpList_app_ints rfl (.tmp 30) (.tmp 33) rfl (wr.alloc (.cells #[] 3)) wr.heap.size (wr.heap.size + 1) w.heap.size wr.heap.size _ _ [] A HE0.out HEt.out HEz.out HL0.out rfl rfl ?_; intro ao5 L5 cap5 w1 hL5 o1 q1 z1; have O1 := Lib.hid o1; have Q1 : Hid (Below wr.heap.size wr w1) := HEb.out.trans q1; clear o1 q1) | fail)
              have HR3 : Hid (∃ g, ao7 = some ⟨g, 0, none⟩ ∧ L7 = k + 1) := by
                obtain ⟨aoz, gz, capz, ez, -, haz, -⟩ := OwnI.view O3.out
                have hlz : (([] : List Int) ++ A ++ [x] ++ B).length = k + 1 := by have := HLT.out; simp; omega
                rw [hlz] at ez haz
                injection ez with ez1 ez2 ez3
                exact ⟨gz, by rw [ez1]; exact (haz (by omega)).1, ez2⟩
              obtain ⟨g7, rfl, rfl⟩ := HR3.out
              go_roundw
              case rel => exact ⟨k + 1, g7, cap7, A ++ [x] ++ B, by omega, by go_num, rfl, HF.out, by have := O3.out; rw [List.nil_append] at this; exact Own.mono this hz (Nat.le_refl _), HB.out.trans (Q3.out.mono hz)⟩
              case measure => simp [intOf]; omega
    · have HE : Hid (sortI xs = ys) := by
        show _ = _
        refine sortI_eq ?_ HY.out.2
        have h := HY.out.1
        rwa [List.take_of_length_le (by rw [← HL.out]; omega)] at h
      have hk1 : ¬ (k : Int) < (L : Int) := by omega
      go_wp2
      go_ret
      exact ⟨_, rfl, by rw [HE.out]; exact HO.out, HB.out⟩
theorem MakeSorted_c (lo hi : Nat) (v : Value) (xs : List Int) (w : World) (hv : IntsV w lo hi v xs) (hh : hi ≤ w.heap.size) (hl : xs.length ≤ 1000) :
    Calls Try.prog 110 #[v] w (IntC w (sortI xs)) := by
  have HC := Lib.hid (l08Sort_c lo hi v xs w hv hh hl)
  obtain ⟨ao, b, off, cap, rfl, hcap, hao, hc⟩ := hv
  go_enter Try.func110, Try.ntmps110
  go_wp2_with fail
  refine HC.out.mono ?_
  rintro e w' ⟨u, rfl, ho, hb⟩
  have HO := Lib.hid ho
  have HB := Lib.hid hb
  clear ho hb
  go_wp2
  go_ret
  exact ⟨u, rfl, HO.out, HB.out⟩
theorem lawSorted_c (lo hi : Nat) (v : Value) (xs : List Int) (w : World) (hv : IntsV w lo hi v xs) (hh : hi ≤ w.heap.size) (hl : xs.length ≤ 1000) :
    Calls Try.prog 32 #[v] w (IntC w (sortI xs)) := by
  have HC := Lib.hid (MakeSorted_c lo hi v xs w hv hh hl)
  obtain ⟨ao, b, off, cap, rfl, hcap, hao, hc⟩ := hv
  go_enter Try.func32, Try.ntmps32
  go_wp2_with fail
  refine HC.out.mono ?_
  rintro e w' ⟨u, rfl, ho, hb⟩
  have HO := Lib.hid ho
  have HB := Lib.hid hb
  clear ho hb
  go_wp2
  go_ret
  exact ⟨u, rfl, HO.out, HB.out⟩
theorem rises_no' {l : List Int} {i : Nat} (hi : i + 1 < l.length) (h : l.getD (i + 1) 0 < l.getD i 0) : risesB l = false := by
  rw [Bool.eq_false_iff]
  intro hr
  have := (risesB_iff l).1 hr i hi
  omega
set_option maxHeartbeats 1000000 in
theorem rises_c (lo hi : Nat) (v : Value) (xs : List Int) (w : World) (hv : IntsV w lo hi v xs) (hh : hi ≤ w.heap.size) (hl : xs.length ≤ 1000000000) :
    Calls Try.prog 38 #[v] w fun e w' => e = .returned (.bool (risesB xs)) ∧ Below w.heap.size w w' := by
  obtain ⟨ao, b, off, cap, rfl, hcap, hao, hc⟩ := hv
  have HC := Lib.hid hc
  have HAO := Lib.hid hao
  obtain ⟨L, hL⟩ : ∃ L, L = xs.length := ⟨_, rfl⟩
  have HL := Lib.hid hL
  rw [← hL] at HC hcap hl ⊢
  clear hc hao hL
  go_enter Try.func38, Try.ntmps38
  go_wp2_with fail
  go_loopw [3] (fun i wr => ∃ k : Nat, k ≤ L - 1 ∧ i = .int .i64 ((k : Int) + 1) ∧ Hid (∀ j, j < k → xs.getD j 0 ≤ xs.getD (j + 1) 0) ∧ Below w.heap.size w wr) (fun i _ => L + 1 - (intOf i).toNat)
  case atStart => exact ⟨0, Nat.zero_le _, by go_num, fun j h1 => by omega, Below.refl _ _⟩
  case round =>
    obtain ⟨k, hk, rfl, HR, hb⟩ := hrel
    have HB := Lib.hid hb
    by_cases hlt : k + 1 < L
    · have hpos : (k : Int) + 1 < (L : Int) := by omega
      obtain ⟨ha, q1, q2⟩ := HAO.out (by omega)
      subst ha
      obtain ⟨x, hx⟩ : ∃ x, x = xs.getD k 0 := ⟨_, rfl⟩
      obtain ⟨y, hy⟩ : ∃ y, y = xs.getD (k + 1) 0 := ⟨_, rfl⟩
      have c1 : wr.cell? ⟨b, off + k, none⟩ = some (.int .i64 x) := by rw [hx]; exact (hb.cell (p := ⟨b, off + k, none⟩) (by show b < _; omega)).trans (HC.out k (by omega))
      have c2 : wr.cell? ⟨b, off + (k + 1), none⟩ = some (.int .i64 y) := by rw [hy]; exact (hb.cell (p := ⟨b, off + (k + 1), none⟩) (by show b < _; omega)).trans (HC.out (k + 1) (by omega))
      have hbw : b < wr.heap.size := by have := hb.size; omega
      have HX := Lib.hid hx
      have HY := Lib.hid hy
      clear hx hy hb
      by_cases hxy : y < x
      · have HXY := Lib.hid hxy
        have hd : decide (y < x) = true := decide_eq_true hxy
        go_wp2_with fail
        refine wp_region_later wr.heap.size wr (by kernel_rfl) (by kernel_rfl) (Below.refl _ _) ?_
        have hLW := LW.cells (B := wr.heap.size) (w0 := wr)
        repeat (go_big_quiet_step (fail))
        refine wpQuiet_nil ?_
        rintro w2 ⟨⟨w2s, hb2⟩, rfl⟩
        clear hLW
        go_wp2
        go_ret
        exact ⟨congrArg (fun b => Ending.returned (.bool b)) (rises_no' (i := k) (by have := HL.out; omega) (by rw [← HX.out, ← HY.out]; exact HXY.out)).symm, HB.out.trans (hb2.mono HB.out.size)⟩
      · have HXY := Lib.hid hxy
        have hd : decide (y < x) = false := decide_eq_false hxy
        have hle : x ≤ y := by omega
        have hff : (y < x) = False := eq_false hxy
        go_wp2_with fail
        refine wp_region_later wr.heap.size wr (by kernel_rfl) (by kernel_rfl) (Below.refl _ _) ?_
        have hLW := LW.cells (B := wr.heap.size) (w0 := wr)
        repeat (go_big_quiet_step (fail))
        refine wpQuiet_nil ?_
        rintro w2 ⟨⟨w2s, hb2⟩, rfl⟩
        clear hLW
        go_wp2
        go_roundw
        case rel =>
          refine ⟨k + 1, by omega, by go_num, ?_, HB.out.trans (hb2.mono HB.out.size)⟩
          show ∀ j, _
          intro j h1
          by_cases e : j = k
          · subst e
            have := HXY.out
            rw [← HX.out, ← HY.out]
            omega
          · exact HR.out j (by omega)
        case measure => simp [intOf]; omega
    · have hneg : (L : Int) ≤ (k : Int) + 1 := by omega
      have HE : Hid (risesB xs = true) := by
        show _ = _
        rw [risesB_iff]
        intro j hj
        exact HR.out j (by have := HL.out; omega)
      clear hb
      go_wp2
      go_ret
      exact ⟨congrArg (fun b => Ending.returned (.bool b)) HE.out.symm, HB.out⟩
set_option maxHeartbeats 1000000 in
theorem same_c (lo hi lo' hi' : Nat) (v u : Value) (xs ys : List Int) (w : World) (hv : IntsV w lo hi v xs) (hu : IntsV w lo' hi' u ys) (h1 : hi ≤ w.heap.size) (h2 : hi' ≤ w.heap.size) (hl : xs.length ≤ 1000000000) :
    Calls Try.prog 37 #[v, u] w fun e w' => e = .returned (.bool (decide (xs = ys))) ∧ Below w.heap.size w w' := by
  obtain ⟨ao, g, off, cap, rfl, hcp, hao, hc⟩ := hv
  obtain ⟨bo, f, off2, cap', rfl, hcp2, hbo, hd⟩ := hu
  have HC := Lib.hid hc
  have HD := Lib.hid hd
  clear hc hd
  by_cases hlen : xs.length = ys.length
  · obtain ⟨L, hL⟩ : ∃ L, L = xs.length := ⟨_, rfl⟩
    have hL2 : L = ys.length := by omega
    have HL := Lib.hid hL
    have HL2 := Lib.hid hL2
    rw [← hL] at hcp HC hl
    rw [← hL2] at hcp2 HD
    rw [← hL, ← hL2]
    clear hL hL2 hlen
    go_enter Try.func37, Try.ntmps37
    go_wp2_with fail
    go_loopw [14] (fun i wr => ∃ k : Nat, k ≤ L ∧ i = .int .i64 k ∧ Hid (xs.take k = ys.take k) ∧ w = wr) (fun i _ => L - (intOf i).toNat)
    case atStart => exact ⟨0, Nat.zero_le _, rfl, rfl, rfl⟩
    case round =>
      obtain ⟨k, hk, rfl, HT, rfl⟩ := hrel
      by_cases hlt : k < L
      · obtain ⟨rfl, q1, q2⟩ := hao (by omega)
        obtain ⟨rfl, q3, q4⟩ := hbo (by omega)
        have hki : (k : Int) < (L : Int) := by omega
        obtain ⟨x, hx⟩ : ∃ x, x = xs.getD k 0 := ⟨_, rfl⟩
        obtain ⟨y, hy⟩ : ∃ y, y = ys.getD k 0 := ⟨_, rfl⟩
        have c1 : w.cell? ⟨g, off + k, none⟩ = some (.int .i64 x) := by rw [hx]; exact HC.out k hlt
        have c2 : w.cell? ⟨f, off2 + k, none⟩ = some (.int .i64 y) := by rw [hy]; exact HD.out k hlt
        have HX := Lib.hid hx
        have HY := Lib.hid hy
        clear hx hy
        by_cases hxy : x = y
        · have e1 : (x == y) = true := by rw [beq_iff_eq]; exact hxy
          have e2 : (x != y) = false := by rw [bne_eq_false_iff_eq]; exact hxy
          have HXY := Lib.hid hxy
          clear hxy
          go_wp2
          go_roundw
          case rel => exact ⟨k + 1, by omega, by go_num, (by show _ = _; rw [take_snoc_getD 0 (by rw [← HL.out]; exact hlt), take_snoc_getD 0 (by rw [← HL2.out]; exact hlt), HT.out, ← HX.out, ← HY.out, HXY.out]), by trivial⟩
          case measure => simp [intOf]; omega
        · have HNE : Hid (¬ xs = ys) := by
            intro h
            apply hxy
            rw [HX.out, HY.out, h]
          have e1 : (x == y) = false := by rw [beq_eq_false_iff_ne]; exact hxy
          have e2 : (x != y) = true := by rw [bne_iff_ne]; exact hxy
          clear hxy
          go_wp2
          go_ret
          exact ⟨congrArg (fun b => Ending.returned (.bool b)) (decide_eq_false HNE.out).symm, Below.refl _ _⟩
      · have HE : Hid (xs = ys) := by
          have := HT.out
          rw [List.take_of_length_le (by have := HL.out; omega), List.take_of_length_le (by have := HL2.out; omega)] at this
          exact this
        have hki : ¬ (k : Int) < (L : Int) := by omega
        go_wp2
        go_ret
        exact ⟨congrArg (fun b => Ending.returned (.bool b)) (decide_eq_true HE.out).symm, Below.refl _ _⟩
  · have HNE : Hid (¬ xs = ys) := fun h => hlen (by rw [h])
    have hl1 : ((xs.length : Int) == (ys.length : Int)) = false := by rw [beq_eq_false_iff_ne]; omega
    have hl2 : ((xs.length : Int) != (ys.length : Int)) = true := by rw [bne_iff_ne]; omega
    clear hlen
    go_enter Try.func37, Try.ntmps37
    go_wp2
    go_ret
    exact ⟨congrArg (fun b => Ending.returned (.bool b)) (decide_eq_false HNE.out).symm, Below.refl _ _⟩
end Go.Proofs.Ytiodolbgapjmkaa
