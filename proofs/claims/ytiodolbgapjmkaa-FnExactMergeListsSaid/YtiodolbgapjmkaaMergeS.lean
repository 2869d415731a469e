/- The merge of two lists in the reference. Conditions: none. -/
import Derived.Test.YtiodolbgapjmkaaSortC
namespace Go.Proofs.Ytiodolbgapjmkaa
open Go.RowKit
set_option maxRecDepth 100000
set_option linter.unusedVariables false
set_option linter.unusedSimpArgs false

/-- What the merge has so far: k of the one list, i of the other one. -/
def mrgSt (a b : List Int) (k i : Nat) (ys : List Int) : Prop :=
  ys.Perm (a.take k ++ b.take i) ∧ ys.Pairwise (· ≤ ·) ∧ (∀ y ∈ ys, ∀ j, k ≤ j → j < a.length → y ≤ a.getD j 0) ∧ (∀ y ∈ ys, ∀ j, i ≤ j → j < b.length → y ≤ b.getD j 0)
theorem up_getD {l : List Int} (h : risesB l = true) {i j : Nat} (hij : i ≤ j) (hj : j < l.length) : l.getD i 0 ≤ l.getD j 0 := by
  have := List.pairwise_iff_getElem.1 (rises_up.1 h)
  rcases Nat.eq_or_lt_of_le hij with e | e
  · subst e; exact Int.le_refl _
  · have := this i j (by omega) hj e
    simpa [List.getD, hj, show i < l.length by omega] using this
theorem snoc_up {ys : List Int} {x : Int} (h : ys.Pairwise (· ≤ ·)) (hx : ∀ y ∈ ys, y ≤ x) : (ys ++ [x]).Pairwise (· ≤ ·) := by
  rw [List.pairwise_append]
  exact ⟨h, List.pairwise_singleton _ _, fun y hy z hz => by rw [List.mem_singleton.1 hz]; exact hx y hy⟩
theorem mrgSt_zero (a b : List Int) : mrgSt a b 0 0 [] := ⟨by simp, .nil, by simp, by simp⟩
theorem mrgSt_b {a b ys : List Int} {k i : Nat} (h : mrgSt a b k i ys) (ha : risesB a = true) (hb : risesB b = true) (hk : k < a.length) (hi : i < b.length) (hlt : b.getD i 0 < a.getD k 0) : mrgSt a b k (i + 1) (ys ++ [b.getD i 0]) := by
  obtain ⟨h1, h2, h3, h4⟩ := h
  refine ⟨?_, snoc_up h2 fun y hy => h4 y hy i (Nat.le_refl _) hi, ?_, ?_⟩
  · rw [take_snoc_getD 0 hi, ← List.append_assoc]
    exact List.Perm.append_right _ h1
  · intro y hy j h5 h6
    rcases List.mem_append.1 hy with hy | hy
    · exact h3 y hy j h5 h6
    · rw [List.mem_singleton.1 hy]
      have := up_getD ha h5 h6
      omega
  · intro y hy j h5 h6
    rcases List.mem_append.1 hy with hy | hy
    · exact h4 y hy j (by omega) h6
    · rw [List.mem_singleton.1 hy]
      exact up_getD hb (by omega) h6
theorem mrgSt_a {a b ys : List Int} {k i : Nat} (h : mrgSt a b k i ys) (ha : risesB a = true) (hb : risesB b = true) (hk : k < a.length) (hi : i < b.length → a.getD k 0 ≤ b.getD i 0) : mrgSt a b (k + 1) i (ys ++ [a.getD k 0]) := by
  obtain ⟨h1, h2, h3, h4⟩ := h
  refine ⟨?_, snoc_up h2 fun y hy => h3 y hy k (Nat.le_refl _) hk, ?_, ?_⟩
  · rw [take_snoc_getD 0 hk]
    refine (List.Perm.append_right _ h1).trans ?_
    rw [List.append_assoc, List.append_assoc]
    exact List.Perm.append_left _ List.perm_append_comm
  · intro y hy j h5 h6
    rcases List.mem_append.1 hy with hy | hy
    · exact h3 y hy j (by omega) h6
    · rw [List.mem_singleton.1 hy]
      exact up_getD ha (by omega) h6
  · intro y hy j h5 h6
    rcases List.mem_append.1 hy with hy | hy
    · exact h4 y hy j h5 h6
    · rw [List.mem_singleton.1 hy]
      have := up_getD hb h5 h6
      have := hi (by omega)
      omega
theorem mrgSt_end {a b ys : List Int} {i : Nat} (h : mrgSt a b a.length i ys) (hb : risesB b = true) (hi : i ≤ b.length) : sortI (a ++ b) = ys ++ b.drop i := by
  obtain ⟨h1, h2, h3, h4⟩ := h
  refine sortI_eq ?_ ?_
  · refine (List.Perm.append_right _ h1).trans ?_
    rw [List.append_assoc, List.take_append_drop, List.take_length]
  · rw [List.pairwise_append]
    refine ⟨h2, (rises_up.1 hb).sublist (List.drop_sublist _ _), fun y hy z hz => ?_⟩
    obtain ⟨j, hj, rfl⟩ := List.getElem_of_mem hz
    rw [List.length_drop] at hj
    have := h4 y hy (i + j) (by omega) (by omega)
    rw [List.getElem_drop]
    simpa [List.getD, show i + j < b.length by omega] using this
theorem mrgSt_len {a b ys : List Int} {k i : Nat} (h : mrgSt a b k i ys) (hk : k ≤ a.length) (hi : i ≤ b.length) : ys.length = k + i := by
  rw [h.1.length_eq, List.length_append, List.length_take, List.length_take]; omega
set_option maxHeartbeats 2000000 in
theorem MergeLists_s_c (l0 h0 : Nat) (v0 : Value) (l1 h1 : Nat) (v1 : Value) (a b : List Int) (w : World) (hu : IntsV w l0 h0 v0 a) (hh0 : h0 ≤ w.heap.size) (hla : a.length ≤ 1048576) (hv : IntsV w l1 h1 v1 b) (hh1 : h1 ≤ w.heap.size) (hlb : b.length ≤ 1048576) :
    Calls Try.prog 12 #[v0, v1] w (IntC w (mergeL a b)) := by
  have CA : Hid (∀ w', Below w.heap.size w w' → Calls Try.prog 83 #[v0] w' fun e w'' => e = .returned (.bool (risesB a)) ∧ Below w'.heap.size w' w'') := fun w' h => l03Rises_c l0 h0 v0 a w' (hu.below h hh0) (by have := h.size; omega) (by omega)
  have CB : Hid (∀ w', Below w.heap.size w w' → Calls Try.prog 83 #[v1] w' fun e w'' => e = .returned (.bool (risesB b)) ∧ Below w'.heap.size w' w'') := fun w' h => l03Rises_c l1 h1 v1 b w' (hv.below h hh1) (by have := h.size; omega) (by omega)
  have HU := Lib.hid hu
  have HV := Lib.hid hv
  obtain ⟨ao, g, off, cap, rfl, hcap, hao, hc⟩ := hu
  obtain ⟨bo, f, off2, cap2, rfl, hcap2, hbo, hd⟩ := hv
  have HC := Lib.hid hc
  have HD := Lib.hid hd
  have HAO := Lib.hid hao
  have HBO := Lib.hid hbo
  clear hc hd hao hbo
  obtain ⟨la, hla2⟩ : ∃ n, n = a.length := ⟨_, rfl⟩
  obtain ⟨lb, hlb2⟩ : ∃ n, n = b.length := ⟨_, rfl⟩
  have HLA := Lib.hid hla2
  have HLB := Lib.hid hlb2
  obtain ⟨RES, hRES⟩ : ∃ R, R = mergeL a b := ⟨_, rfl⟩
  have HRES := Lib.hid hRES
  obtain ⟨RA, hRA⟩ : ∃ r, r = risesB a := ⟨_, rfl⟩
  obtain ⟨RB, hRB⟩ : ∃ r, r = risesB b := ⟨_, rfl⟩
  have HRA := Lib.hid hRA
  have HRB := Lib.hid hRB
  rw [← hRA, ← hla2] at CA
  rw [← hRB, ← hlb2] at CB
  rw [← hRES, ← hla2, ← hlb2]
  rw [← hla2] at HU hla hcap HC
  rw [← hlb2] at HV hlb hcap2 HD
  clear hla2 hlb2 hRES hRA hRB
  by_cases hs : la + lb ≤ 40
  rotate_left
  · have HN : Hid (RES = []) := by show _ = _; rw [HRES.out, mergeL, if_neg (by rw [← HLA.out, ← HLB.out]; omega)]
    have t3 : (40 : Int) < (la : Int) + (lb : Int) := by omega
    go_enter Try.func12, Try.ntmps12
    go_wp2_with fail
    go_ret
    exact ⟨_, rfl, by rw [HN.out]; exact Own.nil _ _ _ _, Below.refl _ _⟩
  have t3 : ¬ (40 : Int) < (la : Int) + (lb : Int) := by omega
  cases RA
  · have HN : Hid (RES = []) := by show _ = _; rw [HRES.out, mergeL, if_neg (by rw [← HRA.out]; simp)]
    go_enter Try.func12, Try.ntmps12
    go_wp2_with fail
    refine (CA.out w (Below.refl _ _)).mono ?_
    rintro e w1 ⟨rfl, b1⟩
    go_wp2
    go_ret
    exact ⟨_, rfl, by rw [HN.out]; exact Own.nil _ _ _ _, b1⟩
  cases RB
  · have HN : Hid (RES = []) := by show _ = _; rw [HRES.out, mergeL, if_neg (by rw [← HRB.out]; simp)]
    go_enter Try.func12, Try.ntmps12
    go_wp2_with fail
    refine (CA.out w (Below.refl _ _)).mono ?_
    rintro e w1 ⟨rfl, b1⟩
    go_wp2_with fail
    refine (CB.out w1 b1).mono ?_
    rintro e w2 ⟨rfl, b2⟩
    have B2 : Hid (Below w.heap.size w w2) := b1.trans (b2.mono b1.size)
    clear b1 b2
    go_wp2
    go_ret
    exact ⟨_, rfl, by rw [HN.out]; exact Own.nil _ _ _ _, B2.out⟩
  have HN : Hid (RES = sortI (a ++ b)) := by show _ = _; rw [HRES.out, mergeL, if_pos ⟨HRA.out.symm, HRB.out.symm, by rw [← HLA.out, ← HLB.out]; exact hs⟩]
  go_enter Try.func12, Try.ntmps12
  go_wp2_with fail
  refine (CA.out w (Below.refl _ _)).mono ?_
  rintro e w1 ⟨rfl, b1⟩
  go_wp2_with fail
  refine (CB.out w1 b1).mono ?_
  rintro e w2 ⟨rfl, b2⟩
  have B2 : Hid (Below w.heap.size w w2) := b1.trans (b2.mono b1.size)
  have z2 := B2.out.size
  clear b1 b2 CA CB
  obtain ⟨W0, hW0⟩ : ∃ W, W = w2.alloc (.cells #[] 3) := ⟨_, rfl⟩
  have hO0 : OwnI W0 w.heap.size W0.heap.size (.slice (some ⟨w2.heap.size, 0, none⟩) 0 0) [] := by rw [hW0]; exact Own.mono (ownI_empty w2) z2 (by simp)
  have hB0 : Below w.heap.size w W0 := B2.out.trans (by rw [hW0]; exact (Below.refl _ _).alloc z2 _)
  have HO0 := Lib.hid hO0
  have HB0 := Lib.hid hB0
  have HW := Lib.hid hW0
  clear hW0 hO0 hB0
  go_wp2_with fail
  try rw [← HW.out]
  go_loopw [5, 6, 28] (fun v p q wr => ∃ (k i : Nat) (ys : List Int), k ≤ la ∧ i ≤ lb ∧ q = .int .i64 k ∧ p = .int .i64 i ∧ Hid (mrgSt a b k i ys) ∧ OwnI wr w.heap.size wr.heap.size v ys ∧ Below w.heap.size w wr) (fun _ _ q _ => la - (intOf q).toNat)
  case atStart => exact ⟨0, 0, [], by omega, by omega, rfl, rfl, mrgSt_zero a b, HO0.out, HB0.out⟩
  case round =>
    obtain ⟨k, i, ys, hk, hi, rfl, rfl, HY, ho, hb⟩ := hrel
    have HO := Lib.hid ho
    have HB := Lib.hid hb
    have hz := hb.size
    by_cases hlt : k < la
    · have hk1 : (k : Int) < (la : Int) := by omega
      obtain ⟨ha, q1, q2⟩ := HAO.out (by omega)
      subst ha
      obtain ⟨x, hx⟩ : ∃ x, x = a.getD k 0 := ⟨_, rfl⟩
      have c1 : wr.cell? ⟨g, off + k, none⟩ = some (.int .i64 x) := by rw [hx]; exact (hb.cell (p := ⟨g, off + k, none⟩) (by show g < _; omega)).trans (HC.out k (by omega))
      have HX := Lib.hid hx
      clear hx hb ho
      go_wp2_with fail
      go_loopw [5, 6] (fun v p wi => ∃ (j : Nat) (zs : List Int), j ≤ lb ∧ p = .int .i64 j ∧ Hid (mrgSt a b k j zs) ∧ OwnI wi w.heap.size wi.heap.size v zs ∧ Below w.heap.size w wi) (fun _ p _ => lb - (intOf p).toNat)
      case atStart => exact ⟨i, ys, hi, rfl, HY.out, HO.out, HB.out⟩
      case round =>
        obtain ⟨j, zs, hj, rfl, HZ, hoi, hbi⟩ := hrel
        obtain ⟨wi, rfl⟩ : ∃ W : World, W = wr := ⟨_, rfl⟩
        have OI := Lib.hid hoi
        have BI := Lib.hid hbi
        have hzi := hbi.size
        have HLZ : Hid (zs.length ≤ 100000000) := by show _ ≤ _; rw [mrgSt_len HZ.out (by rw [← HLA.out]; omega) (by rw [← HLB.out]; exact hj)]; omega
        clear hoi c1 hz HO
        by_cases hj1 : j < lb
        · obtain ⟨hb0, q3, q4⟩ := HBO.out (by omega)
          subst hb0
          have hji : (j : Int) < (lb : Int) := by omega
          obtain ⟨y, hy⟩ : ∃ y, y = b.getD j 0 := ⟨_, rfl⟩
          have c2 : wi.cell? ⟨f, off2 + j, none⟩ = some (.int .i64 y) := by rw [hy]; exact (hbi.cell (p := ⟨f, off2 + j, none⟩) (by show f < _; omega)).trans (HD.out j hj1)
          have HYY := Lib.hid hy
          clear hy hbi
          by_cases hyx : y < x
          · have HB3 := Lib.hid (mrgSt_b HZ.out HRA.out.symm HRB.out.symm (by rw [← HLA.out]; exact hlt) (by rw [← HLB.out]; exact hj1) (by rw [← HYY.out, ← HX.out]; exact hyx))
            rw [← HYY.out] at HB3
            go_wp2_with (at_builtin; refine wpList_app_int rfl (.tmp 44) (.tmp 49) rfl wi y w.heap.size wi.heap.size _ zs OI.out hzi HLZ.out rfl rfl ?_; intro ao5 L5 cap5 w5 hL5 o5 b5 z5; have O5 := Lib.hid o5; have B5 : Hid (Below w.heap.size w w5) := BI.out.trans b5; clear o5 b5)
            go_roundw
            case rel => exact ⟨j + 1, zs ++ [y], by omega, by go_num, HB3.out, O5.out, B5.out⟩
            case measure => simp [intOf]; omega
          have HGE : Hid (j < b.length → a.getD k 0 ≤ b.getD j 0) := by show _ → _; intro _; rw [← HYY.out, ← HX.out]; omega
          have HA2 := Lib.hid (mrgSt_a HZ.out HRA.out.symm HRB.out.symm (by rw [← HLA.out]; exact hlt) HGE.out)
          rw [← HX.out] at HA2
          go_wp2_with (at_builtin; refine wpList_app_int rfl (.tmp 53) (.tmp 55) rfl wi x w.heap.size wi.heap.size _ zs OI.out hzi HLZ.out rfl rfl ?_; intro ao5 L5 cap5 w5 hL5 o5 b5 z5; have O5 := Lib.hid o5; have B5 : Hid (Below w.heap.size w w5) := BI.out.trans b5; clear o5 b5)
          go_roundw
          case rel => exact ⟨k + 1, j, zs ++ [x], by omega, hj, by go_num, rfl, HA2.out, O5.out, B5.out⟩
          case measure => simp [intOf]; omega
        · have hji : ¬ (j : Int) < (lb : Int) := by omega
          have HGE : Hid (j < b.length → a.getD k 0 ≤ b.getD j 0) := by show _ → _; intro h; have := HLB.out; omega
          clear hbi
          have HA2 := Lib.hid (mrgSt_a HZ.out HRA.out.symm HRB.out.symm (by rw [← HLA.out]; exact hlt) HGE.out)
          rw [← HX.out] at HA2
          go_wp2_with (at_builtin; refine wpList_app_int rfl (.tmp 53) (.tmp 55) rfl wi x w.heap.size wi.heap.size _ zs OI.out hzi HLZ.out rfl rfl ?_; intro ao5 L5 cap5 w5 hL5 o5 b5 z5; have O5 := Lib.hid o5; have B5 : Hid (Below w.heap.size w w5) := BI.out.trans b5; clear o5 b5)
          go_roundw
          case rel => exact ⟨k + 1, j, zs ++ [x], by omega, hj, by go_num, rfl, HA2.out, O5.out, B5.out⟩
          case measure => simp [intOf]; omega
    · have hk1 : ¬ (k : Int) < (la : Int) := by omega
      have HE := Lib.hid (mrgSt_end (i := i) (ys := ys) (by have := HY.out; rwa [show k = a.length by rw [← HLA.out]; omega] at this) HRB.out.symm (by rw [← HLB.out]; exact hi))
      have HLZ : Hid (ys.length + (b.drop i).length ≤ 1000000000) := by show _ ≤ _; rw [List.length_drop, mrgSt_len HY.out (by rw [← HLA.out]; omega) (by rw [← HLB.out]; exact hi), ← HLB.out]; omega
      have HVR := Lib.hid (HV.out.below hb hh1)
      clear ho hb
      by_cases hc0 : cap2 = 0
      · obtain rfl : lb = 0 := by omega
        obtain rfl : i = 0 := by omega
        subst hc0
        have HD0 : Hid (IntsV wr l1 h1 (.slice bo 0 0) (b.drop 0)) := HVR.out
        go_wp2_with (at_builtin; refine wpList_app_ints rfl (.tmp 58) (.tmp 61) rfl wr w.heap.size wr.heap.size l1 h1 _ _ ys (b.drop 0) HO.out HD0.out hz HLZ.out rfl rfl ?_; intro ao5 L5 cap5 w5 hL5 o5 b5 z5; have O5 := Lib.hid o5; have B5 : Hid (Below w.heap.size w w5) := HB.out.trans b5; clear o5 b5)
        go_ret
        exact ⟨_, rfl, by rw [HN.out, HE.out]; exact O5.out, B5.out⟩
      · obtain ⟨hb0, q3, q4⟩ := HBO.out (by omega)
        subst hb0
        have HDD := Lib.hid (HVR.out.aft HLB.out.symm i hi)
        have hic : i ≤ cap2 := by omega
        by_cases hcq : cap2 = i
        · have HDs := Lib.hid (HDD.out.1 hcq)
          subst hcq
          obtain rfl : cap2 = lb := by omega
          rw [Nat.sub_self] at HDs
          clear HDD
          go_wp2_with (at_builtin; refine wpList_app_ints rfl (.tmp 58) (.tmp 61) rfl wr w.heap.size wr.heap.size l1 h1 _ _ ys (b.drop cap2) HO.out HDs.out hz HLZ.out rfl rfl ?_; intro ao5 L5 cap5 w5 hL5 o5 b5 z5; have O5 := Lib.hid o5; have B5 : Hid (Below w.heap.size w w5) := HB.out.trans b5; clear o5 b5)
          go_ret
          exact ⟨_, rfl, by rw [HN.out, HE.out]; exact O5.out, B5.out⟩
        · have HDs := Lib.hid (HDD.out.2 hcq)
          clear HDD
          go_wp2_with (at_builtin; refine wpList_app_ints rfl (.tmp 58) (.tmp 61) rfl wr w.heap.size wr.heap.size l1 h1 _ _ ys (b.drop i) HO.out HDs.out hz HLZ.out rfl rfl ?_; intro ao5 L5 cap5 w5 hL5 o5 b5 z5; have O5 := Lib.hid o5; have B5 : Hid (Below w.heap.size w w5) := HB.out.trans b5; clear o5 b5)
          go_ret
          exact ⟨_, rfl, by rw [HN.out, HE.out]; exact O5.out, B5.out⟩
end Go.Proofs.Ytiodolbgapjmkaa
