/- slices.Sort on a list of ints that a call has built, and the merge of two lists, in the program and in the reference. Conditions: the lists are short. -/
import Derived.Test.YtiodolbgapjmkaaShelf
import Derived.Test.YtiodolbgapjmkaaSortL
import Derived.Test.YtiodolbgapjmkaaRises
import Derived.Test.YtiodolbgapjmkaaMrg
import Derived.Lib.OwnBridge
namespace Go.Proofs.Ytiodolbgapjmkaa
open Go.RowKit Go.Sort
set_option maxRecDepth 100000
set_option linter.unusedVariables false
set_option linter.unusedSimpArgs false

theorem below_grow {B : Nat} {w0 w : World} {os : Array Obj} (h : Below B w0 w) (hB : B ≤ w.heap.size) : Below B w0 (grow w os) :=
  ⟨h.os, h.tape, h.output, by rw [size_grow]; have := h.size; omega, fun k hk => by rw [heap_grow_old _ _ (by omega)]; exact h.block k hk⟩
theorem ownsRow_grow {w : World} {base : Nat} {e : TypeId} {v : Value} {n : Nat} {xs : List Value} {os : Array Obj} (h : w.ownsRow base e 1 v n xs) : (grow w os).ownsRow base e 1 v n xs :=
  ownsRow_of_block h fun k hk => heap_grow_old _ _ (h.lt k hk).2
/-- slices.Sort of a list that a call has built. -/
theorem Sort_c (lo hi g L cap : Nat) (xs : List Int) (w : World) (hv : OwnI w lo hi (.slice (some ⟨g, 0, none⟩) L cap) xs) (hL : xs.length = L) (hl : L ≤ 1000000) :
    Calls Try.prog 86 #[.slice (some ⟨g, 0, none⟩) L cap] w fun e w' =>
      e = .returned (.tuple #[]) ∧ OwnI w' lo hi (.slice (some ⟨g, 0, none⟩) L cap) (sortI xs) ∧ Below lo w w' ∧ ∀ b, b < w.heap.size → b ≠ g → w'.heap[b]? = w.heap[b]? := by
  subst hL
  have htop := hv.row
  rw [ivs_length] at htop
  have hg := htop.lt g rfl
  have hH : Holds (Value.int .i64) w g 0 xs.toArray := by
    intro j hj
    have hj' : j < xs.length := by simpa using hj
    have h1 := htop.cellAt j (by omega)
    refine ⟨?_, htop.frozenAt (0 + j)⟩
    rw [show 0 + j = j by omega]
    refine (by simpa using h1 : w.cell? ⟨g, j, none⟩ = (ivs xs)[j]?).trans ?_
    rw [ivs_getElem?, List.getElem?_eq_getElem hj']
    simp [hj']
  refine (Try.slices_Sort_int g 0 cap xs w hH hg.2 (by omega)).mono ?_
  rintro e w' ⟨rfl, q, os, rfl⟩
  have hrow := Go.Lib.ownsRow_putRow (q := q) (k := xs.length) (ys := sortI xs) (enc := Value.int .i64) htop (sortI_len xs) (Nat.le_refl _)
  rw [List.take_of_length_le (by rw [sortI_len]; exact Nat.le_refl _)] at hrow
  refine ⟨rfl, ⟨?_, hv.lt⟩, below_grow (Go.Lib.below_putRow (Below.refl _ _) hg.1) (by simp; omega), fun b hb hne => ?_⟩
  · rw [ivs_length, sortI_len]
    exact ownsRow_grow hrow
  · rw [heap_grow_old _ _ (by simpa using hb)]
    simp [putRow, mapBlock, Sort.ahead, Array.getElem?_modify, Ne.symm hne]
/-- What MergeLists hands back. -/
def mergeL (a b : List Int) : List Int := if risesB a = true ∧ risesB b = true ∧ a.length + b.length ≤ 40 then sortI (a ++ b) else []
set_option maxHeartbeats 2000000 in
theorem MergeLists_i_c (l0 h0 : Nat) (v0 : Value) (l1 h1 : Nat) (v1 : Value) (a b : List Int) (w : World) (hu : IntsV w l0 h0 v0 a) (hh0 : h0 ≤ w.heap.size) (hla : a.length ≤ 1048576) (hv : IntsV w l1 h1 v1 b) (hh1 : h1 ≤ w.heap.size) (hlb : b.length ≤ 1048576) :
    Calls Try.prog 14 #[v0, v1] w (IntC w (mergeL a b)) := by
  have CA : Hid (∀ w', Below w.heap.size w w' → Calls Try.prog 84 #[v0] w' fun e w'' => e = .returned (.bool (risesB a)) ∧ Below w'.heap.size w' w'') := fun w' h => IsSorted_c l0 h0 v0 a w' (hu.below h hh0) (by have := h.size; omega) (by omega)
  have CB : Hid (∀ w', Below w.heap.size w w' → Calls Try.prog 84 #[v1] w' fun e w'' => e = .returned (.bool (risesB b)) ∧ Below w'.heap.size w' w'') := fun w' h => IsSorted_c l1 h1 v1 b w' (hv.below h hh1) (by have := h.size; omega) (by omega)
  have HU := Lib.hid hu
  have HV := Lib.hid hv
  obtain ⟨ao, g, off, cap, rfl, -, -, -⟩ := hu
  obtain ⟨bo, f, off2, cap2, rfl, -, -, -⟩ := hv
  obtain ⟨la, hla2⟩ : ∃ n, n = a.length := ⟨_, rfl⟩
  obtain ⟨lb, hlb2⟩ : ∃ n, n = b.length := ⟨_, rfl⟩
  have HLA := Lib.hid hla2
  have HLB := Lib.hid hlb2
  obtain ⟨RES, hRES⟩ : ∃ R, R = mergeL a b := ⟨_, rfl⟩
  have HRES := Lib.hid hRES
  obtain ⟨RA, hRA⟩ : ∃ r, r = risesB a := ⟨_, rfl⟩
  obtain ⟨RB, hRB⟩ : ∃ r, r = risesB b := ⟨_, rfl⟩
  have HRA := Lib.hid hRA
  have HRB := Lib.hid hRB
  rw [← hRA, ← hla2] at CA
  rw [← hRB, ← hlb2] at CB
  rw [← hRES, ← hla2, ← hlb2]
  rw [← hla2] at HU hla
  rw [← hlb2] at HV hlb
  clear hla2 hlb2 hRES hRA hRB
  cases RA
  · have HN : Hid (RES = []) := by show _ = _; rw [HRES.out, mergeL, if_neg (by rw [← HRA.out]; simp)]
    go_enter Try.func14, Try.ntmps14
    go_wp2_with fail
    refine (CA.out w (Below.refl _ _)).mono ?_
    rintro e w1 ⟨rfl, b1⟩
    go_wp2
    go_ret
    exact ⟨_, rfl, by rw [HN.out]; exact Own.nil _ _ _ _, b1⟩
  cases RB
  · have HN : Hid (RES = []) := by show _ = _; rw [HRES.out, mergeL, if_neg (by rw [← HRB.out]; simp)]
    go_enter Try.func14, Try.ntmps14
    go_wp2_with fail
    refine (CA.out w (Below.refl _ _)).mono ?_
    rintro e w1 ⟨rfl, b1⟩
    go_wp2_with fail
    refine (CB.out w1 b1).mono ?_
    rintro e w2 ⟨rfl, b2⟩
    have B2 : Hid (Below w.heap.size w w2) := b1.trans (b2.mono b1.size)
    clear b1 b2
    go_wp2
    go_ret
    exact ⟨_, rfl, by rw [HN.out]; exact Own.nil _ _ _ _, B2.out⟩
  by_cases hs : la + lb ≤ 40
  rotate_left
  · have HN : Hid (RES = []) := by show _ = _; rw [HRES.out, mergeL, if_neg (by rw [← HLA.out, ← HLB.out]; omega)]
    rcases (by omega : 40 < la ∨ (la ≤ 40 ∧ 40 < lb) ∨ (la ≤ 40 ∧ lb ≤ 40 ∧ 40 < la + lb)) with h | ⟨h, h'⟩ | ⟨h, h', h''⟩
    · have t1 : (40 : Int) < (la : Int) := by omega
      go_enter Try.func14, Try.ntmps14
      go_wp2_with fail
      refine (CA.out w (Below.refl _ _)).mono ?_
      rintro e w1 ⟨rfl, b1⟩
      go_wp2_with fail
      refine (CB.out w1 b1).mono ?_
      rintro e w2 ⟨rfl, b2⟩
      have B2 : Hid (Below w.heap.size w w2) := b1.trans (b2.mono b1.size)
      clear b1 b2
      go_wp2
      go_ret
      exact ⟨_, rfl, by rw [HN.out]; exact Own.nil _ _ _ _, B2.out⟩
    · have t1 : ¬ (40 : Int) < (la : Int) := by omega
      have t2 : (40 : Int) < (lb : Int) := by omega
      go_enter Try.func14, Try.ntmps14
      go_wp2_with fail
      refine (CA.out w (Below.refl _ _)).mono ?_
      rintro e w1 ⟨rfl, b1⟩
      go_wp2_with fail
      refine (CB.out w1 b1).mono ?_
      rintro e w2 ⟨rfl, b2⟩
      have B2 : Hid (Below w.heap.size w w2) := b1.trans (b2.mono b1.size)
      clear b1 b2
      go_wp2
      go_ret
      exact ⟨_, rfl, by rw [HN.out]; exact Own.nil _ _ _ _, B2.out⟩
    · have t1 : ¬ (40 : Int) < (la : Int) := by omega
      have t2 : ¬ (40 : Int) < (lb : Int) := by omega
      have t3 : (40 : Int) < (la : Int) + (lb : Int) := by omega
      go_enter Try.func14, Try.ntmps14
      go_wp2_with fail
      refine (CA.out w (Below.refl _ _)).mono ?_
      rintro e w1 ⟨rfl, b1⟩
      go_wp2_with fail
      refine (CB.out w1 b1).mono ?_
      rintro e w2 ⟨rfl, b2⟩
      have B2 : Hid (Below w.heap.size w w2) := b1.trans (b2.mono b1.size)
      clear b1 b2
      go_wp2
      go_ret
      exact ⟨_, rfl, by rw [HN.out]; exact Own.nil _ _ _ _, B2.out⟩
  · have HN : Hid (RES = sortI (a ++ b)) := by show _ = _; rw [HRES.out, mergeL, if_pos ⟨HRA.out.symm, HRB.out.symm, by rw [← HLA.out, ← HLB.out]; exact hs⟩]
    have t1 : ¬ (40 : Int) < (la : Int) := by omega
    have t2 : ¬ (40 : Int) < (lb : Int) := by omega
    have t3 : ¬ (40 : Int) < (la : Int) + (lb : Int) := by omega
    go_enter Try.func14, Try.ntmps14
    go_wp2_with fail
    refine (CA.out w (Below.refl _ _)).mono ?_
    rintro e w1 ⟨rfl, b1⟩
    go_wp2_with fail
    refine (CB.out w1 b1).mono ?_
    rintro e w2 ⟨rfl, b2⟩
    have B2 : Hid (Below w.heap.size w w2) := b1.trans (b2.mono b1.size)
    have z2 := B2.out.size
    clear b1 b2
    have HC : Hid (Calls Try.prog 85 #[.slice (some ⟨w2.heap.size, 0, none⟩) 2 2] (w2.alloc (.cells #[.slice ao la cap, .slice bo lb cap2] 22)) fun e w' => ∃ r, e = .returned r ∧ OwnI w' w2.heap.size w'.heap.size r (a ++ b) ∧ Below w2.heap.size w2 w') :=
      concat2_c 0 w2.heap.size _ _ a b w2 ((HU.out.below B2.out hh0).mono (Nat.zero_le _) (by omega)) ((HV.out.below B2.out hh1).mono (Nat.zero_le _) (by omega)) (Nat.le_refl _) (by rw [← HLA.out]; omega) (by rw [← HLB.out]; omega)
    go_wp2_with fail
    refine HC.out.mono ?_
    rintro e w3 ⟨r, rfl, o3, b3⟩
    have HL9 : (a ++ b).length = la + lb := by rw [List.length_append, ← HLA.out, ← HLB.out]
    obtain ⟨ao3, g3, cap3, e3, -, ha3, -⟩ := OwnI.view o3
    rw [HL9] at e3 ha3
    subst e3
    have B3 : Hid (Below w.heap.size w w3) := B2.out.trans (b3.mono z2)
    have O3 := Lib.hid o3
    have HL := Lib.hid HL9
    have z3 := b3.size
    clear o3 b3 HL9
    by_cases h0 : la + lb = 0
    · rw [h0]
      go_wp2_with (go_at_call 86; refine (Try.slices_Sort_int_none _ _ _).mono ?_; rintro e w' ⟨rfl, rfl⟩)
      go_ret
      have hab : a ++ b = [] := List.length_eq_zero_iff.1 (by rw [HL.out, h0])
      refine ⟨_, rfl, ?_, B3.out⟩
      have := O3.out
      rw [h0, hab] at this
      rw [HN.out, hab, sortI_eq (a := []) (List.Perm.refl _) .nil]
      exact Own.mono this z2 (Nat.le_refl _)
    · obtain ⟨rfl, -, -⟩ := ha3 (by omega)
      have HSC := Lib.hid (Sort_c _ _ _ _ _ _ w3 O3.out HL.out (by omega))
      go_wp2_with fail
      refine HSC.out.mono ?_
      rintro e w4 ⟨rfl, o4, b4, -⟩
      have O4 := Lib.hid o4
      have B4 : Hid (Below w.heap.size w w4) := B3.out.trans (b4.mono z2)
      have z4 := b4.size
      clear o4 b4
      go_wp2
      go_ret
      exact ⟨_, rfl, by rw [HN.out]; exact Own.mono O4.out z2 z4, B4.out⟩
end Go.Proofs.Ytiodolbgapjmkaa
