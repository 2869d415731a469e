/- The comparators of a bitonic merger, the program's and the reference's: the same recursion. Conditions: at most eight wires. -/
import Derived.Test.YtiodolbgapjmkaaRowApp
import Derived.Test.YtiodolbgapjmkaaSmall
namespace Go.Proofs.Ytiodolbgapjmkaa
open Go.RowKit
set_option maxRecDepth 100000

/-- The comparators that merge 2^d wires from one on. -/
def bitM : Nat → Int → List (List Int)
  | 0, _ => []
  | d + 1, at_ => ((List.range (2 ^ d)).map fun i : Nat => [at_ + (i : Int), at_ + (i : Int) + (2 ^ d : Nat)]) ++ bitM d at_ ++ bitM d (at_ + (2 ^ d : Nat))
theorem bitM_len (d : Nat) : ∀ at_, (bitM d at_).length ≤ 4 ^ d := by
  induction d with
  | zero => intro a; simp [bitM]
  | succ d ih =>
    intro a
    have h1 := ih a
    have h2 := ih (a + (2 ^ d : Nat))
    have h3 : 2 ^ d ≤ 4 ^ d := Nat.pow_le_pow_left (by omega) d
    simp only [bitM, List.length_append, List.length_map, List.length_range]
    rw [Nat.pow_succ]
    omega

set_option maxHeartbeats 1000000 in
theorem bitonicMerge_i (d : Nat) : ∀ (at_ : Int) (w : World), d ≤ 3 → 0 ≤ at_ → at_ + ((2 ^ d : Nat) : Int) ≤ 16 → Calls Try.prog 119 #[.int .i64 at_, .int .i64 ((2 ^ d : Nat) : Int)] w (RowC w (bitM d at_)) := by
  induction d with
  | zero =>
    intro at_ w _ _ _
    go_enter Try.func119, Try.ntmps119
    go_wp2_with fail
    go_ret
    exact ⟨_, [], rfl, (ownR_empty w).mono (Nat.le_refl _) (by simp), (Below.refl _ _).alloc (Nat.le_refl _) _⟩
  | succ d ih =>
    intro at_ w hd h0 h1
    have hp : 2 ^ d ≤ 4 := by
      have : 2 ^ d ≤ 2 ^ 2 := Nat.pow_le_pow_right (by omega) (by omega)
      simpa using this
    have hpos : 1 ≤ 2 ^ d := Nat.one_le_two_pow
    have hb4 : ∀ a, (bitM d a).length ≤ 16 := fun a => by
      have := bitM_len d a
      have : 4 ^ d ≤ 4 ^ 2 := Nat.pow_le_pow_right (by omega) (by omega)
      omega
    obtain ⟨h, hh⟩ : ∃ h : Nat, h = 2 ^ d := ⟨_, rfl⟩
    have e1 : ((2 ^ (d + 1) : Nat) : Int) = 2 * (h : Int) := by rw [Nat.pow_succ, ← hh]; omega
    have hx : bitM (d + 1) at_ = ((List.range h).map fun i : Nat => [at_ + (i : Int), at_ + (i : Int) + (h : Int)]) ++ bitM d at_ ++ bitM d (at_ + (h : Int)) := by rw [hh]; rfl
    rw [e1] at h1
    rw [e1, hx]
    rw [← hh] at hp hpos ih
    obtain ⟨PP, hPP⟩ : ∃ PP : Nat → List Int, PP = fun i : Nat => [at_ + (i : Int), at_ + (i : Int) + (h : Int)] := ⟨_, rfl⟩
    rw [← hPP]
    have HPP := Lib.hid hPP
    have IH := Lib.hid ih
    have HB4 := Lib.hid hb4
    have hdiv : (2 * (h : Int)) / 2 = (h : Int) := by omega
    have hne : (2 * (h : Int) == 1) = false := by rw [beq_eq_false_iff_ne]; omega
    clear hPP ih hb4 e1 hx hh
    go_enter Try.func119, Try.ntmps119
    go_wp2_with fail
    obtain ⟨W, hW⟩ : ∃ W, W = w.alloc (.cells #[] 22) := ⟨_, rfl⟩
    have hi : OwnR W w.heap.size W.heap.size (.slice (some ⟨w.heap.size, 0, none⟩) 0 0) [] [] := by rw [hW]; exact (ownR_empty w).mono (Nat.le_refl _) (by simp)
    have hb : Below w.heap.size w W := by rw [hW]; exact (Below.refl _ _).alloc (Nat.le_refl _) _
    rw [← hW]
    clear hW
    have HI := Lib.hid hi
    clear hi
    go_loopw [5, 13] (fun v i wr => ∃ k : Nat, k ≤ h ∧ i = .int .i64 k ∧ ∃ vs, OwnR wr w.heap.size wr.heap.size v vs ((List.range k).map PP) ∧ Below w.heap.size w wr) (fun _ i _ => h - (intOf i).toNat)
    case atStart => exact ⟨0, by omega, rfl, [], by simpa using HI.out, hb⟩
    case round =>
      obtain ⟨k, hk, rfl, vs, hR, hB⟩ := hrel
      have HR := Lib.hid hR
      have HB := Lib.hid hB
      have hz := hB.size
      clear hR hB
      have hl : ((List.range k).map PP).length ≤ 1000000 := by rw [List.length_map, List.length_range]; omega
      have HL := Lib.hid hl
      clear hl
      by_cases hkl : k < h
      · go_wp2_with (at_builtin; refine wpList_app_pair rfl (.tmp 16) (.tmp 27) rfl wr _ _ w.heap.size _ vs ((List.range k).map PP) HR.out hz HL.out rfl rfl ?_; intro g' L' cap' w1 vs1 hL o1 b1 z1; have O1 := Lib.hid o1; clear o1)
        go_roundw
        case rel => exact ⟨k + 1, by omega, by go_num, _, by rw [List.range_succ, List.map_append, show List.map PP [k] = [[at_ + (k : Int), at_ + (k : Int) + (h : Int)]] from by rw [HPP.out]; rfl]; exact O1.out, HB.out.trans b1⟩
        case measure => simp [intOf]; omega
      · obtain rfl : k = h := by omega
        go_wp2_with fail
        refine (IH.out at_ wr (by omega) h0 (by omega)).mono ?_
        rintro e w1 ⟨u1, us1, rfl, o1, b1⟩
        have O1 := Lib.hid o1
        have H1 := Lib.hid (HR.out.later b1)
        have hz1 := b1.size
        have hb1 := HB4.out at_
        have hb2 := HB4.out (at_ + (k : Int))
        have hl1 : ((List.range k).map PP).length + (bitM d at_).length ≤ 1000000 := by rw [List.length_map, List.length_range]; omega
        have HL1 := Lib.hid hl1
        clear hl1 o1
        go_wp2_with (at_builtin; refine wpList_app_rows rfl (.tmp 30) (.tmp 34) rfl w1 w.heap.size wr.heap.size _ u1 vs us1 _ _ H1.out O1.out hz hz1 HL1.out rfl rfl ?_; intro ao2 L2 cap2 w2 vs2 hL2 o2 b2 z2; have O2 := Lib.hid o2; clear o2)
        have HQ := Lib.hid ((HB.out.trans (b1.mono hz)).trans b2)
        clear b2
        refine (IH.out (at_ + (k : Int)) w2 (by omega) (by omega) (by omega)).mono ?_
        rintro e w3 ⟨u3, us3, rfl, o3, b3⟩
        have O3 := Lib.hid o3
        have H3 := Lib.hid (O2.out.later b3)
        have hz3 := b3.size
        have hl3 : ((List.range k).map PP ++ bitM d at_).length + (bitM d (at_ + (k : Int))).length ≤ 1000000 := by rw [List.length_append, List.length_map, List.length_range]; omega
        have HL3 := Lib.hid hl3
        have HQ3 := Lib.hid (HQ.out.trans (b3.mono z2))
        clear hl3 o3
        go_wp2_with (at_builtin; refine wpList_app_rows rfl (.tmp 36) (.tmp 43) rfl w3 w.heap.size w2.heap.size _ u3 vs2 us3 _ _ H3.out O3.out z2 hz3 HL3.out rfl rfl ?_; intro ao4 L4 cap4 w4 vs4 hL4 o4 b4 z4; have O4 := Lib.hid o4; clear o4)
        go_ret
        exact ⟨_, _, rfl, O4.out, HQ3.out.trans b4⟩
/-- The comparators that sort 2^d wires from one on by bitonic merges. -/
def bitS : Nat → Int → List (List Int)
  | 0, _ => []
  | d + 1, at_ => bitS d at_ ++ bitS d (at_ + (2 ^ d : Nat)) ++ ((List.range (2 ^ d)).map fun i : Nat => [at_ + (i : Int), at_ + 2 * (2 ^ d : Nat) - 1 - (i : Int)]) ++ bitM d at_ ++ bitM d (at_ + (2 ^ d : Nat))
theorem bitS_len (d : Nat) : ∀ at_, (bitS d at_).length ≤ 10 ^ d := by
  induction d with
  | zero => intro a; simp [bitS]
  | succ d ih =>
    intro a
    have h1 := ih a
    have h2 := ih (a + (2 ^ d : Nat))
    have h3 : 2 ^ d ≤ 10 ^ d := Nat.pow_le_pow_left (by omega) d
    have h4 : 4 ^ d ≤ 10 ^ d := Nat.pow_le_pow_left (by omega) d
    have h5 := bitM_len d a
    have h6 := bitM_len d (a + (2 ^ d : Nat))
    simp only [bitS, List.length_append, List.length_map, List.length_range]
    rw [Nat.pow_succ]
    omega

set_option maxHeartbeats 1600000 in
theorem bitonic_i (d : Nat) : ∀ (at_ : Int) (w : World), d ≤ 3 → 0 ≤ at_ → at_ + ((2 ^ d : Nat) : Int) ≤ 16 → Calls Try.prog 124 #[.int .i64 at_, .int .i64 ((2 ^ d : Nat) : Int)] w (RowC w (bitS d at_)) := by
  induction d with
  | zero =>
    intro at_ w _ _ _
    go_enter Try.func124, Try.ntmps124
    go_wp2_with fail
    go_ret
    first
      | exact ⟨_, [], rfl, (ownR_empty w).mono (Nat.le_refl _) (by simp), (Below.refl _ _).alloc (Nat.le_refl _) _⟩
      | exact ⟨_, [], rfl, OwnR.nil _ _ _, Below.refl _ _⟩
  | succ d ih =>
    intro at_ w hd h0 h1
    have hp : 2 ^ d ≤ 4 := by
      have : 2 ^ d ≤ 2 ^ 2 := Nat.pow_le_pow_right (by omega) (by omega)
      simpa using this
    have hpos : 1 ≤ 2 ^ d := Nat.one_le_two_pow
    have hb4 : ∀ a, (bitM d a).length ≤ 16 := fun a => by
      have := bitM_len d a
      have : 4 ^ d ≤ 4 ^ 2 := Nat.pow_le_pow_right (by omega) (by omega)
      omega
    have hb6 : ∀ a, (bitS d a).length ≤ 100 := fun a => by
      have := bitS_len d a
      have : 10 ^ d ≤ 10 ^ 2 := Nat.pow_le_pow_right (by omega) (by omega)
      omega
    obtain ⟨h, hh⟩ : ∃ h : Nat, h = 2 ^ d := ⟨_, rfl⟩
    have e1 : ((2 ^ (d + 1) : Nat) : Int) = 2 * (h : Int) := by rw [Nat.pow_succ, ← hh]; omega
    have hx : bitS (d + 1) at_ = bitS d at_ ++ bitS d (at_ + (h : Int)) ++ ((List.range h).map fun i : Nat => [at_ + (i : Int), at_ + 2 * (h : Int) - 1 - (i : Int)]) ++ bitM d at_ ++ bitM d (at_ + (h : Int)) := by rw [hh]; rfl
    rw [e1] at h1
    rw [e1, hx]
    rw [← hh] at hp hpos ih
    have hm : ∀ (at_ : Int) (w : World), 0 ≤ at_ → at_ + (h : Int) ≤ 16 → Calls Try.prog 119 #[.int .i64 at_, .int .i64 (h : Int)] w (RowC w (bitM d at_)) := by
      intro a w' q1 q2
      have := bitonicMerge_i d a w' (by omega) q1 (by rw [← hh]; exact q2)
      rwa [← hh] at this
    obtain ⟨PP, hPP⟩ : ∃ PP : Nat → List Int, PP = fun i : Nat => [at_ + (i : Int), at_ + 2 * (h : Int) - 1 - (i : Int)] := ⟨_, rfl⟩
    rw [← hPP]
    have HPP := Lib.hid hPP
    have IH := Lib.hid ih
    have HM := Lib.hid hm
    have HB4 := Lib.hid hb4
    have HB6 := Lib.hid hb6
    have hdiv : (2 * (h : Int)) / 2 = (h : Int) := by omega
    have hne : (2 * (h : Int) == 1) = false := by rw [beq_eq_false_iff_ne]; omega
    clear hPP ih hb4 hb6 hm e1 hx hh
    go_enter Try.func124, Try.ntmps124
    go_wp2_with fail
    refine (IH.out at_ w (by omega) h0 (by omega)).mono ?_
    rintro e wa ⟨ua, usa, rfl, oa, ba⟩
    have OA := Lib.hid oa
    have hza := ba.size
    clear oa
    go_wp2_with fail
    refine (IH.out (at_ + (h : Int)) wa (by omega) (by omega) (by omega)).mono ?_
    rintro e wb ⟨ub, usb, rfl, ob, bb⟩
    have OB := Lib.hid ob
    have HA := Lib.hid (OA.out.later bb)
    have hzb := bb.size
    have hq1 := HB6.out at_
    have hq2 := HB6.out (at_ + (h : Int))
    have hla : (bitS d at_).length + (bitS d (at_ + (h : Int))).length ≤ 1000000 := by omega
    have HLA := Lib.hid hla
    have HQA := Lib.hid (ba.trans (bb.mono hza))
    clear ob hla ba bb
    go_wp2_with (at_builtin; refine wpList_app_rows rfl (.tmp 12) (.tmp 19) rfl wb w.heap.size wa.heap.size _ ub usa usb _ _ HA.out OB.out hza hzb HLA.out rfl rfl ?_; intro ao0 L0 cap0 W vs0 hL0 o0 b0 z0; have O0 := Lib.hid o0; have HQ0 := Lib.hid (HQA.out.trans b0); clear o0 b0)
    obtain ⟨base, hbase⟩ : ∃ base, base = bitS d at_ ++ bitS d (at_ + (h : Int)) := ⟨_, rfl⟩
    have O0' : Hid (OwnR W w.heap.size W.heap.size (.slice ao0 L0 cap0) vs0 base) := by rw [hbase]; exact O0.out
    have hbl : base.length ≤ 200 := by rw [hbase, List.length_append]; omega
    have HBASE := Lib.hid hbase
    clear O0 hbase
    go_loopw [5, 23] (fun v i wr => ∃ k : Nat, k ≤ h ∧ i = .int .i64 k ∧ ∃ vs, OwnR wr w.heap.size wr.heap.size v vs (base ++ (List.range k).map PP) ∧ Below w.heap.size w wr) (fun _ i _ => h - (intOf i).toNat)
    case atStart => exact ⟨0, by omega, rfl, vs0, by simpa using O0'.out, HQ0.out⟩
    case round =>
      obtain ⟨k, hk, rfl, vs, hR, hB⟩ := hrel
      have HR := Lib.hid hR
      have HB := Lib.hid hB
      have hz := hB.size
      clear hR hB
      have hl : (base ++ (List.range k).map PP).length ≤ 1000000 := by rw [List.length_append, List.length_map, List.length_range]; omega
      have HL := Lib.hid hl
      clear hl
      by_cases hkl : k < h
      · go_wp2_with (at_builtin; refine wpList_app_pair rfl (.tmp 26) (.tmp 37) rfl wr _ _ w.heap.size _ vs (base ++ (List.range k).map PP) HR.out hz HL.out rfl rfl ?_; intro g' L' cap' w1 vs1 hL o1 b1 z1; have O1 := Lib.hid o1; clear o1)
        go_roundw
        case rel => exact ⟨k + 1, by omega, by go_num, _, by rw [List.range_succ, List.map_append, ← List.append_assoc, show List.map PP [k] = [[at_ + (k : Int), at_ + 2 * (h : Int) - 1 - (k : Int)]] from by rw [HPP.out]; rfl]; exact O1.out, HB.out.trans b1⟩
        case measure => simp [intOf]; omega
      · obtain rfl : k = h := by omega
        go_wp2_with fail
        refine (HM.out at_ wr h0 (by omega)).mono ?_
        rintro e w1 ⟨u1, us1, rfl, o1, b1⟩
        have O1 := Lib.hid o1
        have H1 := Lib.hid (HR.out.later b1)
        have hz1 := b1.size
        have hb1 := HB4.out at_
        have hb2 := HB4.out (at_ + (k : Int))
        have hl1 : (base ++ (List.range k).map PP).length + (bitM d at_).length ≤ 1000000 := by rw [List.length_append, List.length_map, List.length_range]; omega
        have HL1 := Lib.hid hl1
        clear hl1 o1
        go_wp2_with (at_builtin; refine wpList_app_rows rfl (.tmp 40) (.tmp 44) rfl w1 w.heap.size wr.heap.size _ u1 vs us1 _ _ H1.out O1.out hz hz1 HL1.out rfl rfl ?_; intro ao2 L2 cap2 w2 vs2 hL2 o2 b2 z2; have O2 := Lib.hid o2; clear o2)
        have HQ := Lib.hid ((HB.out.trans (b1.mono hz)).trans b2)
        clear b2
        refine (HM.out (at_ + (k : Int)) w2 (by omega) (by omega)).mono ?_
        rintro e w3 ⟨u3, us3, rfl, o3, b3⟩
        have O3 := Lib.hid o3
        have H3 := Lib.hid (O2.out.later b3)
        have hz3 := b3.size
        have hl3 : (base ++ (List.range k).map PP ++ bitM d at_).length + (bitM d (at_ + (k : Int))).length ≤ 1000000 := by rw [List.length_append, List.length_append, List.length_map, List.length_range]; omega
        have HL3 := Lib.hid hl3
        have HQ3 := Lib.hid (HQ.out.trans (b3.mono z2))
        clear hl3 o3
        go_wp2_with (at_builtin; refine wpList_app_rows rfl (.tmp 46) (.tmp 53) rfl w3 w.heap.size w2.heap.size _ u3 vs2 us3 _ _ H3.out O3.out z2 hz3 HL3.out rfl rfl ?_; intro ao4 L4 cap4 w4 vs4 hL4 o4 b4 z4; have O4 := Lib.hid o4; clear o4)
        go_ret
        exact ⟨_, _, rfl, (by have h5 := O4.out; rw [HBASE.out] at h5; exact h5), HQ3.out.trans b4⟩
end Go.Proofs.Ytiodolbgapjmkaa
