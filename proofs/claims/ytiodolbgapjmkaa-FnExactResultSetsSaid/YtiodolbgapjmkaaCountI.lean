/- The program's and the reference's number of sorting networks, and the law. Conditions: none. -/
import Derived.Test.YtiodolbgapjmkaaSee
import Derived.Test.YtiodolbgapjmkaaCountC
namespace Go.Proofs.Ytiodolbgapjmkaa
open Go.RowKit Go.Sort
set_option maxRecDepth 100000
set_option linter.unusedVariables false
set_option linter.unusedSimpArgs false

theorem areCounted_c (n p : Int) (w : World) : Calls Try.prog 154 #[.int .i64 n, .int .i64 p] w fun e w' => e = .returned (.bool (inB n 1 4 && (inB p 0 5))) ∧ w = w' := by
  cases hn : inB n 1 4
  · go_enter Try.func154, Try.ntmps154
    go_wp2_with (go_at_call 160; refine (isFew_c _ _).mono ?_; rw [hn]; rintro e w' ⟨rfl, rfl⟩)
    go_ret
    exact ⟨rfl, rfl⟩
  · obtain h1 | h1 | h1 : p < 0 ∨ (0 ≤ p ∧ p ≤ 5) ∨ 5 < p := by omega
    all_goals
      go_enter Try.func154, Try.ntmps154
      go_wp2_with (go_at_call 160; refine (isFew_c _ _).mono ?_; rw [hn]; rintro e w' ⟨rfl, rfl⟩)
      go_ret
      exact ⟨by simp [inB]; try omega, rfl⟩
/-- The counter's box cb, and the box ca of the number of wires. -/
def CntI (n ca cb : Nat) (w : World) (s : Nat) (X : Nat → Prop) : Prop :=
  (∀ k, X k ↔ k = cb) ∧ w.cell? ⟨ca, 0, none⟩ = some (.int .i64 n) ∧ w.heap[cb]? = some (.cells #[.int .i64 (wrap64 (s : Nat))] 3 (0, 0)) ∧ ca ≠ cb ∧ ca < w.heap.size
theorem set1_0 {w : World} {X : Nat} {a y : Value} {T : TypeId} (h : w.heap[X]? = some (.cells #[a] T (0, 0))) : (w.setCell ⟨X, 0, none⟩ y).heap[X]? = some (.cells #[y] T (0, 0)) := by
  have hlt := lt_of_block h
  have h' : w.heap[X] = .cells #[a] T (0, 0) := by simpa [Array.getElem?_eq_getElem hlt] using h
  show (w.heap.modify X _)[X]? = _
  rw [Array.getElem?_eq_getElem (by simpa using hlt), Array.getElem_modify_self, h']
  rfl
theorem wrap64_succ (s : Nat) : wrap64 (wrap64 (s : Int) + 1) = wrap64 ((s + 1 : Nat) : Int) := by unfold wrap64; omega
theorem cnt_see (n ca cb lo : Nat) (hn : n ≤ 8) : SeeC n (seeCnt n) 157 ca cb lo (CntI n ca cb) where
  enters := fun args w => by kernel_rfl
  bound := fun w s X h k hk => by
    rw [(h.1 k).1 hk]
    exact lt_of_block h.2.2.1
  keep := fun w w' s X h hb => ⟨h.1, (hb.cell (p := ⟨ca, 0, none⟩) h.2.2.2.2).trans h.2.1, (hb.block cb (lt_of_block h.2.2.1)).trans h.2.2.1, h.2.2.2.1, Nat.lt_of_lt_of_le h.2.2.2.2 hb.size⟩
  call := fun w s X lv vs path sv l2 h2 P hI hlo hL hV hh2 hx2 h0 => by
    obtain ⟨hX, hca, hcb, hne, hlt⟩ := hI
    have HX := Lib.hid hX
    have HCB := Lib.hid hcb
    have hcb1 := blk_cell hcb 0
    have hcb2 := blk_free hcb 0
    have hl256 : (setI n P).length ≤ 256 := Nat.le_trans (setI_len n P) (pow_le_256 n hn)
    obtain ⟨ao, b, off, cap, rfl, hcap, -, -⟩ := hV
    obtain ⟨L, hLL⟩ : ∃ L, L = (setI n P).length := ⟨_, rfl⟩
    have hlv : ∃ ao2 L2 cap2, lv = .slice ao2 L2 cap2 := by
      obtain ⟨ao2, g2, cap2, e, -, -, -⟩ := hL.own.rows
      exact ⟨_, _, _, e⟩
    obtain ⟨ao2, L2, cap2, rfl⟩ := hlv
    obtain ⟨RES, hRES⟩ : ∃ R, R = seeCnt n s path (setI n P) := ⟨_, rfl⟩
    have HRES : Hid (RES = (if L = n + 1 then s + 1 else s, false)) := by show _ = _; rw [hRES, hLL]; rfl
    rw [← hRES]
    rw [← hLL] at hcap hl256 h0 ⊢
    clear hRES hLL hX hL hx2 hcb
    by_cases hE : L = n + 1
    · have hEi : (L : Int) = (n : Int) + 1 := by omega
      go_enter Try.func157, Try.ntmps157
      go_wp2
      go_ret
      rw [if_pos hE] at HRES
      rw [HRES.out]
      refine ⟨rfl, X, ⟨HX.out, (World.cell?_setCell_far _ _ _ _ (Ne.symm hne)).trans hca, ?_, hne, by simp [World.setCell]; exact hlt⟩, ⟨rfl, rfl, rfl, by simp [World.setCell], fun k _ hk => Below.heap_setCell _ _ _ _ (by show k ≠ cb; exact fun e => hk ((HX.out k).2 e)), fun _ h => .inl h⟩⟩
      rw [wrap64_succ]
      exact set1_0 HCB.out
    · have hEi : ¬ (L : Int) = (n : Int) + 1 := by omega
      go_enter Try.func157, Try.ntmps157
      go_wp2
      go_ret
      rw [if_neg hE] at HRES
      rw [HRES.out]
      exact ⟨rfl, X, ⟨HX.out, hca, HCB.out, hne, hlt⟩, Kp.of_below (Below.refl _ _)⟩
theorem cntL_small {n p : Nat} (h4 : n ≤ 4) (hp : p ≤ 5) (S : List Int) : cntL n p S ≤ 8000 := by
  have h1 := cntL_le n p S
  have h2 : (prs n).length ≤ 6 := by
    have : ∀ n < 5, (prs n).length ≤ 6 := by decide +kernel
    exact this n (by omega)
  have h3 : (prs n).length ^ p ≤ 6 ^ p := Nat.pow_le_pow_left h2 p
  have h5 : 6 ^ p ≤ 6 ^ 5 := Nat.pow_le_pow_right (by omega) hp
  omega
theorem CountNetworks_no (n p : Int) (w : World) (hb : (inB n 1 4 && inB p 0 5) = false) : Calls Try.prog 75 #[.int .i64 n, .int .i64 p] w fun e w' => e = .returned (.int .i64 (-1)) ∧ Below w.heap.size w w' := by
  have HA : Hid (∀ w, Calls Try.prog 154 #[.int .i64 n, .int .i64 p] w fun e w' => e = .returned (.bool false) ∧ w = w') := fun w => by have := areCounted_c n p w; rwa [hb] at this
  go_enter Try.func75, Try.ntmps75
  go_wp2_with (go_at_call 154; refine (HA.out _).mono ?_; rintro e w' ⟨rfl, rfl⟩)
  go_ret
  exact ⟨rfl, (Below.refl _ _).alloc (Nat.le_refl _) _⟩
set_option maxHeartbeats 2000000 in
theorem CountNetworks_yes (n p : Nat) (w : World) (h1 : 1 ≤ n) (h4 : n ≤ 4) (hp : p ≤ 5) : Calls Try.prog 75 #[.int .i64 n, .int .i64 p] w fun e w' => e = .returned (.int .i64 (cntL n p (upI 0 (2 ^ n)) : Nat)) ∧ Below w.heap.size w w' := by
  have HA : Hid (∀ w, Calls Try.prog 154 #[.int .i64 n, .int .i64 p] w fun e w' => e = .returned (.bool true) ∧ w = w') := fun w => by
    have := areCounted_c n p w
    rwa [inB_mk (by omega), inB_mk (by omega)] at this
  obtain ⟨R, hR⟩ : ∃ R, R = cntL n p (upI 0 (2 ^ n)) := ⟨_, rfl⟩
  have HR : Hid (wrap64 ((R : Nat) : Int) = R) := by
    show _ = _
    have := cntL_small h4 hp (upI 0 (2 ^ n))
    unfold wrap64
    omega
  have HV := Lib.hid (visit_cnt n p (upI 0 (2 ^ n)) [] 0)
  rw [← hR] at HV ⊢
  clear hR
  go_enter Try.func75, Try.ntmps75
  go_upto_region 4 with (go_at_call 154; refine (HA.out _).mono ?_; rintro e w' ⟨rfl, rfl⟩)
  have c0 : ((w.alloc (.cells #[.int .i64 n] 3)).alloc (.cells #[.int .i64 0] 3)).heap[w.heap.size]? = some (.cells #[.int .i64 n] 3 (0, 0)) := blk_old (blk_new w _) _
  have c1 : ((w.alloc (.cells #[.int .i64 n] 3)).alloc (.cells #[.int .i64 0] 3)).heap[w.heap.size + 1]? = some (.cells #[.int .i64 0] 3 (0, 0)) := by
    have := blk_new (w.alloc (.cells #[.int .i64 n] 3)) (.cells #[.int .i64 0] 3)
    rwa [show (w.alloc (.cells #[.int .i64 n] 3)).heap.size = w.heap.size + 1 from by simp] at this
  have hb2 : Below w.heap.size w ((w.alloc (.cells #[.int .i64 n] 3)).alloc (.cells #[.int .i64 0] 3)) := ((Below.refl _ _).alloc (Nat.le_refl _) _).alloc (by simp) _
  have hz2 : ((w.alloc (.cells #[.int .i64 n] 3)).alloc (.cells #[.int .i64 0] 3)).heap.size = w.heap.size + 2 := by simp
  generalize ((w.alloc (.cells #[.int .i64 n] 3)).alloc (.cells #[.int .i64 0] 3)) = W2 at *
  have HB2 := Lib.hid hb2
  have d0 := blk_cell c0 0
  have HAM := Lib.hid (allMasks_c n W2.drew (by omega))
  have hd2 : Below W2.heap.size W2 W2.drew := (Below.refl _ _).drew
  have HC0 := Lib.hid c0
  have HC1 := Lib.hid c1
  have HSL : Hid (∀ (w3 : World) (v3 : Value), Below W2.heap.size W2 w3 → OwnI w3 W2.heap.size w3.heap.size v3 (upI 0 (2 ^ n)) →
      Calls Try.prog 155 #[.int .i64 n, .int .i64 p, v3, .slice none 0 0, .func (.func 157) #[] #[.pointer (some ⟨w.heap.size, 0, none⟩), .pointer (some ⟨w.heap.size + 1, 0, none⟩)]] w3
        fun e w' => e = .returned (.bool false) ∧ w'.cell? ⟨w.heap.size + 1, 0, none⟩ = some (.int .i64 (R : Nat)) ∧ w'.cell? ⟨w.heap.size, 0, none⟩ = some (.int .i64 n) ∧ Below w.heap.size w w') := by
    intro w3 v3 hb3 ho3
    have hz3 := hb3.size
    refine (standardLists_c n (by omega) (seeCnt n) 157 w.heap.size (w.heap.size + 1) w3.heap.size (CntI n w.heap.size (w.heap.size + 1)) (cnt_see n _ _ _ (by omega)) p hp (upI 0 (2 ^ n)) (fun m => Nat.testBit (2 ^ 2 ^ n - 1) m) [] 0 (fun k => k = w.heap.size + 1) w3 v3 (.slice none 0 0) [] W2.heap.size w3.heap.size
      (show upI 0 (2 ^ n) = setI n (fun m => Nat.testBit (2 ^ 2 ^ n - 1) m) from upI_setB n) (by rw [upI_length]; exact Nat.pow_pos (by omega)) ⟨fun k => Iff.rfl, (hb3.cell (p := ⟨w.heap.size, 0, none⟩) (by show w.heap.size < _; omega)).trans (blk_cell HC0.out 0), (hb3.block (w.heap.size + 1) (by omega)).trans (by rw [show wrap64 ((0 : Nat) : Int) = 0 from by unfold wrap64; omega]; exact HC1.out), by omega, by omega⟩ (OwnZ.nil _ _) (by simpa using hp) ho3.ints (Nat.le_refl _) (fun k h1 _ h => by have h' : k = w.heap.size + 1 := h; omega) (Nat.le_refl _)).mono ?_
    rintro e w' ⟨rfl, X', hI, hK⟩
    rw [HV.out] at hI ⊢
    refine ⟨rfl, ?_, hI.2.1, (HB2.out.trans (hb3.mono (by omega))).trans (hK.below (by omega) fun k hk h => by have h' : k = w.heap.size + 1 := h; omega)⟩
    have := blk_cell hI.2.2.1 0
    rw [Nat.zero_add, HR.out] at this
    exact this
  clear c0 c1 hb2
  go_region_held3 (fun W' => W'.cell? ⟨w.heap.size, 0, none⟩ = some (.int .i64 n)) (first | exact c5 | exact d1 | exact d0 | fail) (first | (go_at_call 156; (with_reducible refine HAM.out.mono ?_); rintro e w3 ⟨v3, rfl, o3, b3⟩; have O3 : Hid (OwnI w3 W2.heap.size w3.heap.size v3 (upI 0 (2 ^ n))) := o3; have B3 : Hid (Below W2.heap.size W2 w3) := hd2.trans b3; have d1 := (b3.cell (p := ⟨w.heap.size, 0, none⟩) (by show w.heap.size < W2.heap.size; omega)).trans d0; clear o3 b3) | (go_at_call 155; (with_reducible refine (HSL.out w3 v3 B3.out O3.out).mono ?_); rintro e w4 ⟨rfl, c4, c5, b4⟩; have B4 := Lib.hid b4; clear b4) | fail)
  all_goals
    go_wp2
    go_ret
    exact ⟨rfl, B4.out⟩
theorem CountNetworks_s_no (n p : Int) (w : World) (hb : (inB n 1 4 && inB p 0 5) = false) : Calls Try.prog 74 #[.int .i64 n, .int .i64 p] w fun e w' => e = .returned (.int .i64 (-1)) ∧ Below w.heap.size w w' := by
  cases hn : inB n 1 4
  · go_enter Try.func74, Try.ntmps74
    go_wp2_with (go_at_call 150; refine (l12N_c _ _).mono ?_; rw [hn]; rintro e w' ⟨rfl, rfl⟩)
    go_ret
    exact ⟨rfl, Below.refl _ _⟩
  · rw [hn, Bool.true_and] at hb
    go_enter Try.func74, Try.ntmps74
    go_wp2_with (first | (go_at_call 150; refine (l12N_c _ _).mono ?_; rw [hn]; rintro e w' ⟨rfl, rfl⟩) | (go_at_call 151; refine (l01In_c _ _ _ _).mono ?_; rw [hb]; rintro e w' ⟨rfl, rfl⟩))
    go_ret
    exact ⟨rfl, Below.refl _ _⟩
theorem CountNetworks_s_yes (n p : Nat) (w : World) (h1 : 1 ≤ n) (h4 : n ≤ 4) (hp : p ≤ 5) : Calls Try.prog 74 #[.int .i64 n, .int .i64 p] w fun e w' => e = .returned (.int .i64 (cntL n p (upI 0 (2 ^ n)) : Nat)) ∧ Below w.heap.size w w' := by
  have hb1 : inB (n : Int) 1 4 = true := inB_mk (by omega)
  have hb2 : inB (p : Int) 0 5 = true := inB_mk (by omega)
  have h256 := pow_le_256 n (by omega)
  have hp0 : 0 < 2 ^ n := Nat.pow_pos (by omega)
  have HMS : Hid (masksP n (upI 0 (2 ^ n))) := by show masksP _ _; rw [upI_setB]; exact setI_masks n _
  have HL : Hid ((upI 0 (2 ^ n)).length = 2 ^ n) := upI_length _ _
  have HC : Hid (∀ (S : List Int) (v : Value) (lo hi : Nat) (w : World), IntsV w lo hi v S → hi ≤ w.heap.size → masksP n S → 0 < S.length → S.length ≤ 256 →
    Calls Try.prog 152 #[.int .i64 n, .int .i64 p, v] w fun e w' => e = .returned (.int .i64 (cntL n p S : Nat)) ∧ Below w.heap.size w w') := l12Count_c n (by omega) p hp
  have HM := Lib.hid (l04Masks_c n w (by omega))
  obtain ⟨S, hS⟩ : ∃ S, S = upI 0 (2 ^ n) := ⟨_, rfl⟩
  rw [← hS] at HMS HL HM ⊢
  obtain ⟨R, hR⟩ : ∃ R, R = cntL n p S := ⟨_, rfl⟩
  have HR := Lib.hid hR
  rw [← hR]
  clear hS hR
  go_enter Try.func74, Try.ntmps74
  go_wp2_with (first | (go_at_call 150; refine (l12N_c _ _).mono ?_; rw [hb1]; rintro e w' ⟨rfl, rfl⟩) | (go_at_call 151; refine (l01In_c _ _ _ _).mono ?_; rw [hb2]; rintro e w' ⟨rfl, rfl⟩))
  refine HM.out.mono ?_
  rintro e w3 ⟨v3, rfl, o3, b3⟩
  have HC3 := Lib.hid (HC.out S v3 w.heap.size w3.heap.size w3 o3.ints (Nat.le_refl _) HMS.out (by have := HL.out; omega) (by have := HL.out; omega))
  have B3 := Lib.hid b3
  rw [← HR.out] at HC3
  clear o3 b3 HC HM
  go_wp2_with fail
  refine HC3.out.mono ?_
  rintro e w4 ⟨rfl, b4⟩
  have B4 : Hid (Below w.heap.size w w4) := B3.out.trans (b4.mono B3.out.size)
  clear b4
  go_wp2
  go_ret
  exact ⟨rfl, B4.out⟩
theorem fnExactCountNetworks_walk (a0 : Int) (_w0 : (Lit.int .i64 a0).wf = true) (a1 : Int) (_w1 : (Lit.int .i64 a1).wf = true) (w : World) :
    Calls Try.prog 9 #[.int .i64 a0, .int .i64 a1] w fun e w' => e = .returned (.bool true) ∧ Below w.heap.size w w' := by
  have key : ∃ R : Int, (∀ w, Calls Try.prog 75 #[.int .i64 a0, .int .i64 a1] w fun e w' => e = .returned (.int .i64 R) ∧ Below w.heap.size w w') ∧ (∀ w, Calls Try.prog 74 #[.int .i64 a0, .int .i64 a1] w fun e w' => e = .returned (.int .i64 R) ∧ Below w.heap.size w w') := by
    cases hb : inB a0 1 4 && inB a1 0 5
    · exact ⟨-1, fun w => CountNetworks_no a0 a1 w hb, fun w => CountNetworks_s_no a0 a1 w hb⟩
    · rw [Bool.and_eq_true] at hb
      have q1 := inB_of hb.1
      have q2 := inB_of hb.2
      obtain ⟨n, rfl⟩ : ∃ n : Nat, a0 = n := ⟨a0.toNat, by omega⟩
      obtain ⟨p, rfl⟩ : ∃ p : Nat, a1 = p := ⟨a1.toNat, by omega⟩
      exact ⟨_, fun w => CountNetworks_yes n p w (by omega) (by omega) (by omega), fun w => CountNetworks_s_yes n p w (by omega) (by omega) (by omega)⟩
  obtain ⟨R, hi, hs⟩ := key
  have HI := Lib.hid hi
  have HS := Lib.hid hs
  clear hi hs
  go_enter Try.func9, Try.ntmps9
  go_wp2_with fail
  refine (HS.out w).mono ?_
  rintro e w1 ⟨rfl, b1⟩
  have B1 := Lib.hid b1
  clear b1
  go_wp2_with fail
  refine (HI.out w1).mono ?_
  rintro e w2 ⟨rfl, b2⟩
  have B2 : Hid (Below w.heap.size w w2) := B1.out.trans (b2.mono B1.out.size)
  clear b2
  go_wp2
  go_ret
  exact ⟨rfl, B2.out⟩
end Go.Proofs.Ytiodolbgapjmkaa
