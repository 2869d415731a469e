/- The program's and the reference's shortest networks, and the law. Conditions: none. -/
import Derived.Test.YtiodolbgapjmkaaSee
import Derived.Test.YtiodolbgapjmkaaFirstC
import Derived.Test.YtiodolbgapjmkaaLShortestNetwork
import Derived.Test.YtiodolbgapjmkaaPast
namespace Go.Proofs.Ytiodolbgapjmkaa
open Go.RowKit Go.Sort
set_option maxRecDepth 100000
set_option linter.unusedVariables false
set_option linter.unusedSimpArgs false

theorem LeastPairs_4 (n : Nat) (h1 : 1 ≤ n) (h4 : n ≤ 4) (w : World) : Calls Try.prog 161 #[.int .i64 n] w fun e w' => e = .returned (.int .i64 (leastP n : Nat)) ∧ Below w.heap.size w w' := by
  rcases (by omega : n = 1 ∨ n = 2 ∨ n = 3 ∨ n = 4) with rfl | rfl | rfl | rfl
  all_goals
    go_enter Try.func161, Try.ntmps161
    go_wp2
    go_ret
    exact ⟨rfl, by repeat (first | exact Below.refl _ _ | apply Below.drew | refine Below.alloc ?_ (by simp) _)⟩
theorem LeastPairs_s4 (n : Nat) (h1 : 1 ≤ n) (h4 : n ≤ 4) (w : World) : Calls Try.prog 159 #[.int .i64 n] w fun e w' => e = .returned (.int .i64 (leastP n : Nat)) ∧ Below w.heap.size w w' := by
  rcases (by omega : n = 1 ∨ n = 2 ∨ n = 3 ∨ n = 4) with rfl | rfl | rfl | rfl
  all_goals
    go_enter Try.func159, Try.ntmps159
    go_wp2
    go_ret
    exact ⟨rfl, by repeat (first | exact Below.refl _ _ | apply Below.drew | refine Below.alloc ?_ (by simp) _)⟩
theorem leastP_le (n : Nat) : leastP n ≤ 5 := by unfold leastP; split <;> omega
/-- The box ca of the network found so far, and the box cb of the number of wires. -/
def FndI (n ca cb lo : Nat) (w : World) (s : List (List Int)) (X : Nat → Prop) : Prop :=
  (∀ k, X k ↔ k = ca) ∧ w.cell? ⟨cb, 0, none⟩ = some (.int .i64 n) ∧ ca ≠ cb ∧ cb < w.heap.size ∧ ca < lo ∧ ∃ v vs, w.heap[ca]? = some (.cells #[.int .i64 n, v] 30 (0, 0)) ∧ OwnZ w (fun k => lo ≤ k) v vs s
theorem fnd_see (n ca cb lo : Nat) (hn : n ≤ 8) : SeeC n (seeFst n) 162 ca cb lo (FndI n ca cb lo) where
  enters := fun args w => by kernel_rfl
  bound := fun w s X h k hk => by
    rw [(h.1 k).1 hk]
    obtain ⟨-, -, -, -, -, v, vs, h1, -⟩ := h
    exact lt_of_block h1
  keep := fun w w' s X h hb => by
    obtain ⟨h1, h2, h3, h4, h5, v, vs, h6, h7⟩ := h
    exact ⟨h1, (hb.cell (p := ⟨cb, 0, none⟩) h4).trans h2, h3, Nat.lt_of_lt_of_le h4 hb.size, h5, v, vs, (hb.block ca (lt_of_block h6)).trans h6, h7.below hb⟩
  call := fun w s X lv vs path sv l2 h2 P hI hlo hL hV hh2 hx2 h0 => by
    obtain ⟨hX, hcb, hne, hlt, hcl, v, vs0, hca, -⟩ := hI
    have HX := Lib.hid hX
    have HCA := Lib.hid hca
    have hca1 := blk_cell hca 1
    have hca2 := blk_free hca 1
    have hl256 : (setI n P).length ≤ 256 := Nat.le_trans (setI_len n P) (pow_le_256 n hn)
    obtain ⟨ao, b, off, cap, rfl, hcap, -, -⟩ := hV
    obtain ⟨L, hLL⟩ : ∃ L, L = (setI n P).length := ⟨_, rfl⟩
    have HL : Hid (OwnZ w (fun k => lo ≤ k) lv vs path) := hL.mono fun k _ h => h.1
    have hlv : ∃ ao2 L2 cap2, lv = .slice ao2 L2 cap2 := by
      obtain ⟨ao2, g2, cap2, e, -, -, -⟩ := hL.own.rows
      exact ⟨_, _, _, e⟩
    obtain ⟨ao2, L2, cap2, rfl⟩ := hlv
    obtain ⟨RES, hRES⟩ : ∃ R, R = seeFst n s path (setI n P) := ⟨_, rfl⟩
    have HRES : Hid (RES = (path, decide (L = n + 1))) := by show _ = _; rw [hRES, hLL]; rfl
    rw [← hRES]
    rw [← hLL] at hcap hl256 h0 ⊢
    have HFIN : Hid (∃ X', FndI n ca cb lo (w.setCell ⟨ca, 1, none⟩ (.slice ao2 L2 cap2)) path X' ∧ Kp X X' w (w.setCell ⟨ca, 1, none⟩ (.slice ao2 L2 cap2))) := by
      refine ⟨X, ⟨hX, (World.cell?_setCell_far _ _ _ _ hne).trans hcb, hne, by simp [World.setCell]; exact hlt, hcl, _, vs, box_set1 hca, ?_⟩, ⟨rfl, rfl, rfl, by simp [World.setCell], fun k _ hk => Below.heap_setCell _ _ _ _ (by show k ≠ ca; exact fun e => hk ((hX k).2 e)), fun _ h => .inl h⟩⟩
      exact HL.out.keep (by simp [World.setCell]) (fun k _ h => Below.heap_setCell _ _ _ _ (by show k ≠ ca; have h' : lo ≤ k := h; omega)) fun _ _ h => h
    clear hRES hLL hX hL hx2 hca
    by_cases hE : L = n + 1
    · have hEi : (L : Int) = (n : Int) + 1 := by omega
      go_enter Try.func162, Try.ntmps162
      go_wp2
      go_ret
      rw [HRES.out]
      exact ⟨by simp [hE], HFIN.out⟩
    · have hEi : ¬ (L : Int) = (n : Int) + 1 := by omega
      go_enter Try.func162, Try.ntmps162
      go_wp2
      go_ret
      rw [HRES.out]
      exact ⟨by simp [hE, hEi], HFIN.out⟩
theorem ShortestNetwork_no (n : Int) (w : World) (hb : inB n 1 4 = false) : Calls Try.prog 77 #[.int .i64 n] w (NetC w 0 [] false) := by
  have HA : Hid (∀ w, Calls Try.prog 160 #[.int .i64 n] w fun e w' => e = .returned (.bool false) ∧ w = w') := fun w => by have := isFew_c n w; rwa [hb] at this
  go_enter Try.func77, Try.ntmps77
  have q := blk_new (w.alloc (.cells #[.int .i64 n] 3)) (.cells #[.int .i64 0, .slice none 0 0] 30)
  rw [show (w.alloc (.cells #[.int .i64 n] 3)).heap.size = w.heap.size + 1 from by simp] at q
  have q0 := blk_cell q 0
  have q1 := blk_cell q 1
  have hb2 : Below w.heap.size w ((w.alloc (.cells #[.int .i64 n] 3)).alloc (.cells #[.int .i64 0, .slice none 0 0] 30)) := ((Below.refl _ _).alloc (Nat.le_refl _) _).alloc (by simp) _
  go_wp2_with (go_at_call 160; refine (HA.out _).mono ?_; rintro e w' ⟨rfl, rfl⟩)
  generalize ((w.alloc (.cells #[.int .i64 n] 3)).alloc (.cells #[.int .i64 0, .slice none 0 0] 30)) = W2 at *
  exact bodyPost_ret (v := .tuple #[.agg #[.int .i64 0, .slice none 0 0], .bool false]) (by simp [results, Try.results77, go_sem, q0, q1]) rfl ⟨_, [], rfl, OwnR.nil _ _ _, hb2⟩
set_option maxHeartbeats 2000000 in
theorem ShortestNetwork_yes (n : Nat) (w : World) (h1 : 1 ≤ n) (h4 : n ≤ 4) (l : List (List Int)) (hl : visit n (seeFst n) (leastP n) (upI 0 (2 ^ n)) [] [] = (l, true)) : Calls Try.prog 77 #[.int .i64 n] w (NetC w n l true) := by
  have HA : Hid (∀ w, Calls Try.prog 160 #[.int .i64 n] w fun e w' => e = .returned (.bool true) ∧ w = w') := fun w => by
    have := isFew_c n w
    rwa [inB_mk (by omega)] at this
  have HV := Lib.hid hl
  have hp5 := leastP_le n
  have HLP := Lib.hid (LeastPairs_4 n h1 h4)
  obtain ⟨p, hp⟩ : ∃ p, p = leastP n := ⟨_, rfl⟩
  rw [← hp] at HV hp5 HLP
  clear hl hp
  go_enter Try.func77, Try.ntmps77
  go_upto_region 4 with (go_at_call 160; refine (HA.out _).mono ?_; rintro e w' ⟨rfl, rfl⟩)
  have c0 : (((w.alloc (.cells #[.int .i64 n] 3)).alloc (.cells #[.int .i64 0, .slice none 0 0] 30)).alloc (.cells #[.int .i64 n, .slice none 0 0] 30)).heap[w.heap.size]? = some (.cells #[.int .i64 n] 3 (0, 0)) := blk_old (blk_old (blk_new w _) _) _
  have c1 : (((w.alloc (.cells #[.int .i64 n] 3)).alloc (.cells #[.int .i64 0, .slice none 0 0] 30)).alloc (.cells #[.int .i64 n, .slice none 0 0] 30)).heap[w.heap.size + 1]? = some (.cells #[.int .i64 0, .slice none 0 0] 30 (0, 0)) := by
    have := blk_new (w.alloc (.cells #[.int .i64 n] 3)) (.cells #[.int .i64 0, .slice none 0 0] 30)
    rw [show (w.alloc (.cells #[.int .i64 n] 3)).heap.size = w.heap.size + 1 from by simp] at this
    exact blk_old this _
  have c2 : (((w.alloc (.cells #[.int .i64 n] 3)).alloc (.cells #[.int .i64 0, .slice none 0 0] 30)).alloc (.cells #[.int .i64 n, .slice none 0 0] 30)).heap[w.heap.size + 2]? = some (.cells #[.int .i64 n, .slice none 0 0] 30 (0, 0)) := by
    have := blk_new ((w.alloc (.cells #[.int .i64 n] 3)).alloc (.cells #[.int .i64 0, .slice none 0 0] 30)) (.cells #[.int .i64 n, .slice none 0 0] 30)
    rwa [show ((w.alloc (.cells #[.int .i64 n] 3)).alloc (.cells #[.int .i64 0, .slice none 0 0] 30)).heap.size = w.heap.size + 2 from by simp] at this
  have hb2 : Below w.heap.size w (((w.alloc (.cells #[.int .i64 n] 3)).alloc (.cells #[.int .i64 0, .slice none 0 0] 30)).alloc (.cells #[.int .i64 n, .slice none 0 0] 30)) := (((Below.refl _ _).alloc (Nat.le_refl _) _).alloc (by simp) _).alloc (by simp; omega) _
  have hz2 : (((w.alloc (.cells #[.int .i64 n] 3)).alloc (.cells #[.int .i64 0, .slice none 0 0] 30)).alloc (.cells #[.int .i64 n, .slice none 0 0] 30)).heap.size = w.heap.size + 3 := by simp
  generalize (((w.alloc (.cells #[.int .i64 n] 3)).alloc (.cells #[.int .i64 0, .slice none 0 0] 30)).alloc (.cells #[.int .i64 n, .slice none 0 0] 30)) = W2 at *
  have HB2 := Lib.hid hb2
  have d0 := blk_cell c0 0
  have HLPd := Lib.hid (HLP.out W2.drew)
  have HAM : Hid (∀ w3, Below W2.heap.size W2 w3 → Calls Try.prog 156 #[.int .i64 n] w3 fun e w' => ∃ v, e = .returned v ∧ OwnI w' W2.heap.size w'.heap.size v (upI 0 (2 ^ n)) ∧ Below W2.heap.size W2 w') := by
    intro w3 hb3
    have hz3 := hb3.size
    refine (allMasks_c n w3 (by omega)).mono ?_
    rintro e w' ⟨v, rfl, o, b⟩
    exact ⟨v, rfl, Own.mono o hz3 (Nat.le_refl _), hb3.trans (b.mono hz3)⟩
  have hd2 : Below W2.heap.size W2 W2.drew := (Below.refl _ _).drew
  have HC0 := Lib.hid c0
  have HC1 := Lib.hid c1
  have HC2 := Lib.hid c2
  have HSL : Hid (∀ (w3 : World) (v3 : Value), Below W2.heap.size W2 w3 → OwnI w3 W2.heap.size w3.heap.size v3 (upI 0 (2 ^ n)) →
      Calls Try.prog 155 #[.int .i64 n, .int .i64 p, v3, .slice none 0 0, .func (.func 162) #[] #[.pointer (some ⟨w.heap.size + 2, 0, none⟩), .pointer (some ⟨w.heap.size, 0, none⟩)]] w3
        fun e w' => e = .returned (.bool true) ∧ w'.cell? ⟨w.heap.size, 0, none⟩ = some (.int .i64 n) ∧ w'.heap[w.heap.size + 1]? = some (.cells #[.int .i64 0, .slice none 0 0] 30 (0, 0)) ∧ (∃ ao L cap vs, w'.heap[w.heap.size + 2]? = some (.cells #[.int .i64 n, .slice ao L cap] 30 (0, 0)) ∧ OwnR w' W2.heap.size w'.heap.size (.slice ao L cap) vs l) ∧ Below w.heap.size w w') := by
    intro w3 v3 hb3 ho3
    have hz3 := hb3.size
    refine (standardLists_c n (by omega) (seeFst n) 162 (w.heap.size + 2) w.heap.size W2.heap.size (FndI n (w.heap.size + 2) w.heap.size W2.heap.size) (fnd_see n _ _ _ (by omega)) p hp5 (upI 0 (2 ^ n)) (fun m => Nat.testBit (2 ^ 2 ^ n - 1) m) [] [] (fun k => k = w.heap.size + 2) w3 v3 (.slice none 0 0) [] W2.heap.size w3.heap.size
      (show upI 0 (2 ^ n) = setI n (fun m => Nat.testBit (2 ^ 2 ^ n - 1) m) from upI_setB n) (by rw [upI_length]; exact Nat.pow_pos (by omega))
      ⟨fun k => Iff.rfl, (hb3.cell (p := ⟨w.heap.size, 0, none⟩) (by show w.heap.size < _; omega)).trans (blk_cell HC0.out 0), by omega, by omega, by omega, _, [], (hb3.block (w.heap.size + 2) (by omega)).trans HC2.out, OwnZ.nil _ _⟩ (OwnZ.nil _ _) (by simpa using hp5) ho3.ints (Nat.le_refl _) (fun k h1 _ h => by have h' : k = w.heap.size + 2 := h; omega) (by omega)).mono ?_
    rintro e w' ⟨rfl, X', hI, hK⟩
    rw [HV.out] at hI ⊢
    obtain ⟨-, q1, -, -, -, v, vs, q2, q3⟩ := hI
    obtain ⟨ao, g, cap, e, -, -, -⟩ := q3.own.rows
    subst e
    exact ⟨rfl, q1, (hK.block (w.heap.size + 1) (by omega) (fun h => by have h' : w.heap.size + 1 = w.heap.size + 2 := h; omega)).trans ((hb3.block (w.heap.size + 1) (by omega)).trans HC1.out), ⟨_, _, _, vs, q2, q3.ownR fun _ h => h⟩, (HB2.out.trans (hb3.mono (by omega))).trans (hK.below (by omega) fun k hk h => by have h' : k = w.heap.size + 2 := h; omega)⟩
  clear c0 c1 c2 hb2
  go_region_held3 (fun W' => W'.cell? ⟨w.heap.size, 0, none⟩ = some (.int .i64 n)) (first | exact d3 | exact d2 | exact d1 | exact d0 | fail) (first | (go_at_call 161; (with_reducible refine HLPd.out.mono ?_); rintro e w3 ⟨rfl, b3⟩; have B3 : Hid (Below W2.heap.size W2 w3) := hd2.trans b3; have d1 := (B3.out.cell (p := ⟨w.heap.size, 0, none⟩) (by show w.heap.size < W2.heap.size; omega)).trans d0; clear b3) | (go_at_call 156; (with_reducible refine (HAM.out w3 B3.out).mono ?_); rintro e w4 ⟨v4, rfl, o4, b4⟩; have O4 := Lib.hid o4; have B4 := Lib.hid b4; have d2 := (b4.cell (p := ⟨w.heap.size, 0, none⟩) (by show w.heap.size < W2.heap.size; omega)).trans d0; clear o4 b4) | (go_at_call 155; (with_reducible refine (HSL.out w4 v4 B4.out O4.out).mono ?_); rintro e w5 ⟨rfl, d3, r5, ⟨ao5, L5, cap5, vs5, n5, o5⟩, b5⟩; have B5 := Lib.hid b5; have O5 := Lib.hid o5; have R5 := Lib.hid r5; have N5 := Lib.hid n5; clear b5 o5) | fail)
  all_goals
    have e0 := blk_cell N5.out 0
    have e1 := blk_cell N5.out 1
    have r0 := blk_cell R5.out 0
    have r1 := blk_cell R5.out 1
    have y0 := blk_free R5.out 0
    have y1 := blk_free R5.out 1
    have hz5 := lt_of_block N5.out
    have HFN : Hid (NetC w n l true (.returned (.tuple #[.agg #[.int .i64 n, .slice ao5 L5 cap5], .bool true])) ((w5.setCell ⟨w.heap.size + 1, 0, none⟩ (.int .i64 n)).setCell ⟨w.heap.size + 1, 1, none⟩ (.slice ao5 L5 cap5))) := by
      refine ⟨_, vs5, rfl, ?_, (B5.out.setCell (by show w.heap.size ≤ w.heap.size + 1; omega) _).setCell (by show w.heap.size ≤ w.heap.size + 1; omega) _⟩
      exact (O5.out.kept fun k h1 _ _ => by rw [Below.heap_setCell _ _ _ _ (by show k ≠ w.heap.size + 1; omega), Below.heap_setCell _ _ _ _ (by show k ≠ w.heap.size + 1; omega)]).mono (by omega) (by simp [World.setCell])
    have z0 := blk_cell (box_set1 (y := .slice ao5 L5 cap5) (box_set0 (y := .int .i64 n) R5.out)) 0
    have z1 := blk_cell (box_set1 (y := .slice ao5 L5 cap5) (box_set0 (y := .int .i64 n) R5.out)) 1
    clear R5 N5 r5 n5
    go_wp2
    exact bodyPost_ret (v := .tuple #[.agg #[.int .i64 n, .slice ao5 L5 cap5], .bool true]) (by simp [results, Try.results77, go_sem, z0, z1]) rfl HFN.out
theorem ShortestNetwork_s_no (n : Int) (w : World) (hb : inB n 1 4 = false) : Calls Try.prog 76 #[.int .i64 n] w (NetC w 0 [] false) := by
  have q := blk_new w (.cells #[.int .i64 0, .slice none 0 0] 30)
  have q0 := blk_cell q 0
  have q1 := blk_cell q 1
  have hb2 : Below w.heap.size w (w.alloc (.cells #[.int .i64 0, .slice none 0 0] 30)) := (Below.refl _ _).alloc (Nat.le_refl _) _
  go_enter Try.func76, Try.ntmps76
  go_wp2_with (go_at_call 150; refine (l12N_c _ _).mono ?_; rw [hb]; rintro e w' ⟨rfl, rfl⟩)
  generalize (w.alloc (.cells #[.int .i64 0, .slice none 0 0] 30)) = W2 at *
  exact bodyPost_ret (v := .tuple #[.agg #[.int .i64 0, .slice none 0 0], .bool false]) (by simp [results, Try.results76, go_sem, q0, q1]) rfl ⟨_, [], rfl, OwnR.nil _ _ _, hb2⟩
set_option maxHeartbeats 2000000 in
theorem ShortestNetwork_s_yes (n : Nat) (w : World) (h1 : 1 ≤ n) (h4 : n ≤ 4) (l : List (List Int)) (hl : fstL n (leastP n) (upI 0 (2 ^ n)) = (l, true)) : Calls Try.prog 76 #[.int .i64 n] w (NetC w n l true) := by
  have hb : inB (n : Int) 1 4 = true := inB_mk (by omega)
  have h256 := pow_le_256 n (by omega)
  have hp0 : 0 < 2 ^ n := Nat.pow_pos (by omega)
  have hp5 := leastP_le n
  have HMS : Hid (masksP n (upI 0 (2 ^ n))) := by show masksP _ _; rw [upI_setB]; exact setI_masks n _
  have HL : Hid ((upI 0 (2 ^ n)).length = 2 ^ n) := upI_length _ _
  have HLP := Lib.hid (LeastPairs_s4 n h1 h4)
  have HM : Hid (∀ w, Calls Try.prog 153 #[.int .i64 n] w (IntC w (upI 0 (2 ^ n)))) := fun w => l04Masks_c n w (by omega)
  have HF : Hid (∀ (v : Value) (lo hi : Nat) (w : World), IntsV w lo hi v (upI 0 (2 ^ n)) → hi ≤ w.heap.size → Calls Try.prog 158 #[.int .i64 n, .int .i64 (leastP n : Nat), v] w (FirstC w (l, true))) := fun v lo hi w a b => by
    rw [← hl]
    exact l12First_c n (by omega) (leastP n) hp5 (upI 0 (2 ^ n)) v lo hi w a b HMS.out (by rw [HL.out]; exact hp0) (by rw [HL.out]; exact h256)
  obtain ⟨p, hp⟩ : ∃ p, p = leastP n := ⟨_, rfl⟩
  obtain ⟨S, hS⟩ : ∃ S, S = upI 0 (2 ^ n) := ⟨_, rfl⟩
  rw [← hp] at HLP HF
  rw [← hS] at HM HF
  clear hl hp hS HMS HL
  have q := blk_new w (.cells #[.int .i64 0, .slice none 0 0] 30)
  have hb2 : Below w.heap.size w (w.alloc (.cells #[.int .i64 0, .slice none 0 0] 30)) := (Below.refl _ _).alloc (Nat.le_refl _) _
  have hz2 : (w.alloc (.cells #[.int .i64 0, .slice none 0 0] 30)).heap.size = w.heap.size + 1 := by simp
  go_enter Try.func76, Try.ntmps76
  go_wp2_with (go_at_call 150; refine (l12N_c _ _).mono ?_; rw [hb]; rintro e w' ⟨rfl, rfl⟩)
  generalize (w.alloc (.cells #[.int .i64 0, .slice none 0 0] 30)) = W2 at *
  refine (HLP.out W2).mono ?_
  rintro e w3 ⟨rfl, b3⟩
  have hz3 := b3.size
  have HB3 := Lib.hid (hb2.trans (b3.mono (by omega)))
  have HQ3 := Lib.hid ((b3.block w.heap.size (by omega)).trans q)
  clear b3 q hb2
  go_wp2_with fail
  refine (HM.out w3).mono ?_
  rintro e w4 ⟨v4, rfl, o4, b4⟩
  have hz4 := b4.size
  have HB4 := Lib.hid (HB3.out.trans (b4.mono HB3.out.size))
  have HQ4 := Lib.hid ((b4.block w.heap.size (by omega)).trans HQ3.out)
  have HF4 := Lib.hid (HF.out v4 _ _ w4 o4.ints (Nat.le_refl _))
  clear b4 o4
  go_wp2_with fail
  refine HF4.out.mono ?_
  rintro e w5 ⟨ao5, L5, cap5, vs5, rfl, o5, b5⟩
  have hz5 := b5.size
  have HB5 := Lib.hid (HB4.out.trans (b5.mono HB4.out.size))
  have r5 := (b5.block w.heap.size (by omega)).trans HQ4.out
  have r0 := blk_cell r5 0
  have r1 := blk_cell r5 1
  have y0 := blk_free r5 0
  have y1 := blk_free r5 1
  have HFN : Hid (NetC w n l true (.returned (.tuple #[.agg #[.int .i64 n, .slice ao5 L5 cap5], .bool true])) ((w5.setCell ⟨w.heap.size, 0, none⟩ (.int .i64 n)).setCell ⟨w.heap.size, 1, none⟩ (.slice ao5 L5 cap5))) := by
    refine ⟨_, vs5, rfl, ?_, (HB5.out.setCell (Nat.le_refl _) _).setCell (Nat.le_refl _) _⟩
    exact (o5.kept fun k h1 _ _ => by rw [Below.heap_setCell _ _ _ _ (by show k ≠ w.heap.size; omega), Below.heap_setCell _ _ _ _ (by show k ≠ w.heap.size; omega)]).mono (by omega) (by simp [World.setCell])
  have z0 := blk_cell (box_set1 (y := .slice ao5 L5 cap5) (box_set0 (y := .int .i64 n) r5)) 0
  have z1 := blk_cell (box_set1 (y := .slice ao5 L5 cap5) (box_set0 (y := .int .i64 n) r5)) 1
  clear r5 o5 b5
  go_wp2
  exact bodyPost_ret (v := .tuple #[.agg #[.int .i64 n, .slice ao5 L5 cap5], .bool true]) (by simp [results, Try.results76, go_sem, z0, z1]) rfl HFN.out
theorem fnExactShortestNetwork_walk (a0 : Int) (_w0 : (Lit.int .i64 a0).wf = true) (w : World) :
    Calls Try.prog 10 #[.int .i64 a0] w fun e w' => e = .returned (.bool true) ∧ Below w.heap.size w w' := by
  cases hb : inB a0 1 4
  · exact FnExactShortestNetwork_core a0 w 0 [] false (smallR_pairs (by simp) (by simp)) (fun w => ShortestNetwork_s_no a0 w hb) fun w => ShortestNetwork_no a0 w hb
  · have q1 := inB_of hb
    obtain ⟨n, rfl⟩ : ∃ n : Nat, a0 = n := ⟨a0.toNat, by omega⟩
    obtain ⟨l, h1, h2, h3⟩ := find_same (n := n) (by omega) (by omega)
    have hll : l.length ≤ 5 := by
      have := fstL_len n (leastP n) (upI 0 (2 ^ n))
      rw [h2] at this
      have := leastP_le n
      simp at *
      omega
    refine FnExactShortestNetwork_core n w n l true (smallR_pairs (by omega) fun r hr => ?_) (fun w => ShortestNetwork_s_yes n w (by omega) (by omega) l h2) fun w => ShortestNetwork_yes n w (by omega) (by omega) l h1
    have hm := h3 r hr
    obtain ⟨j, hj, rfl⟩ := List.getElem_of_mem hm
    obtain ⟨a, b, e, -, -⟩ := prs_pair hj
    simp [List.getD, hj] at e
    simp [e]
end Go.Proofs.Ytiodolbgapjmkaa
