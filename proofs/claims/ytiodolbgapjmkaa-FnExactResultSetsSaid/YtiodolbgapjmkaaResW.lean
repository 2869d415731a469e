/- The program's and the reference's number of different results, and the law. Conditions: none. -/
import Derived.Test.YtiodolbgapjmkaaCountI
import Derived.Test.YtiodolbgapjmkaaResC
import Derived.Test.YtiodolbgapjmkaaSetsC
import Derived.Test.YtiodolbgapjmkaaSortFn
namespace Go.Proofs.Ytiodolbgapjmkaa
open Go.RowKit Go.Sort Go.Maps
set_option maxRecDepth 100000
set_option linter.unusedVariables false
set_option linter.unusedSimpArgs false

/-- How many, and memory below as it was. -/
def LenC (w : World) (m : Nat) (e : Ending) (w' : World) : Prop := ∃ ao cap, e = .returned (.slice ao m cap) ∧ Below w.heap.size w w'
set_option maxHeartbeats 4000000 in
theorem resultSets_c (n p : Nat) (w : World) (h1 : 1 ≤ n) (h4 : n ≤ 4) (hp : p ≤ 5) : Calls Try.prog 167 #[.int .i64 n, .int .i64 p] w (LenC w (visit n seeSet p (upI 0 (2 ^ n)) [] []).1.length) := by
  have HV := Lib.hid (visit_set n p (upI 0 (2 ^ n)) [] [])
  obtain ⟨RS, hRS⟩ : ∃ R, R = (visit n seeSet p (upI 0 (2 ^ n)) [] []).1 := ⟨_, rfl⟩
  have HRS := Lib.hid hRS
  obtain ⟨M, hM⟩ : ∃ M, M = RS.length := ⟨_, rfl⟩
  have HM := Lib.hid hM
  rw [← hRS, ← hM]
  clear hRS hM
  have hmm := @run_makeMap Try.prog
  go_enter Try.func167, Try.ntmps167
  go_upto_region 3 with fail
  obtain ⟨W4, hW4⟩ : ∃ W, W = ((((w.alloc (.cells #[] 22)).alloc (.cells #[.slice (some ⟨w.heap.size, 0, none⟩) 0 0] 28)).alloc (.map #[] 0)).alloc (.cells #[.map (some (w.heap.size + 1 + 1))] 118)) := ⟨_, rfl⟩
  have hz4 : W4.heap.size = w.heap.size + 4 := by rw [hW4]; simp
  have HB4 : Hid (Below w.heap.size w W4) := by
    show Below _ _ _
    rw [hW4]
    exact ((((Below.refl _ _).alloc (Nat.le_refl _) _).alloc (by simp) _).alloc (by simp; omega) _).alloc (by simp; omega) _
  have HR4 : Hid (ResI n (w.heap.size + 1 + 1 + 1) (w.heap.size + 1) W4 [] (fun k => k = w.heap.size + 1 + 1 + 1 ∨ k = w.heap.size + 1 ∨ k = w.heap.size + 1 + 1 ∨ (Value.slice (some ⟨w.heap.size, 0, none⟩) 0 0).ownBlock = some k)) := by
    show ResI _ _ _ _ _ _
    have q0 := blk_new w (.cells #[] 22)
    have q1 := blk_new (w.alloc (.cells #[] 22)) (.cells #[.slice (some ⟨w.heap.size, 0, none⟩) 0 0] 28)
    rw [show (w.alloc (.cells #[] 22)).heap.size = w.heap.size + 1 from by simp] at q1
    have q3 := blk_new (((w.alloc (.cells #[] 22)).alloc (.cells #[.slice (some ⟨w.heap.size, 0, none⟩) 0 0] 28)).alloc (.map #[] 0)) (.cells #[.map (some (w.heap.size + 1 + 1))] 118)
    rw [show (((w.alloc (.cells #[] 22)).alloc (.cells #[.slice (some ⟨w.heap.size, 0, none⟩) 0 0] 28)).alloc (.map #[] 0)).heap.size = w.heap.size + 1 + 1 + 1 from by simp] at q3
    have q2 := World.ownsMap_made (H := Unit) ((w.alloc (.cells #[] 22)).alloc (.cells #[.slice (some ⟨w.heap.size, 0, none⟩) 0 0] 28)) Try.prog 3 (plainElem Try.prog 4)
    rw [show ((w.alloc (.cells #[] 22)).alloc (.cells #[.slice (some ⟨w.heap.size, 0, none⟩) 0 0] 28)).heap.size = w.heap.size + 1 + 1 from by simp] at q2
    have t0 := Own.mono (Own.alloc (Own.alloc (Own.alloc (own_emptyS w) (.cells #[.slice (some ⟨w.heap.size, 0, none⟩) 0 0] 28)) (.map #[] 0)) (.cells #[.map (some (w.heap.size + 1 + 1))] 118)) (Nat.zero_le _) (show w.heap.size + 1 ≤ W4.heap.size by omega)
    rw [← hW4] at q3 t0
    refine ⟨w.heap.size + 1 + 1, .map [], .slice (some ⟨w.heap.size, 0, none⟩) 0 0, [], fun k => Iff.rfl, by omega, by omega, by omega, by simp [Value.ownBlock]; omega, by simp [Value.ownBlock], by simp [Value.ownBlock]; omega, ⟨_, rfl⟩, q3, ?_, ?_, SeenI.start n, t0, rfl, fun i u xs a b => by simp at a, by simp, by simp⟩
    · rw [hW4]
      exact blk_old (blk_old q1 _) _
    · rw [hW4]
      exact q2.alloc _
  have HW4 := Lib.hid hW4
  rw [← hW4]
  clear hW4
  have HAM := Lib.hid (allMasks_c n W4 (by omega))
  have HSL : Hid (∀ (w3 : World) (v3 : Value), Below W4.heap.size W4 w3 → OwnI w3 W4.heap.size w3.heap.size v3 (upI 0 (2 ^ n)) →
      Calls Try.prog 155 #[.int .i64 n, .int .i64 p, v3, .slice none 0 0, .func (.func 194) #[] #[.pointer (some ⟨w.heap.size + 1 + 1 + 1, 0, none⟩), .pointer (some ⟨w.heap.size + 1, 0, none⟩)]] w3
        fun e w' => e = .returned (.bool false) ∧ ∃ v vs X' bm D, ResS n (w.heap.size + 1 + 1 + 1) (w.heap.size + 1) w' RS X' bm D v vs ∧ (∀ k, X' k → w.heap.size ≤ k) ∧ Below w.heap.size w w') := by
    intro w3 v3 hb3 ho3
    have hz3 := hb3.size
    have H := res_see n (w.heap.size + 1 + 1 + 1) (w.heap.size + 1) W4.heap.size h4
    refine (standardLists_c n (by omega) seeSet 194 (w.heap.size + 1 + 1 + 1) (w.heap.size + 1) W4.heap.size (ResI n (w.heap.size + 1 + 1 + 1) (w.heap.size + 1)) H p hp (upI 0 (2 ^ n)) (fun m => Nat.testBit (2 ^ 2 ^ n - 1) m) [] [] _ w3 v3 (.slice none 0 0) [] W4.heap.size w3.heap.size
      (show upI 0 (2 ^ n) = setI n (fun m => Nat.testBit (2 ^ 2 ^ n - 1) m) from upI_setB n) (by rw [upI_length]; exact Nat.pow_pos (by omega)) (H.keep _ _ _ _ HR4.out hb3) (OwnZ.nil _ _) (by simpa using hp) ho3.ints (Nat.le_refl _) (fun k h1 _ h => by have := H.bound _ _ _ HR4.out k h; omega) hz3).mono ?_
    rintro e w' ⟨rfl, X', hI, hK⟩
    rw [HV.out.1]
    rw [← HRS.out] at hI
    obtain ⟨bm, D, v, vs, hS⟩ := hI
    have hge : ∀ k, k = w.heap.size + 1 + 1 + 1 ∨ k = w.heap.size + 1 ∨ k = w.heap.size + 1 + 1 ∨ (Value.slice (some ⟨w.heap.size, 0, none⟩) 0 0).ownBlock = some k → w.heap.size ≤ k := by
      intro k hk
      rcases hk with h | h | h | h
      · omega
      · omega
      · omega
      · simp [Value.ownBlock] at h; omega
    refine ⟨rfl, v, vs, X', bm, D, hS, fun k hk => ?_, (HB4.out.trans (hb3.mono (by omega))).trans (hK.below (by omega) fun k hk h => by have := hge k h; omega)⟩
    rcases hK.grow k hk with h | h
    · exact hge k h
    · omega
  have HSORT : Hid (∀ (w' : World) (v : Value) (vs : List Value) (X' : Nat → Prop) (bm : Nat) (D : DataW Unit), ResS n (w.heap.size + 1 + 1 + 1) (w.heap.size + 1) w' RS X' bm D v vs →
      Calls Try.prog 195 #[v, .func (.func 196) #[] #[]] w' fun e w'' => e = .returned (.tuple #[]) ∧ SortL v w' w'') := by
    intro w' v vs X' bm D hS
    refine SortFn_c hS.top hS.len (fun i u xs a b => ?_) (fun r hr => ?_) (Nat.le_trans (sets_le h4 hS.nodup hS.sets) (by omega)) hS.some_
    · obtain ⟨l, h, q1, q2, q3⟩ := hS.rows i u xs a b
      exact ⟨l, h, q1, q2, fun k h1 h2 e => q3 k h1 h2 ((hS.own k).2 (.inr (.inr (.inr e))))⟩
    · obtain ⟨P, rfl⟩ := hS.sets r hr
      exact Nat.le_trans (setI_len n P) (Nat.le_trans (pow_le_256 n (by omega)) (by omega))
  go_wp2_with ((with_reducible refine HAM.out.mono ?_); rintro e w3 ⟨v3, rfl, o3, b3⟩; have O3 := Lib.hid o3; have B3 := Lib.hid b3; clear o3 b3)
  refine (HSL.out w3 v3 B3.out O3.out).mono ?_
  rintro e w5 ⟨rfl, v, vs, X', bm, D, hS, hX, b5⟩
  have HS := Lib.hid hS
  have c5 := blk_cell hS.box2 0
  have SRT := Lib.hid (HSORT.out w5 v vs X' bm D hS)
  obtain ⟨ao, g, cap, ev, -, -, -⟩ := hS.top.view
  rw [hS.len, ← HM.out] at ev
  have HFIN : Hid (∀ w6, SortL v w5 w6 → w6.cell? ⟨w.heap.size + 1, 0, none⟩ = some v ∧ Below w.heap.size w w6) := fun w6 h6 => by
    refine ⟨blk_cell ((h6.block _ (lt_of_block HS.out.box2) HS.out.out2).trans HS.out.box2) 0, ⟨h6.os.trans b5.os, h6.tape.trans b5.tape, h6.output.trans b5.output, Nat.le_trans b5.size h6.size, fun k hk => ?_⟩⟩
    refine (h6.block k (by have := b5.size; omega) (fun e => ?_)).trans (b5.block k hk)
    have := hX k ((HS.out.own k).2 (.inr (.inr (.inr e))))
    omega
  subst ev
  clear hS b5
  go_wp2_with fail
  refine SRT.out.mono ?_
  rintro e w6 ⟨rfl, s6⟩
  obtain ⟨c6, b6⟩ := HFIN.out w6 s6
  have B6 := Lib.hid b6
  clear s6 b6
  go_wp2
  go_ret
  exact ⟨ao, cap, rfl, B6.out⟩
theorem ResultSets_no (n p : Int) (w : World) (hb : (inB n 1 4 && inB p 0 5) = false) : Calls Try.prog 82 #[.int .i64 n, .int .i64 p] w fun e w' => e = .returned (.int .i64 (-1)) ∧ Below w.heap.size w w' := by
  have HA : Hid (∀ w, Calls Try.prog 154 #[.int .i64 n, .int .i64 p] w fun e w' => e = .returned (.bool false) ∧ w = w') := fun w => by have := areCounted_c n p w; rwa [hb] at this
  go_enter Try.func82, Try.ntmps82
  go_wp2_with (go_at_call 154; refine (HA.out _).mono ?_; rintro e w' ⟨rfl, rfl⟩)
  go_ret
  exact ⟨rfl, Below.refl _ _⟩
theorem ResultSets_yes (n p : Nat) (w : World) (h1 : 1 ≤ n) (h4 : n ≤ 4) (hp : p ≤ 5) : Calls Try.prog 82 #[.int .i64 n, .int .i64 p] w fun e w' => e = .returned (.int .i64 ((visit n seeSet p (upI 0 (2 ^ n)) [] []).1.length : Nat)) ∧ Below w.heap.size w w' := by
  have HA : Hid (∀ w, Calls Try.prog 154 #[.int .i64 n, .int .i64 p] w fun e w' => e = .returned (.bool true) ∧ w = w') := fun w => by
    have := areCounted_c n p w
    rwa [inB_mk (by omega), inB_mk (by omega)] at this
  have HC := Lib.hid (resultSets_c n p w h1 h4 hp)
  obtain ⟨M, hM⟩ : ∃ M, M = (visit n seeSet p (upI 0 (2 ^ n)) [] []).1.length := ⟨_, rfl⟩
  rw [← hM] at HC ⊢
  clear hM
  go_enter Try.func82, Try.ntmps82
  go_wp2_with (first | (go_at_call 154; refine (HA.out _).mono ?_; rintro e w' ⟨rfl, rfl⟩) | ((with_reducible refine HC.out.mono ?_); rintro e w2 ⟨ao, cap, rfl, b2⟩; have B2 := Lib.hid b2; clear b2))
  go_ret
  exact ⟨rfl, B2.out⟩
theorem ResultSets_s_no (n p : Int) (w : World) (hb : (inB n 1 4 && inB p 0 5) = false) : Calls Try.prog 81 #[.int .i64 n, .int .i64 p] w fun e w' => e = .returned (.int .i64 (-1)) ∧ Below w.heap.size w w' := by
  cases hn : inB n 1 4
  · go_enter Try.func81, Try.ntmps81
    go_wp2_with (go_at_call 150; refine (l12N_c _ _).mono ?_; rw [hn]; rintro e w' ⟨rfl, rfl⟩)
    go_ret
    exact ⟨rfl, Below.refl _ _⟩
  · rw [hn, Bool.true_and] at hb
    go_enter Try.func81, Try.ntmps81
    go_wp2_with (first | (go_at_call 150; refine (l12N_c _ _).mono ?_; rw [hn]; rintro e w' ⟨rfl, rfl⟩) | (go_at_call 151; refine (l01In_c _ _ _ _).mono ?_; rw [hb]; rintro e w' ⟨rfl, rfl⟩))
    go_ret
    exact ⟨rfl, Below.refl _ _⟩
/-- Two lists of what is reached, each set once, are equally long. -/
theorem reach_len {n p : Nat} {now : List (List Int)} (h : ReachI n p (upI 0 (2 ^ n)) now) : now.length = (visit n seeSet p (upI 0 (2 ^ n)) [] []).1.length := by
  obtain ⟨-, h2, h3⟩ := visit_set n p (upI 0 (2 ^ n)) [] []
  refine nodup_same h.nodup (h2 List.nodup_nil) fun x => ?_
  rw [h.mem, h3]
  simp
theorem ResultSets_s_yes (n p : Nat) (w : World) (h1 : 1 ≤ n) (h4 : n ≤ 4) (hp : p ≤ 5) : Calls Try.prog 81 #[.int .i64 n, .int .i64 p] w fun e w' => e = .returned (.int .i64 ((visit n seeSet p (upI 0 (2 ^ n)) [] []).1.length : Nat)) ∧ Below w.heap.size w w' := by
  have hb1 : inB (n : Int) 1 4 = true := inB_mk (by omega)
  have hb2 : inB (p : Int) 0 5 = true := inB_mk (by omega)
  have HC : Hid (Calls Try.prog 166 #[.int .i64 n, .int .i64 p] w (LenC w (visit n seeSet p (upI 0 (2 ^ n)) [] []).1.length)) := by
    refine (l12Sets_c n p h1 h4 hp w).mono ?_
    rintro e w' ⟨v, vs, now, rfl, hs, hr, hb⟩
    obtain ⟨ao, g, cap, ev, -, -, -⟩ := hs.view
    rw [reach_len hr] at ev
    exact ⟨ao, cap, by rw [ev], hb⟩
  obtain ⟨M, hM⟩ : ∃ M, M = (visit n seeSet p (upI 0 (2 ^ n)) [] []).1.length := ⟨_, rfl⟩
  rw [← hM] at HC ⊢
  clear hM
  go_enter Try.func81, Try.ntmps81
  go_wp2_with (first | (go_at_call 150; refine (l12N_c _ _).mono ?_; rw [hb1]; rintro e w' ⟨rfl, rfl⟩) | (go_at_call 151; refine (l01In_c _ _ _ _).mono ?_; rw [hb2]; rintro e w' ⟨rfl, rfl⟩) | ((with_reducible refine HC.out.mono ?_); rintro e w2 ⟨ao, cap, rfl, b2⟩; have B2 := Lib.hid b2; clear b2))
  go_ret
  exact ⟨rfl, B2.out⟩
theorem fnExactResultSets_walk (a0 : Int) (_w0 : (Lit.int .i64 a0).wf = true) (a1 : Int) (_w1 : (Lit.int .i64 a1).wf = true) (w : World) :
    Calls Try.prog 11 #[.int .i64 a0, .int .i64 a1] w fun e w' => e = .returned (.bool true) ∧ Below w.heap.size w w' := by
  have key : ∃ R : Int, (∀ w, Calls Try.prog 82 #[.int .i64 a0, .int .i64 a1] w fun e w' => e = .returned (.int .i64 R) ∧ Below w.heap.size w w') ∧ (∀ w, Calls Try.prog 81 #[.int .i64 a0, .int .i64 a1] w fun e w' => e = .returned (.int .i64 R) ∧ Below w.heap.size w w') := by
    cases hb : inB a0 1 4 && inB a1 0 5
    · exact ⟨-1, fun w => ResultSets_no a0 a1 w hb, fun w => ResultSets_s_no a0 a1 w hb⟩
    · rw [Bool.and_eq_true] at hb
      have q1 := inB_of hb.1
      have q2 := inB_of hb.2
      obtain ⟨n, rfl⟩ : ∃ n : Nat, a0 = n := ⟨a0.toNat, by omega⟩
      obtain ⟨p, rfl⟩ : ∃ p : Nat, a1 = p := ⟨a1.toNat, by omega⟩
      exact ⟨_, fun w => ResultSets_yes n p w (by omega) (by omega) (by omega), fun w => ResultSets_s_yes n p w (by omega) (by omega) (by omega)⟩
  obtain ⟨R, hi, hs⟩ := key
  have HI := Lib.hid hi
  have HS := Lib.hid hs
  clear hi hs
  go_enter Try.func11, Try.ntmps11
  go_wp2_with fail
  refine (HS.out w).mono ?_
  rintro e w1 ⟨rfl, b1⟩
  have B1 := Lib.hid b1
  clear b1
  go_wp2_with fail
  refine (HI.out w1).mono ?_
  rintro e w2 ⟨rfl, b2⟩
  have B2 : Hid (Below w.heap.size w w2) := B1.out.trans (b2.mono B1.out.size)
  clear b2
  go_wp2
  go_ret
  exact ⟨rfl, B2.out⟩
end Go.Proofs.Ytiodolbgapjmkaa
