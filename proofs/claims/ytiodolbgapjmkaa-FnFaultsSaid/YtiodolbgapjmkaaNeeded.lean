/- A network without a comparator, by the program, and whether a comparator is needed. Conditions: the network is valid, the comparator is one of its own. -/
import Derived.Test.YtiodolbgapjmkaaDel
import Derived.Test.YtiodolbgapjmkaaIsSorting
namespace Go.Proofs.Ytiodolbgapjmkaa
open Go.RowKit
set_option maxRecDepth 100000
set_option linter.unusedVariables false
set_option linter.unusedSimpArgs false

set_option maxHeartbeats 2000000 in
theorem DropPair_yes (n : Nat) (lo hi : Nat) (v : Value) (vs : List Value) (xss : List (List Int)) (w : World) (hv : OwnR w lo hi v vs xss) (hhi : hi ≤ w.heap.size) (hok : netOk n xss = true) (idx : Nat) (hidx : idx < xss.length) :
    Calls Try.prog 106 #[.agg #[.int .i64 n, v], .int .i64 idx] w (NetC w n (xss.eraseIdx idx) true) := by
  have HC : Hid (∀ w, OwnR w lo hi v vs xss → hi ≤ w.heap.size → Calls Try.prog 94 #[.agg #[.int .i64 n, v]] w fun e w' => e = .returned (.bool true) ∧ Below w.heap.size w w') := fun w h1 h2 => by
    have := NetworkOk_c n lo hi v vs xss w h1 h2
    rwa [hok] at this
  have HOK := Lib.hid hok
  have hl60 := netOk_len hok
  obtain ⟨ao, g, cap, rfl, -, -, -⟩ := hv.rows
  have HV := Lib.hid hv
  obtain ⟨L, hlen⟩ : ∃ l, l = xss.length := ⟨_, rfl⟩
  have HLEN := Lib.hid hlen
  rw [← hlen] at HV HC hl60 hidx ⊢
  have hx0 : ¬ (idx : Int) < 0 := by omega
  have hx1 : (idx : Int) < (L : Int) := by omega
  have hx2 : ¬ (L : Int) ≤ (idx : Int) := by omega
  have hwi : IntKind.i64.wrap ((idx : Int) + 1) = (idx : Int) + 1 := IntWalk.i64_in _ (by omega)
  clear hv hlen hok
  go_enter Try.func106, Try.ntmps106
  go_wp2_with fail
  obtain ⟨W1, hW1, c0, c1, hsz, hB1, -, -⟩ := box2 w (.int .i64 n) (.slice ao L cap) 30
  have hb9 := blk_new W1 (.cells #[.int .i64 0, .slice none 0 0] 30)
  obtain ⟨W2, hW2⟩ : ∃ W, W = W1.alloc (.cells #[.int .i64 0, .slice none 0 0] 30) := ⟨_, rfl⟩
  have hBa : Below W1.heap.size W1 W2 := by rw [hW2]; exact (Below.refl _ _).alloc (Nat.le_refl _) _
  have hs2 : W2.heap.size = W1.heap.size + 1 := by rw [hW2]; simp
  rw [← hW2] at hb9
  obtain ⟨c0, c1, hz0⟩ := boxC hBa (by omega) c0 c1
  have hB2 : Below w.heap.size w W2 := hB1.trans (hBa.mono (by omega))
  rw [hsz] at hb9
  try rw [hW1, ← hW2]
  have hw2 : w.heap.size + 1 < W2.heap.size := by omega
  clear hW1 hW2 hBa hs2 hsz hB1
  refine (HC.out W2 (HV.out.below hB2 (by omega)) (by omega)).mono ?_
  rintro e w3 ⟨rfl, b3⟩
  obtain ⟨d0, d1, z3⟩ := boxC b3 hz0 c0 c1
  have hr9 := blk_below hb9 b3 hw2
  have HR9 := Lib.hid hr9
  have zz3 := b3.size
  have HV3 := Lib.hid ((HV.out.below hB2 hhi).below b3 (by omega))
  have HB3 : Hid (Below w.heap.size w w3) := hB2.trans (b3.mono (by omega))
  have hw3 : w.heap.size + 1 < w3.heap.size := by omega
  have hle3 : hi ≤ w3.heap.size := by omega
  clear c0 c1 hb9 b3 hB2 HC HV hz0 hw2 zz3 hr9
  go_wp2_with fail
  refine (own_c n lo hi _ vs xss w3 HV3.out hle3 HOK.out).mono ?_
  rintro e w4 ⟨u4, us4, rfl, o4, b4⟩
  have z4 := b4.size
  obtain ⟨ao4, g4, cap4, e4, hc4, ha4, -⟩ := o4.rows
  rw [← HLEN.out] at e4 ha4
  subst e4
  obtain ⟨rfl, hg4, hg5⟩ := ha4 (by omega)
  obtain ⟨d0, d1, z5⟩ := boxC b4 z3 d0 d1
  have HR4 := Lib.hid (blk_below HR9.out b4 hw3)
  have HB4 : Hid (Below w3.heap.size w3 w4) := b4
  have O4 := Lib.hid o4
  clear b4 o4 hc4
  go_wp2_with fail
  have hb6 := blk_new w4 (.cells #[.int .i64 n, .slice (some ⟨g4, 0, none⟩) L cap4] 30)
  obtain ⟨W6, hW6⟩ : ∃ W, W = w4.alloc (.cells #[.int .i64 n, .slice (some ⟨g4, 0, none⟩) L cap4] 30) := ⟨_, rfl⟩
  have hB6 : Below w4.heap.size w4 W6 := by rw [hW6]; exact (Below.refl _ _).alloc (Nat.le_refl _) _
  have hs6 : W6.heap.size = w4.heap.size + 1 := by rw [hW6]; simp
  rw [← hW6] at hb6
  try rw [← hW6]
  clear hW6
  try simp only [hwi]
  refine (Delete_c idx w3.heap.size w4.heap.size g4 L cap4 us4 xss W6 (O4.out.below hB6 (Nat.le_refl _)) HLEN.out (by omega)).mono ?_
  rintro e w7 ⟨rfl, o7, b7, k7⟩
  have hb7 := (k7 w4.heap.size (by omega)).trans hb6
  have q4 := blk_cell hb7 0
  have q5 := blk_cell hb7 1
  have q6 := blk_free hb7 1
  replace q4 : w7.cell? ⟨w4.heap.size, 0, none⟩ = some (.int .i64 n) := q4
  replace q5 : w7.cell? ⟨w4.heap.size, 1, none⟩ = some (.slice (some ⟨g4, 0, none⟩) L cap4) := q5
  have hb7' := Lib.hid hb7
  have B7 : Hid (Below w3.heap.size w3 w7) := (HB4.out.trans (hB6.mono z4)).trans b7
  have z7 := B7.out.size
  have z8 := b7.size
  have O7 := Lib.hid o7
  have hr9 := blk_below HR9.out B7.out hw3
  have q0 := blk_cell hr9 0
  have q1 := blk_cell hr9 1
  have x0 := blk_free hr9 0
  have x1 := blk_free hr9 1
  have HR7 := Lib.hid hr9
  have hn1 : w.heap.size + 1 ≠ w4.heap.size := by omega
  have hn2 : w4.heap.size ≠ w.heap.size + 1 := by omega
  clear hb6 hB6 hb7 b7 k7 o7 hr9
  go_wp2_with fail
  have HBX : Hid ((w7.setCell ⟨w4.heap.size, 1, none⟩ (.slice (some ⟨g4, 0, none⟩) (L - 1) cap4)).heap[w.heap.size + 1]? = some (.cells #[.int .i64 0, .slice none 0 0] 30 (0, 0))) := (Below.heap_setCell _ _ _ _ (by show w.heap.size + 1 ≠ w4.heap.size; omega)).trans HR7.out
  have HO9 : Hid (OwnR (w7.setCell ⟨w4.heap.size, 1, none⟩ (.slice (some ⟨g4, 0, none⟩) (L - 1) cap4)) w3.heap.size w4.heap.size (.slice (some ⟨g4, 0, none⟩) (L - 1) cap4) (us4.eraseIdx idx) (xss.eraseIdx idx)) := O7.out.past_box hb7'.out
  have HB9 : Hid (Below w.heap.size w (w7.setCell ⟨w4.heap.size, 1, none⟩ (.slice (some ⟨g4, 0, none⟩) (L - 1) cap4))) := (HB3.out.trans (B7.out.mono (by omega))).setCell (by show w.heap.size ≤ w4.heap.size; omega) _
  refine bodyPost_ret (v := .tuple #[.agg #[.int .i64 n, .slice (some ⟨g4, 0, none⟩) (L - 1) cap4], .bool true]) (by simp [results, Try.results106, go_sem, q0, q1, hn1, hn2]) rfl ?_
  refine ⟨_, us4.eraseIdx idx, rfl, ?_, (HB9.out.setCell (by show w.heap.size ≤ w.heap.size + 1; omega) _).setCell (by show w.heap.size ≤ w.heap.size + 1; omega) _⟩
  exact ((HO9.out.past_box HBX.out).past_box (box_set0 HBX.out)).mono (by omega) (by simp [World.setCell]; omega)
/-- Whether a comparator is needed. -/
def needB (n : Int) (xss : List (List Int)) (k : Nat) : Bool := sortsR n xss && !sortsR n (xss.eraseIdx k)
set_option maxHeartbeats 2000000 in
theorem IsNeeded_yes (n : Nat) (lo hi : Nat) (v : Value) (vs : List Value) (xss : List (List Int)) (w : World) (hv : OwnR w lo hi v vs xss) (hhi : hi ≤ w.heap.size) (hok : netOk n xss = true) (idx : Nat) (hidx : idx < xss.length) :
    Calls Try.prog 27 #[.agg #[.int .i64 n, v], .int .i64 idx] w fun e w' => e = .returned (.bool (needB n xss idx)) ∧ Below w.heap.size w w' := by
  have HD := Lib.hid (fun w h1 h2 => DropPair_yes n lo hi v vs xss w h1 h2 hok idx hidx)
  have HS := Lib.hid (IsSorting_i n lo hi v vs xss)
  have hEL : (xss.eraseIdx idx).length = xss.length - 1 := by rw [List.length_eraseIdx, if_pos hidx]
  obtain ⟨ao, g, cap, rfl, -, -, -⟩ := hv.rows
  have HV := Lib.hid hv
  obtain ⟨L, hlen⟩ : ∃ l, l = xss.length := ⟨_, rfl⟩
  rw [← hlen] at HV HD HS hidx hEL ⊢
  obtain ⟨r, hr⟩ : ∃ r, r = needB n xss idx := ⟨_, rfl⟩
  have HR := Lib.hid hr
  rw [← hr]
  obtain ⟨s1, hs1⟩ : ∃ s, s = sortsR n xss := ⟨_, rfl⟩
  obtain ⟨s2, hs2⟩ : ∃ s, s = sortsR n (xss.eraseIdx idx) := ⟨_, rfl⟩
  have HH : Hid (r = (s1 && !s2)) := by show _ = _; rw [hr, hs1, hs2]; rfl
  have HS2 := Lib.hid hs2
  rw [← hs1] at HS
  clear hv hlen hok hr hs1 hs2
  go_enter Try.func27, Try.ntmps27
  go_wp2_with fail
  obtain ⟨W1, hW1, c0, c1, hsz, hB1, -, -⟩ := box2 w (.int .i64 n) (.slice ao L cap) 30
  rw [hW1]
  clear hW1
  have hz1 : w.heap.size < W1.heap.size := by omega
  refine (HD.out W1 (HV.out.below hB1 (by omega)) (by omega)).mono ?_
  rintro e w2 ⟨u2, us2, rfl, o2, b2⟩
  obtain ⟨c0, c1, hz2⟩ := boxC b2 hz1 c0 c1
  have zb2 := b2.size
  obtain ⟨ao2, g2, cap2, e2, -, -, -⟩ := o2.rows
  rw [hEL] at e2
  subst e2
  have O2 := Lib.hid o2
  have B2 : Hid (Below w.heap.size w w2) := hB1.trans (b2.mono (by omega))
  clear hB1 b2 o2 hsz
  go_wp2_with fail
  obtain ⟨W3, hW3, t0, t1, hs3, hB3, -, -⟩ := box2 w2 (.int .i64 n) (.slice ao2 (L - 1) cap2) 30
  rw [hW3]
  clear hW3
  obtain ⟨c0, c1, hz3⟩ := boxC hB3 hz2 c0 c1
  have hz4 : w2.heap.size < W3.heap.size := by omega
  have O3 := Lib.hid (O2.out.below hB3 (Nat.le_refl _))
  have B3 : Hid (Below w.heap.size w W3) := B2.out.trans (hB3.mono (by omega))
  clear hB3
  refine (HS.out W3 (HV.out.below B3.out hhi) (by omega)).mono ?_
  rintro e w5 ⟨rfl, b5⟩
  obtain ⟨c0, c1, hz5⟩ := boxC b5 hz3 c0 c1
  obtain ⟨t0, t1, hz6⟩ := boxC b5 hz4 t0 t1
  have O5 := Lib.hid (O3.out.below b5 (by omega))
  have zb5 := b5.size
  have B5 : Hid (Below w.heap.size w w5) := B3.out.trans (b5.mono (by omega))
  clear b5
  cases s1
  · go_wp2_with fail
    go_ret
    exact ⟨by rw [HH.out]; rfl, B5.out⟩
  · go_wp2_with fail
    refine (IsSorting_i n W1.heap.size w2.heap.size _ us2 _ w5 O5.out (by omega)).mono ?_
    rintro e w6 ⟨rfl, b6⟩
    rw [← HS2.out]
    have B6 : Hid (Below w.heap.size w w6) := B5.out.trans (b6.mono (by omega))
    clear b6
    cases s2
    all_goals
      go_wp2
      go_ret
      exact ⟨by rw [HH.out]; rfl, B6.out⟩
end Go.Proofs.Ytiodolbgapjmkaa
