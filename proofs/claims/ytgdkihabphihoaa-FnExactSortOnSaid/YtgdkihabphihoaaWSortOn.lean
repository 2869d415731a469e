/- A sorter behind a network on all arguments, and the law. Conditions: none. -/
import Derived.Test.YtgdkihabphihoaaSortOn
import Derived.Test.YtgdkihabphihoaaMSortOn
namespace Go.Proofs.Ytgdkihabphihoaa
open Go.RowKit
set_option maxRecDepth 100000
set_option linter.unusedVariables false
set_option linter.unusedSimpArgs false

theorem okAt_at {n : Nat} {xs : List Int} {k : Nat} (h : okAt n xs k = true) : ∃ i : Nat, xs.getD k 0 = (i : Int) ∧ i < n ∧ wantB xs k i = false := by
  simp only [okAt, Bool.and_eq_true, Bool.not_eq_true'] at h
  have h3 := inB_of h.1
  refine ⟨(xs.getD k 0).toNat, by omega, by omega, ?_⟩
  unfold wantB
  rw [Int.toNat_of_nonneg h3.1]
  exact h.2

set_option maxHeartbeats 1000000 in
theorem SortOn_i_none (n : Int) (lo hi : Nat) (v : Value) (vs : List Value) (xss : List (List Int)) (ao2 : Option Addr) (N cap2 : Nat) (w : World) (hv : OwnR w lo hi v vs xss) (hhi : hi ≤ w.heap.size) (hok : netOk n xss = false) :
    Calls Try.prog 28 #[.agg #[.int .i64 n, v], .slice ao2 N cap2] w (NetC w 0 [] false) := by
  have HC : Hid (∀ w, OwnR w lo hi v vs xss → hi ≤ w.heap.size → Calls Try.prog 104 #[.agg #[.int .i64 n, v]] w fun e w' => e = .returned (.bool false) ∧ Below w.heap.size w w') := fun w h1 h2 => by
    have := NetworkOk_c n lo hi v vs xss w h1 h2
    rwa [hok] at this
  have HV := Lib.hid hv
  obtain ⟨ao, g, cap, rfl, -, -, -⟩ := hv.rows
  obtain ⟨L, hlen⟩ : ∃ l, l = xss.length := ⟨_, rfl⟩
  rw [← hlen] at HV HC ⊢
  clear hv hlen hok
  go_enter Try.func28, Try.ntmps28
  go_wp2_with fail
  obtain ⟨W1, hW1, c0, c1, hsz, hB1, -, -⟩ := box2 w (.int .i64 n) (.slice ao L cap) 27
  have hbu := blk_new W1 (.cells #[.slice ao2 N cap2] 31)
  obtain ⟨W1b, hW1b⟩ : ∃ W, W = W1.alloc (.cells #[.slice ao2 N cap2] 31) := ⟨_, rfl⟩
  have hBb : Below W1.heap.size W1 W1b := by rw [hW1b]; exact (Below.refl _ _).alloc (Nat.le_refl _) _
  have hs1b : W1b.heap.size = W1.heap.size + 1 := by rw [hW1b]; simp
  rw [← hW1b] at hbu
  have hb9 := blk_new W1b (.cells #[.int .i64 0, .slice none 0 0] 27)
  obtain ⟨W2, hW2⟩ : ∃ W, W = W1b.alloc (.cells #[.int .i64 0, .slice none 0 0] 27) := ⟨_, rfl⟩
  have hBa0 : Below W1b.heap.size W1b W2 := by rw [hW2]; exact (Below.refl _ _).alloc (Nat.le_refl _) _
  have hBa : Below W1.heap.size W1 W2 := hBb.trans (hBa0.mono (by omega))
  have hs2 : W2.heap.size = W1.heap.size + 2 := by rw [hW2]; simp; omega
  rw [← hW2] at hb9
  have hbu2 := blk_below hbu hBa0 (by omega)
  rw [hsz] at hbu2
  have hbu3 := blk_cell hbu2 0
  obtain ⟨c0, c1, hz0⟩ := boxC hBa (by omega) c0 c1
  have hB2 : Below w.heap.size w W2 := hB1.trans (hBa.mono (by omega))
  rw [hs1b, hsz] at hb9
  try rw [hW1, ← hW1b]
  clear hW1b hBb hs1b hbu hBa0
  try rw [hW1, ← hW2]
  try rw [← hW2]
  have hw2 : w.heap.size + 2 < W2.heap.size := by omega
  clear hW1 hW2 hBa hs2 hsz hB1
  refine (HC.out W2 (HV.out.below hB2 (by omega)) (by omega)).mono ?_
  rintro e w3 ⟨rfl, b3⟩
  have hr9 := blk_below hb9 b3 hw2
  have q0 := blk_cell hr9 0
  have q1 := blk_cell hr9 1
  have x0 := blk_free hr9 0
  have x1 := blk_free hr9 1
  have HB3 : Hid (Below w.heap.size w w3) := hB2.trans (b3.mono (by omega))
  have hu3 : w3.cell? ⟨w.heap.size + 1, 0, none⟩ = some (.slice ao2 N cap2) := (b3.cell (p := ⟨w.heap.size + 1, 0, none⟩) (by show w.heap.size + 1 < _; omega)).trans hbu3
  clear c0 c1 hb9 b3 hB2 HC HV hz0 hw2 hr9 hbu2 hbu3
  go_wp2_with fail
  refine bodyPost_ret (v := .tuple #[.agg #[.int .i64 0, .slice none 0 0], .bool false]) (by simp [results, Try.results28, go_sem, q0, q1]) rfl ⟨_, [], rfl, OwnR.nil _ _ _, ?_⟩
  first
    | exact (HB3.out.setCell (by show w.heap.size ≤ w.heap.size + 1 + 1; omega) _).setCell (by show w.heap.size ≤ w.heap.size + 1 + 1; omega) _
    | exact HB3.out

set_option maxHeartbeats 1000000 in
theorem SortOn_i_empty (n : Int) (lo hi : Nat) (v : Value) (vs : List Value) (xss : List (List Int)) (ao2 : Option Addr) (N cap2 : Nat) (w : World) (hv : OwnR w lo hi v vs xss) (hhi : hi ≤ w.heap.size) (hok : netOk n xss = true) (h0 : N = 0) :
    Calls Try.prog 28 #[.agg #[.int .i64 n, v], .slice ao2 N cap2] w (NetC w 0 [] false) := by
  have HC : Hid (∀ w, OwnR w lo hi v vs xss → hi ≤ w.heap.size → Calls Try.prog 104 #[.agg #[.int .i64 n, v]] w fun e w' => e = .returned (.bool true) ∧ Below w.heap.size w w') := fun w h1 h2 => by
    have := NetworkOk_c n lo hi v vs xss w h1 h2
    rwa [hok] at this
  have HV := Lib.hid hv
  obtain ⟨ao, g, cap, rfl, -, -, -⟩ := hv.rows
  obtain ⟨L, hlen⟩ : ∃ l, l = xss.length := ⟨_, rfl⟩
  rw [← hlen] at HV HC ⊢
  clear hv hlen hok
  subst h0
  go_enter Try.func28, Try.ntmps28
  go_wp2_with fail
  obtain ⟨W1, hW1, c0, c1, hsz, hB1, -, -⟩ := box2 w (.int .i64 n) (.slice ao L cap) 27
  have hbu := blk_new W1 (.cells #[.slice ao2 0 cap2] 31)
  obtain ⟨W1b, hW1b⟩ : ∃ W, W = W1.alloc (.cells #[.slice ao2 0 cap2] 31) := ⟨_, rfl⟩
  have hBb : Below W1.heap.size W1 W1b := by rw [hW1b]; exact (Below.refl _ _).alloc (Nat.le_refl _) _
  have hs1b : W1b.heap.size = W1.heap.size + 1 := by rw [hW1b]; simp
  rw [← hW1b] at hbu
  have hb9 := blk_new W1b (.cells #[.int .i64 0, .slice none 0 0] 27)
  obtain ⟨W2, hW2⟩ : ∃ W, W = W1b.alloc (.cells #[.int .i64 0, .slice none 0 0] 27) := ⟨_, rfl⟩
  have hBa0 : Below W1b.heap.size W1b W2 := by rw [hW2]; exact (Below.refl _ _).alloc (Nat.le_refl _) _
  have hBa : Below W1.heap.size W1 W2 := hBb.trans (hBa0.mono (by omega))
  have hs2 : W2.heap.size = W1.heap.size + 2 := by rw [hW2]; simp; omega
  rw [← hW2] at hb9
  have hbu2 := blk_below hbu hBa0 (by omega)
  rw [hsz] at hbu2
  have hbu3 := blk_cell hbu2 0
  obtain ⟨c0, c1, hz0⟩ := boxC hBa (by omega) c0 c1
  have hB2 : Below w.heap.size w W2 := hB1.trans (hBa.mono (by omega))
  rw [hs1b, hsz] at hb9
  try rw [hW1, ← hW1b]
  clear hW1b hBb hs1b hbu hBa0
  try rw [hW1, ← hW2]
  try rw [← hW2]
  have hw2 : w.heap.size + 2 < W2.heap.size := by omega
  clear hW1 hW2 hBa hs2 hsz hB1
  refine (HC.out W2 (HV.out.below hB2 (by omega)) (by omega)).mono ?_
  rintro e w3 ⟨rfl, b3⟩
  have hr9 := blk_below hb9 b3 hw2
  have q0 := blk_cell hr9 0
  have q1 := blk_cell hr9 1
  have x0 := blk_free hr9 0
  have x1 := blk_free hr9 1
  have HB3 : Hid (Below w.heap.size w w3) := hB2.trans (b3.mono (by omega))
  have hu3 : w3.cell? ⟨w.heap.size + 1, 0, none⟩ = some (.slice ao2 0 cap2) := (b3.cell (p := ⟨w.heap.size + 1, 0, none⟩) (by show w.heap.size + 1 < _; omega)).trans hbu3
  clear c0 c1 hb9 b3 hB2 HC HV hz0 hw2 hr9 hbu2 hbu3
  go_wp2_with fail
  refine bodyPost_ret (v := .tuple #[.agg #[.int .i64 0, .slice none 0 0], .bool false]) (by simp [results, Try.results28, go_sem, q0, q1]) rfl ⟨_, [], rfl, OwnR.nil _ _ _, ?_⟩
  first
    | exact (HB3.out.setCell (by show w.heap.size ≤ w.heap.size + 1 + 1; omega) _).setCell (by show w.heap.size ≤ w.heap.size + 1 + 1; omega) _
    | exact HB3.out

set_option maxHeartbeats 4000000 in
theorem SortOn_i_bad (n : Nat) (lo hi lo2 hi2 : Nat) (v : Value) (vs : List Value) (xss : List (List Int)) (u : Value) (xs : List Int) (w : World) (hv : OwnR w lo hi v vs xss) (hhi : hi ≤ w.heap.size) (hok : netOk n xss = true)
    (hu : IntsV w lo2 hi2 u xs) (hh2 : hi2 ≤ w.heap.size) (hlx : xs.length ≤ 1048576) (h0 : 0 < xs.length) (hws : seqB n xs = false) :
    Calls Try.prog 28 #[.agg #[.int .i64 n, v], u] w (NetC w 0 [] false) := by
  have HC : Hid (∀ w, OwnR w lo hi v vs xss → hi ≤ w.heap.size → Calls Try.prog 104 #[.agg #[.int .i64 n, v]] w fun e w' => e = .returned (.bool true) ∧ Below w.heap.size w w') := fun w h1 h2 => by
    have := NetworkOk_c n lo hi v vs xss w h1 h2
    rwa [hok] at this
  have HOK := Lib.hid hok
  have hn8 : n ≤ 8 := by have := netOk_n hok; omega
  have hn1 : 1 ≤ n := by have := netOk_n hok; omega
  have hl60 := netOk_len hok
  obtain ⟨K, hK, hKb, hKg⟩ := seqB_no hws h0
  have HKG : Hid (∀ k, k < K → okAt n xs k = true) := hKg
  have HKB := Lib.hid hKb
  have hN1 := h0
  obtain ⟨ao, g, cap, rfl, -, -, -⟩ := hv.rows
  have HV := Lib.hid hv
  obtain ⟨L, hlen⟩ : ∃ l, l = xss.length := ⟨_, rfl⟩
  have HLEN := Lib.hid hlen
  rw [← hlen] at HV HC hl60 ⊢
  obtain ⟨ao2, g2, off2, cap2, rfl, hcap2, hao2, hc2⟩ := hu
  obtain ⟨ha2, l2, l3⟩ := hao2 (by omega)
  subst ha2
  have HCL := Lib.hid hc2
  obtain ⟨N, hN⟩ : ∃ N, N = xs.length := ⟨_, rfl⟩
  have HN := Lib.hid hN
  rw [← hN] at HCL hcap2 hN1 hK hlx ⊢
  clear hv hlen hok hao2 hc2 hN hws hKg hKb h0
  go_enter Try.func28, Try.ntmps28
  go_wp2_with fail
  obtain ⟨W1, hW1, c0, c1, hsz, hB1, -, -⟩ := box2 w (.int .i64 n) (.slice ao L cap) 27
  have hbu := blk_new W1 (.cells #[.slice (some ⟨g2, off2, none⟩) N cap2] 31)
  obtain ⟨W1b, hW1b⟩ : ∃ W, W = W1.alloc (.cells #[.slice (some ⟨g2, off2, none⟩) N cap2] 31) := ⟨_, rfl⟩
  have hBb : Below W1.heap.size W1 W1b := by rw [hW1b]; exact (Below.refl _ _).alloc (Nat.le_refl _) _
  have hs1b : W1b.heap.size = W1.heap.size + 1 := by rw [hW1b]; simp
  rw [← hW1b] at hbu
  have hb9 := blk_new W1b (.cells #[.int .i64 0, .slice none 0 0] 27)
  obtain ⟨W2, hW2⟩ : ∃ W, W = W1b.alloc (.cells #[.int .i64 0, .slice none 0 0] 27) := ⟨_, rfl⟩
  have hBa0 : Below W1b.heap.size W1b W2 := by rw [hW2]; exact (Below.refl _ _).alloc (Nat.le_refl _) _
  have hBa : Below W1.heap.size W1 W2 := hBb.trans (hBa0.mono (by omega))
  have hs2 : W2.heap.size = W1.heap.size + 2 := by rw [hW2]; simp; omega
  rw [← hW2] at hb9
  have hbu2 := blk_below hbu hBa0 (by omega)
  rw [hsz] at hbu2
  have hbu3 := blk_cell hbu2 0
  obtain ⟨c0, c1, hz0⟩ := boxC hBa (by omega) c0 c1
  have hB2 : Below w.heap.size w W2 := hB1.trans (hBa.mono (by omega))
  rw [hs1b, hsz] at hb9
  try rw [hW1, ← hW1b]
  clear hW1b hBb hs1b hbu hBa0
  try rw [hW1, ← hW2]
  try rw [← hW2]
  have hw2 : w.heap.size + 2 < W2.heap.size := by omega
  clear hW1 hW2 hBa hs2 hsz hB1
  refine (HC.out W2 (HV.out.below hB2 (by omega)) (by omega)).mono ?_
  rintro e w3 ⟨rfl, b3⟩
  obtain ⟨d0, d1, z3⟩ := boxC b3 hz0 c0 c1
  have hr9 := blk_below hb9 b3 hw2
  have HR9 := Lib.hid hr9
  have zz3 := b3.size
  have HV3 := Lib.hid ((HV.out.below hB2 hhi).below b3 (by omega))
  have HB3 : Hid (Below w.heap.size w w3) := hB2.trans (b3.mono (by omega))
  have hw3 : w.heap.size + 2 < w3.heap.size := by omega
  have hle3 : hi ≤ w3.heap.size := by omega
  have hu3 : w3.cell? ⟨w.heap.size + 1, 0, none⟩ = some (.slice (some ⟨g2, off2, none⟩) N cap2) := (b3.cell (p := ⟨w.heap.size + 1, 0, none⟩) (by show w.heap.size + 1 < _; omega)).trans hbu3
  clear c0 c1 hb9 b3 hB2 HC HV hz0 hw2 zz3 hr9 hbu2 hbu3
  have hNz : ¬ (N : Int) = 0 := by omega
  have hu3a : (w3.alloc (.cells #[.bool false, .bool false, .bool false, .bool false, .bool false, .bool false, .bool false, .bool false] 78)).cell? ⟨w.heap.size + 1, 0, none⟩ = some (.slice (some ⟨g2, off2, none⟩) N cap2) :=
    (((Below.refl w3.heap.size w3).alloc (Nat.le_refl _) _).cell (p := ⟨w.heap.size + 1, 0, none⟩) (by show w.heap.size + 1 < _; omega)).trans hu3
  go_wp2_with fail
  obtain ⟨W4, hW4⟩ : ∃ W, W = w3.alloc (.cells #[.bool false, .bool false, .bool false, .bool false, .bool false, .bool false, .bool false, .bool false] 78) := ⟨_, rfl⟩
  have hR4 : W4.rowIs w3.heap.size 78 8 (fun j => .bool (wantB xs 0 j)) := by
    rw [hW4]
    refine World.rowIs_alloc w3 _ _ _ fun i hi => ?_
    rw [wantB_zero]
    replace hi : i < 8 := hi
    match i, hi with
    | 0, _ | 1, _ | 2, _ | 3, _ | 4, _ | 5, _ | 6, _ | 7, _ => rfl
  have hB4 : Below w3.heap.size w3 W4 := by rw [hW4]; exact (Below.refl _ _).alloc (Nat.le_refl _) _
  have hs4 : w3.heap.size < W4.heap.size := by rw [hW4]; simp
  have hu4 := (hB4.cell (p := ⟨w.heap.size + 1, 0, none⟩) (by show w.heap.size + 1 < _; omega)).trans hu3
  rw [← hW4]
  clear hW4 hu3a
  have HR4 := Lib.hid hR4
  have HB4 := Lib.hid hB4
  clear hR4 hB4
  have hNb : ((N : Int) == 0) = false := by simp; omega
  try simp only [hNb]
  go_loopw [24] (fun i wr => ∃ k : Nat, k ≤ K ∧ i = .int .i64 k ∧ Hid (wr.rowIs w3.heap.size 78 8 (fun j => .bool (wantB xs k j))) ∧ Below w3.heap.size w3 wr) (fun i _ => N - (intOf i).toNat)
  case atStart => exact ⟨0, Nat.zero_le _, rfl, HR4.out, HB4.out⟩
  case round =>
    obtain ⟨k, hk, rfl, HK, hB⟩ := hrel
    have HB := Lib.hid hB
    have zB := hB.size
    obtain ⟨f0, f1, zf⟩ := boxC hB z3 d0 d1
    have fu := (hB.cell (p := ⟨w.heap.size + 1, 0, none⟩) (by show w.heap.size + 1 < _; omega)).trans hu3
    clear HR4 HB4
    have hX := HK.out.lt
    by_cases hlt : k < K
    · obtain ⟨i, hi, hin, hwn⟩ := okAt_at (HKG.out k hlt)
      have hkN : (k : Int) < (N : Int) := by omega
      have c2 : wr.cell? ⟨g2, off2 + k, none⟩ = some (.int .i64 i) := by
        rw [← hi]
        exact ((HB3.out.trans (hB.mono (by omega))).cell (p := ⟨g2, off2 + k, none⟩) (by show g2 < _; omega)).trans (HCL.out k (by omega))
      have IW : Hid (∀ w, Calls Try.prog 113 #[.agg #[.int .i64 n, .slice ao L cap], .int .i64 i] w fun e w' => e = .returned (.bool true) ∧ Below w.heap.size w w') := fun w => by
        have := isWire_c n i (.slice ao L cap) w
        rwa [inB_mk ⟨by omega, by omega⟩] at this
      have HWB : Hid (∀ j, wantB xs (k + 1) j = if j = i then true else wantB xs k j) := fun j => wantB_succ (by have := HN.out; omega) hi j
      have HWN := Lib.hid hwn
      clear hB hi hwn
      go_wp2_with fail
      refine (IW.out wr).mono ?_
      rintro e w5 ⟨rfl, b5⟩
      have r5 := HK.out.of_block (b5.block _ hX)
      have q1 := r5.cell (i := i) (by omega)
      rw [HWN.out] at q1
      have q2 := r5.frozen i
      have R5 := Lib.hid r5
      have B5 : Hid (Below w3.heap.size w3 w5) := HB.out.trans (b5.mono zB)
      have hii : (i : Int) < 8 := by omega
      clear r5 b5 f0 f1
      go_wp2_with fail
      go_roundw
      case rel => exact ⟨k + 1, by omega, by go_num, (by show World.rowIs _ _ _ _ _; exact (R5.out.set i (.bool true)).congr fun j _ => by rw [HWB.out]; split <;> rfl), B5.out.setCell (by show w3.heap.size ≤ w3.heap.size; omega) _⟩
      case measure => simp [intOf] <;> omega
    · have hkK : k = K := by omega
      have hkN : (k : Int) < (N : Int) := by omega
      obtain ⟨x, hx⟩ : ∃ x, x = xs.getD K 0 := ⟨_, rfl⟩
      have c2 : wr.cell? ⟨g2, off2 + k, none⟩ = some (.int .i64 x) := by
        rw [hx, ← hkK]
        exact ((HB3.out.trans (hB.mono (by omega))).cell (p := ⟨g2, off2 + k, none⟩) (by show g2 < _; omega)).trans (HCL.out k (by omega))
      have hbad := HKB.out
      unfold okAt at hbad
      rw [← hx] at hbad
      have HBB : Hid (Below w3.heap.size w3 wr) := hB
      clear hB HB
      cases hin : inB x 0 ((n : Int) - 1)
      · have IW : Hid (∀ w, Calls Try.prog 113 #[.agg #[.int .i64 n, .slice ao L cap], .int .i64 x] w fun e w' => e = .returned (.bool false) ∧ Below w.heap.size w w') := fun w => by
          have := isWire_c n x (.slice ao L cap) w
          rwa [hin] at this
        clear hin hbad hkK hx
        go_wp2_with fail
        refine (IW.out _).mono ?_
        rintro e w5 ⟨rfl, b5⟩
        have b5' : Below w3.heap.size w3 w5 := HBB.out.trans (b5.mono zB)
        have B5 : Hid (Below w.heap.size w w5) := HB3.out.trans (b5'.mono (by omega))
        have hr9 := blk_below HR9.out b5' (by omega)
        have q0 := blk_cell hr9 0
        have q1 := blk_cell hr9 1
        have x0 := blk_free hr9 0
        have x1 := blk_free hr9 1
        clear hr9 f0 f1
        go_wp2_with fail
        refine bodyPost_ret (v := .tuple #[.agg #[.int .i64 0, .slice none 0 0], .bool false]) (by simp [results, Try.results28, go_sem, q0, q1]) rfl ⟨_, [], rfl, OwnR.nil _ _ _, ?_⟩
        first
          | exact (B5.out.setCell (by show w.heap.size ≤ w.heap.size + 1 + 1; omega) _).setCell (by show w.heap.size ≤ w.heap.size + 1 + 1; omega) _
          | exact B5.out
      · have IW : Hid (∀ w, Calls Try.prog 113 #[.agg #[.int .i64 n, .slice ao L cap], .int .i64 x] w fun e w' => e = .returned (.bool true) ∧ Below w.heap.size w w') := fun w => by
          have := isWire_c n x (.slice ao L cap) w
          rwa [hin] at this
        have hx2 := inB_of hin
        obtain ⟨i, rfl⟩ : ∃ i : Nat, x = (i : Int) := ⟨x.toNat, by omega⟩
        have hw1 : wantB xs K i = true := by
          rw [hin] at hbad
          simpa [wantB] using hbad
        rw [← hkK] at hw1
        have HW1 := Lib.hid hw1
        have hii : (i : Int) < 8 := by omega
        clear hin hbad hkK hx hw1
        go_wp2_with fail
        refine (IW.out _).mono ?_
        rintro e w5 ⟨rfl, b5⟩
        have b5' : Below w3.heap.size w3 w5 := HBB.out.trans (b5.mono zB)
        have B5 : Hid (Below w.heap.size w w5) := HB3.out.trans (b5'.mono (by omega))
        have qr := (HK.out.of_block (b5.block _ hX) : World.rowIs _ _ _ _ _).cell (i := i) (by omega)
        rw [HW1.out] at qr
        have hr9 := blk_below HR9.out b5' (by omega)
        have q0 := blk_cell hr9 0
        have q1 := blk_cell hr9 1
        have x0 := blk_free hr9 0
        have x1 := blk_free hr9 1
        clear hr9 f0 f1
        go_wp2_with fail
        refine bodyPost_ret (v := .tuple #[.agg #[.int .i64 0, .slice none 0 0], .bool false]) (by simp [results, Try.results28, go_sem, q0, q1]) rfl ⟨_, [], rfl, OwnR.nil _ _ _, ?_⟩
        first
          | exact (B5.out.setCell (by show w.heap.size ≤ w.heap.size + 1 + 1; omega) _).setCell (by show w.heap.size ≤ w.heap.size + 1 + 1; omega) _
          | exact B5.out

set_option maxHeartbeats 1000000 in
theorem SortOn_s_none (n : Int) (lo hi : Nat) (v : Value) (vs : List Value) (xss : List (List Int)) (ao2 : Option Addr) (N cap2 : Nat) (w : World) (hv : OwnR w lo hi v vs xss) (hhi : hi ≤ w.heap.size) (hok : netOk n xss = false) :
    Calls Try.prog 26 #[.agg #[.int .i64 n, v], .slice ao2 N cap2] w (NetC w 0 [] false) := by
  have HC : Hid (∀ w, OwnR w lo hi v vs xss → hi ≤ w.heap.size → Calls Try.prog 101 #[.agg #[.int .i64 n, v]] w fun e w' => e = .returned (.bool false) ∧ Below w.heap.size w w') := fun w h1 h2 => by
    have := SNetworkOk_c n lo hi v vs xss w h1 h2
    rwa [hok] at this
  have HV := Lib.hid hv
  obtain ⟨ao, g, cap, rfl, -, -, -⟩ := hv.rows
  obtain ⟨L, hlen⟩ : ∃ l, l = xss.length := ⟨_, rfl⟩
  rw [← hlen] at HV HC ⊢
  clear hv hlen hok
  go_enter Try.func26, Try.ntmps26
  go_wp2_with fail
  obtain ⟨W1, hW1, c0, c1, hsz, hB1, -, -⟩ := box2 w (.int .i64 n) (.slice ao L cap) 27
  have hb9 := blk_new W1 (.cells #[.int .i64 0, .slice none 0 0] 27)
  obtain ⟨W2, hW2⟩ : ∃ W, W = W1.alloc (.cells #[.int .i64 0, .slice none 0 0] 27) := ⟨_, rfl⟩
  have hBa : Below W1.heap.size W1 W2 := by rw [hW2]; exact (Below.refl _ _).alloc (Nat.le_refl _) _
  have hs2 : W2.heap.size = W1.heap.size + 1 := by rw [hW2]; simp
  rw [← hW2] at hb9
  obtain ⟨c0, c1, hz0⟩ := boxC hBa (by omega) c0 c1
  have hB2 : Below w.heap.size w W2 := hB1.trans (hBa.mono (by omega))
  rw [hsz] at hb9
  try rw [hW1, ← hW2]
  try rw [← hW2]
  have hw2 : w.heap.size + 1 < W2.heap.size := by omega
  clear hW1 hW2 hBa hs2 hsz hB1
  refine (HC.out W2 (HV.out.below hB2 (by omega)) (by omega)).mono ?_
  rintro e w3 ⟨rfl, b3⟩
  have hr9 := blk_below hb9 b3 hw2
  have q0 := blk_cell hr9 0
  have q1 := blk_cell hr9 1
  have x0 := blk_free hr9 0
  have x1 := blk_free hr9 1
  have HB3 : Hid (Below w.heap.size w w3) := hB2.trans (b3.mono (by omega))
  clear c0 c1 hb9 b3 hB2 HC HV hz0 hw2 hr9
  go_wp2_with fail
  refine bodyPost_ret (v := .tuple #[.agg #[.int .i64 0, .slice none 0 0], .bool false]) (by simp [results, Try.results26, go_sem, q0, q1]) rfl ⟨_, [], rfl, OwnR.nil _ _ _, ?_⟩
  first
    | exact (HB3.out.setCell (by show w.heap.size ≤ w.heap.size + 1; omega) _).setCell (by show w.heap.size ≤ w.heap.size + 1; omega) _
    | exact HB3.out

set_option maxHeartbeats 1000000 in
theorem SortOn_s_empty (n : Int) (lo hi : Nat) (v : Value) (vs : List Value) (xss : List (List Int)) (ao2 : Option Addr) (N cap2 : Nat) (w : World) (hv : OwnR w lo hi v vs xss) (hhi : hi ≤ w.heap.size) (hok : netOk n xss = true) (h0 : N = 0) :
    Calls Try.prog 26 #[.agg #[.int .i64 n, v], .slice ao2 N cap2] w (NetC w 0 [] false) := by
  have HC : Hid (∀ w, OwnR w lo hi v vs xss → hi ≤ w.heap.size → Calls Try.prog 101 #[.agg #[.int .i64 n, v]] w fun e w' => e = .returned (.bool true) ∧ Below w.heap.size w w') := fun w h1 h2 => by
    have := SNetworkOk_c n lo hi v vs xss w h1 h2
    rwa [hok] at this
  have HV := Lib.hid hv
  obtain ⟨ao, g, cap, rfl, -, -, -⟩ := hv.rows
  obtain ⟨L, hlen⟩ : ∃ l, l = xss.length := ⟨_, rfl⟩
  rw [← hlen] at HV HC ⊢
  clear hv hlen hok
  subst h0
  go_enter Try.func26, Try.ntmps26
  go_wp2_with fail
  obtain ⟨W1, hW1, c0, c1, hsz, hB1, -, -⟩ := box2 w (.int .i64 n) (.slice ao L cap) 27
  have hb9 := blk_new W1 (.cells #[.int .i64 0, .slice none 0 0] 27)
  obtain ⟨W2, hW2⟩ : ∃ W, W = W1.alloc (.cells #[.int .i64 0, .slice none 0 0] 27) := ⟨_, rfl⟩
  have hBa : Below W1.heap.size W1 W2 := by rw [hW2]; exact (Below.refl _ _).alloc (Nat.le_refl _) _
  have hs2 : W2.heap.size = W1.heap.size + 1 := by rw [hW2]; simp
  rw [← hW2] at hb9
  obtain ⟨c0, c1, hz0⟩ := boxC hBa (by omega) c0 c1
  have hB2 : Below w.heap.size w W2 := hB1.trans (hBa.mono (by omega))
  rw [hsz] at hb9
  try rw [hW1, ← hW2]
  try rw [← hW2]
  have hw2 : w.heap.size + 1 < W2.heap.size := by omega
  clear hW1 hW2 hBa hs2 hsz hB1
  refine (HC.out W2 (HV.out.below hB2 (by omega)) (by omega)).mono ?_
  rintro e w3 ⟨rfl, b3⟩
  have hr9 := blk_below hb9 b3 hw2
  have q0 := blk_cell hr9 0
  have q1 := blk_cell hr9 1
  have x0 := blk_free hr9 0
  have x1 := blk_free hr9 1
  have HB3 : Hid (Below w.heap.size w w3) := hB2.trans (b3.mono (by omega))
  clear c0 c1 hb9 b3 hB2 HC HV hz0 hw2 hr9
  go_wp2_with fail
  refine bodyPost_ret (v := .tuple #[.agg #[.int .i64 0, .slice none 0 0], .bool false]) (by simp [results, Try.results26, go_sem, q0, q1]) rfl ⟨_, [], rfl, OwnR.nil _ _ _, ?_⟩
  first
    | exact (HB3.out.setCell (by show w.heap.size ≤ w.heap.size + 1; omega) _).setCell (by show w.heap.size ≤ w.heap.size + 1; omega) _
    | exact HB3.out

set_option maxHeartbeats 4000000 in
theorem SortOn_s_bad (n : Nat) (lo hi lo2 hi2 : Nat) (v : Value) (vs : List Value) (xss : List (List Int)) (u : Value) (xs : List Int) (w : World) (hv : OwnR w lo hi v vs xss) (hhi : hi ≤ w.heap.size) (hok : netOk n xss = true)
    (hu : IntsV w lo2 hi2 u xs) (hh2 : hi2 ≤ w.heap.size) (hlx : xs.length ≤ 1048576) (h0 : 0 < xs.length) (hws : seqB n xs = false) :
    Calls Try.prog 26 #[.agg #[.int .i64 n, v], u] w (NetC w 0 [] false) := by
  have HC : Hid (∀ w, OwnR w lo hi v vs xss → hi ≤ w.heap.size → Calls Try.prog 101 #[.agg #[.int .i64 n, v]] w fun e w' => e = .returned (.bool true) ∧ Below w.heap.size w w') := fun w h1 h2 => by
    have := SNetworkOk_c n lo hi v vs xss w h1 h2
    rwa [hok] at this
  have HOK := Lib.hid hok
  have hn8 : n ≤ 8 := by have := netOk_n hok; omega
  have hn1 : 1 ≤ n := by have := netOk_n hok; omega
  have hl60 := netOk_len hok
  obtain ⟨K, hK, hKb, hKg⟩ := seqB_no hws h0
  have HKG : Hid (∀ k, k < K → okAt n xs k = true) := hKg
  have HKB := Lib.hid hKb
  have hN1 := h0
  obtain ⟨ao, g, cap, rfl, -, -, -⟩ := hv.rows
  have HV := Lib.hid hv
  obtain ⟨L, hlen⟩ : ∃ l, l = xss.length := ⟨_, rfl⟩
  have HLEN := Lib.hid hlen
  rw [← hlen] at HV HC hl60 ⊢
  obtain ⟨ao2, g2, off2, cap2, rfl, hcap2, hao2, hc2⟩ := hu
  obtain ⟨ha2, l2, l3⟩ := hao2 (by omega)
  subst ha2
  have HCL := Lib.hid hc2
  obtain ⟨N, hN⟩ : ∃ N, N = xs.length := ⟨_, rfl⟩
  have HN := Lib.hid hN
  rw [← hN] at HCL hcap2 hN1 hK hlx ⊢
  clear hv hlen hok hao2 hc2 hN hws hKg hKb h0
  go_enter Try.func26, Try.ntmps26
  go_wp2_with fail
  obtain ⟨W1, hW1, c0, c1, hsz, hB1, -, -⟩ := box2 w (.int .i64 n) (.slice ao L cap) 27
  have hb9 := blk_new W1 (.cells #[.int .i64 0, .slice none 0 0] 27)
  obtain ⟨W2, hW2⟩ : ∃ W, W = W1.alloc (.cells #[.int .i64 0, .slice none 0 0] 27) := ⟨_, rfl⟩
  have hBa : Below W1.heap.size W1 W2 := by rw [hW2]; exact (Below.refl _ _).alloc (Nat.le_refl _) _
  have hs2 : W2.heap.size = W1.heap.size + 1 := by rw [hW2]; simp
  rw [← hW2] at hb9
  obtain ⟨c0, c1, hz0⟩ := boxC hBa (by omega) c0 c1
  have hB2 : Below w.heap.size w W2 := hB1.trans (hBa.mono (by omega))
  rw [hsz] at hb9
  try rw [hW1, ← hW2]
  try rw [← hW2]
  have hw2 : w.heap.size + 1 < W2.heap.size := by omega
  clear hW1 hW2 hBa hs2 hsz hB1
  refine (HC.out W2 (HV.out.below hB2 (by omega)) (by omega)).mono ?_
  rintro e w3 ⟨rfl, b3⟩
  obtain ⟨d0, d1, z3⟩ := boxC b3 hz0 c0 c1
  have hr9 := blk_below hb9 b3 hw2
  have HR9 := Lib.hid hr9
  have zz3 := b3.size
  have HV3 := Lib.hid ((HV.out.below hB2 hhi).below b3 (by omega))
  have HB3 : Hid (Below w.heap.size w w3) := hB2.trans (b3.mono (by omega))
  have hw3 : w.heap.size + 1 < w3.heap.size := by omega
  have hle3 : hi ≤ w3.heap.size := by omega
  clear c0 c1 hb9 b3 hB2 HC HV hz0 hw2 zz3 hr9
  have hNz : ¬ (N : Int) = 0 := by omega
  have hmk := run_make_row' (P := Try.prog) 76 4 (.bool false) 1 Try.underlying76 Try.infoBool rfl .i64 .i64 n (by omega) (by omega)
  go_wp2_with fail
  obtain ⟨W4, hW4⟩ : ∃ W4, W4 = w3.alloc (.cells (madeCells #[.bool false] n) 4) := ⟨_, rfl⟩
  have hR4 : W4.rowIs w3.heap.size 4 n (fun j => .bool (wantB xs 0 j)) := by
    rw [hW4]
    exact (World.rowIs_made w3 (.bool false) n 4).congr fun i _ => by rw [wantB_zero]
  have hB4 : Below w3.heap.size w3 W4 := by rw [hW4]; exact (Below.refl _ _).alloc (Nat.le_refl _) _
  have hs4 : w3.heap.size < W4.heap.size := by rw [hW4]; simp
  rw [← hW4]
  clear hW4 hmk
  have HR4 := Lib.hid hR4
  have HB4 := Lib.hid hB4
  clear hR4 hB4
  have hNb : ((N : Int) == 0) = false := by simp; omega
  try simp only [hNb]
  go_loopw [23] (fun i wr => ∃ k : Nat, k ≤ K ∧ i = .int .i64 k ∧ Hid (wr.rowIs w3.heap.size 4 n (fun j => .bool (wantB xs k j))) ∧ Below w3.heap.size w3 wr) (fun i _ => N - (intOf i).toNat)
  case atStart => exact ⟨0, Nat.zero_le _, rfl, HR4.out, HB4.out⟩
  case round =>
    obtain ⟨k, hk, rfl, HK, hB⟩ := hrel
    have HB := Lib.hid hB
    have zB := hB.size
    obtain ⟨f0, f1, zf⟩ := boxC hB z3 d0 d1
    clear HR4 HB4
    have hX := HK.out.lt
    by_cases hlt : k < K
    · obtain ⟨i, hi, hin, hwn⟩ := okAt_at (HKG.out k hlt)
      have hkN : (k : Int) < (N : Int) := by omega
      have c2 : wr.cell? ⟨g2, off2 + k, none⟩ = some (.int .i64 i) := by
        rw [← hi]
        exact ((HB3.out.trans (hB.mono (by omega))).cell (p := ⟨g2, off2 + k, none⟩) (by show g2 < _; omega)).trans (HCL.out k (by omega))
      have IW : Hid (∀ w, Calls Try.prog 109 #[.int .i64 i, .int .i64 0, .int .i64 ((n : Int) - 1)] w fun e w' => e = .returned (.bool true) ∧ w = w') := fun w => by
        have := l01In_c i 0 ((n : Int) - 1) w
        rwa [inB_mk ⟨by omega, by omega⟩] at this
      have HWB : Hid (∀ j, wantB xs (k + 1) j = if j = i then true else wantB xs k j) := fun j => wantB_succ (by have := HN.out; omega) hi j
      have HWN := Lib.hid hwn
      clear hB hi hwn
      go_wp2_with fail
      refine (IW.out _).mono ?_
      rintro e w5 ⟨rfl, rfl⟩
      have b5 : Below wr.heap.size wr wr := Below.refl _ _
      have w5e : wr = wr := rfl
      have r5 := HK.out.of_block (b5.block _ hX)
      have q1 := r5.cell (i := i) (by omega)
      rw [HWN.out] at q1
      have q2 := r5.frozen i
      have R5 := Lib.hid r5
      have B5 : Hid (Below w3.heap.size w3 wr) := HB.out.trans (b5.mono zB)
      have hii : (i : Int) < (n : Int) := by omega
      clear r5 b5 f0 f1
      go_wp2_with fail
      go_roundw
      case rel => exact ⟨k + 1, by omega, by go_num, (by show World.rowIs _ _ _ _ _; exact (R5.out.set i (.bool true)).congr fun j _ => by rw [HWB.out]; split <;> rfl), B5.out.setCell (by show w3.heap.size ≤ w3.heap.size; omega) _⟩
      case measure => simp [intOf] <;> omega
    · have hkK : k = K := by omega
      have hkN : (k : Int) < (N : Int) := by omega
      obtain ⟨x, hx⟩ : ∃ x, x = xs.getD K 0 := ⟨_, rfl⟩
      have c2 : wr.cell? ⟨g2, off2 + k, none⟩ = some (.int .i64 x) := by
        rw [hx, ← hkK]
        exact ((HB3.out.trans (hB.mono (by omega))).cell (p := ⟨g2, off2 + k, none⟩) (by show g2 < _; omega)).trans (HCL.out k (by omega))
      have hbad := HKB.out
      unfold okAt at hbad
      rw [← hx] at hbad
      have HBB : Hid (Below w3.heap.size w3 wr) := hB
      clear hB HB
      cases hin : inB x 0 ((n : Int) - 1)
      · have IW : Hid (∀ w, Calls Try.prog 109 #[.int .i64 x, .int .i64 0, .int .i64 ((n : Int) - 1)] w fun e w' => e = .returned (.bool false) ∧ w = w') := fun w => by
          have := l01In_c x 0 ((n : Int) - 1) w
          rwa [hin] at this
        clear hin hbad hkK hx
        go_wp2_with fail
        refine (IW.out _).mono ?_
        rintro e w5 ⟨rfl, rfl⟩
        have B5 : Hid (Below w.heap.size w wr) := HB3.out.trans (HBB.out.mono (by omega))
        have hr9 := blk_below HR9.out HBB.out (by omega)
        have q0 := blk_cell hr9 0
        have q1 := blk_cell hr9 1
        have x0 := blk_free hr9 0
        have x1 := blk_free hr9 1
        clear hr9 f0 f1
        go_wp2_with fail
        refine bodyPost_ret (v := .tuple #[.agg #[.int .i64 0, .slice none 0 0], .bool false]) (by simp [results, Try.results26, go_sem, q0, q1]) rfl ⟨_, [], rfl, OwnR.nil _ _ _, ?_⟩
        first
          | exact (B5.out.setCell (by show w.heap.size ≤ w.heap.size + 1; omega) _).setCell (by show w.heap.size ≤ w.heap.size + 1; omega) _
          | exact B5.out
      · have IW : Hid (∀ w, Calls Try.prog 109 #[.int .i64 x, .int .i64 0, .int .i64 ((n : Int) - 1)] w fun e w' => e = .returned (.bool true) ∧ w = w') := fun w => by
          have := l01In_c x 0 ((n : Int) - 1) w
          rwa [hin] at this
        have hx2 := inB_of hin
        obtain ⟨i, rfl⟩ : ∃ i : Nat, x = (i : Int) := ⟨x.toNat, by omega⟩
        have hw1 : wantB xs K i = true := by
          rw [hin] at hbad
          simpa [wantB] using hbad
        rw [← hkK] at hw1
        have HW1 := Lib.hid hw1
        have hii : (i : Int) < (n : Int) := by omega
        clear hin hbad hkK hx hw1
        go_wp2_with fail
        refine (IW.out _).mono ?_
        rintro e w5 ⟨rfl, rfl⟩
        have B5 : Hid (Below w.heap.size w wr) := HB3.out.trans (HBB.out.mono (by omega))
        have qr := (HK.out : World.rowIs _ _ _ _ _).cell (i := i) (by omega)
        rw [HW1.out] at qr
        have hr9 := blk_below HR9.out HBB.out (by omega)
        have q0 := blk_cell hr9 0
        have q1 := blk_cell hr9 1
        have x0 := blk_free hr9 0
        have x1 := blk_free hr9 1
        clear hr9 f0 f1
        go_wp2_with fail
        refine bodyPost_ret (v := .tuple #[.agg #[.int .i64 0, .slice none 0 0], .bool false]) (by simp [results, Try.results26, go_sem, q0, q1]) rfl ⟨_, [], rfl, OwnR.nil _ _ _, ?_⟩
        first
          | exact (B5.out.setCell (by show w.heap.size ≤ w.heap.size + 1; omega) _).setCell (by show w.heap.size ≤ w.heap.size + 1; omega) _
          | exact B5.out

/-- Whether a network is valid and the wires are its own and differ. -/
def sonB (n : Int) (xss : List (List Int)) (xs : List Int) : Bool := netOk n xss && seqB n.toNat xs
theorem SortOn_i_c (a : Int) (lo hi lo2 hi2 : Nat) (v : Value) (vs : List Value) (xss : List (List Int)) (u : Value) (xs : List Int) (w : World) (hv : OwnR w lo hi v vs xss) (hhi : hi ≤ w.heap.size) (hu : IntsV w lo2 hi2 u xs) (hh2 : hi2 ≤ w.heap.size) (hlx : xs.length ≤ 1048576) :
    Calls Try.prog 28 #[.agg #[.int .i64 a, v], u] w (NetC w (outN a (sortOnX xss xs) (sonB a xss xs)) (outX a (sortOnX xss xs) (sonB a xss xs)) (outB a (sortOnX xss xs) (sonB a xss xs))) := by
  cases hok : netOk a xss
  · rw [show sonB a xss xs = false from by simp [sonB, hok]]
    obtain ⟨ao2, g2, off2, cap2, rfl, -⟩ := hu
    exact (SortOn_i_none a lo hi v vs xss ao2 _ cap2 w hv hhi hok).mono fun e w' h => out_no _ _ h
  · have hna := netOk_n hok
    obtain ⟨n, rfl⟩ : ∃ n : Nat, a = (n : Int) := ⟨a.toNat, by omega⟩
    cases hws : seqB n xs
    · rw [show sonB (n : Int) xss xs = false from by simp [sonB, hws]]
      by_cases h0 : 0 < xs.length
      · exact (SortOn_i_bad n lo hi lo2 hi2 v vs xss u xs w hv hhi hok hu hh2 hlx h0 hws).mono fun e w' h => out_no _ _ h
      · obtain ⟨ao2, g2, off2, cap2, rfl, -⟩ := hu
        exact (SortOn_i_empty n lo hi v vs xss ao2 _ cap2 w hv hhi hok (by omega)).mono fun e w' h => out_no _ _ h
    · rw [show sonB (n : Int) xss xs = true from by simp [sonB, hok, hws]]
      exact (SortOn_i_yes n lo hi lo2 hi2 v vs xss u xs w hv hhi hok hu hh2 hws).mono fun e w' h => out_yes _ _ h
theorem SortOn_s_c (a : Int) (lo hi lo2 hi2 : Nat) (v : Value) (vs : List Value) (xss : List (List Int)) (u : Value) (xs : List Int) (w : World) (hv : OwnR w lo hi v vs xss) (hhi : hi ≤ w.heap.size) (hu : IntsV w lo2 hi2 u xs) (hh2 : hi2 ≤ w.heap.size) (hlx : xs.length ≤ 1048576) :
    Calls Try.prog 26 #[.agg #[.int .i64 a, v], u] w (NetC w (outN a (sortOnX xss xs) (sonB a xss xs)) (outX a (sortOnX xss xs) (sonB a xss xs)) (outB a (sortOnX xss xs) (sonB a xss xs))) := by
  cases hok : netOk a xss
  · rw [show sonB a xss xs = false from by simp [sonB, hok]]
    obtain ⟨ao2, g2, off2, cap2, rfl, -⟩ := hu
    exact (SortOn_s_none a lo hi v vs xss ao2 _ cap2 w hv hhi hok).mono fun e w' h => out_no _ _ h
  · have hna := netOk_n hok
    obtain ⟨n, rfl⟩ : ∃ n : Nat, a = (n : Int) := ⟨a.toNat, by omega⟩
    cases hws : seqB n xs
    · rw [show sonB (n : Int) xss xs = false from by simp [sonB, hws]]
      by_cases h0 : 0 < xs.length
      · exact (SortOn_s_bad n lo hi lo2 hi2 v vs xss u xs w hv hhi hok hu hh2 hlx h0 hws).mono fun e w' h => out_no _ _ h
      · obtain ⟨ao2, g2, off2, cap2, rfl, -⟩ := hu
        exact (SortOn_s_empty n lo hi v vs xss ao2 _ cap2 w hv hhi hok (by omega)).mono fun e w' h => out_no _ _ h
    · rw [show sonB (n : Int) xss xs = true from by simp [sonB, hok, hws]]
      exact (SortOn_s_yes n lo hi lo2 hi2 v vs xss u xs w hv hhi hok hu hh2 hws).mono fun e w' h => out_yes _ _ h
theorem fnExactSortOn_walk (w : World) (a0 : Int) (u0 : Value) (us0 : List Value) (x0 : List (List Int)) (hu : RowsV w 0 w.heap.size u0 us0 x0) (hm : x0.length ≤ maxLen) (hn : ∀ xs ∈ x0, xs.length ≤ maxLen) (u1 : Value) (x1 : List Int) (hu1 : IntsV w 0 w.heap.size u1 x1) (hm1 : x1.length ≤ maxLen) :
    Calls Try.prog 5 #[.agg #[.int .i64 a0, u0], u1] w fun e w' => e = .returned (.bool true) ∧ Below w.heap.size w w' :=
  FnExactSortOn_core w a0 u0 us0 x0 hu hm hn u1 x1 hu1 hm1 _ _ _ (outX_small a0 (sortOnX x0 x1) (sonB a0 x0 x1))
    (fun w l0 h0 v0 vs0 l1 h1 v1 o0 b0 _ o1 b1 m1 => SortOn_s_c a0 l0 h0 l1 h1 v0 vs0 x0 v1 x1 w o0 b0 o1.ints b1 m1)
    (fun w l0 h0 v0 vs0 l1 h1 v1 o0 b0 _ o1 b1 m1 => SortOn_i_c a0 l0 h0 l1 h1 v0 vs0 x0 v1 x1 w o0 b0 o1.ints b1 m1)
end Go.Proofs.Ytgdkihabphihoaa
