/- The levels of a network's comparators and its depth, in the program, by their contracts. Conditions: the network is valid. -/
import Derived.Test.YtiodolbgapjmkaaGreatDoorApplyN
namespace Go.Proofs.YtiodolbgapjmkaaGreatDoor
open Go.RowKit
set_option maxRecDepth 100000
set_option linter.unusedVariables false
set_option linter.unusedSimpArgs false

/-- The level of a comparator whose wires have seen so many levels. -/
def lvl1 (last : Nat → Nat) (p : List Int) : Nat := 1 + max (last (p.getD 0 0).toNat) (last (p.getD 1 0).toNat)
/-- The levels that the wires have seen behind k comparators. -/
def lastK (xss : List (List Int)) : Nat → Nat → Nat
  | 0, _ => 0
  | k + 1, j => if j = ((xss.getD k []).getD 1 0).toNat then lvl1 (lastK xss k) (xss.getD k []) else if j = ((xss.getD k []).getD 0 0).toNat then lvl1 (lastK xss k) (xss.getD k []) else lastK xss k j
/-- The level of comparator k. -/
def lvAt (xss : List (List Int)) (k : Nat) : Nat := lvl1 (lastK xss k) (xss.getD k [])
def levelsP (xss : List (List Int)) (k : Nat) : List Int := (List.range k).map fun j => (lvAt xss j : Int)
theorem levelsP_succ (xss : List (List Int)) (k : Nat) : levelsP xss (k + 1) = levelsP xss k ++ [(lvAt xss k : Int)] := by simp [levelsP, List.range_succ]
theorem levelsP_len (xss : List (List Int)) (k : Nat) : (levelsP xss k).length = k := by simp [levelsP]
theorem lastK_le (xss : List (List Int)) : ∀ k j, lastK xss k j ≤ k
  | 0, _ => Nat.le_refl _
  | k + 1, j => by
    have h1 := lastK_le xss k ((xss.getD k []).getD 0 0).toNat
    have h2 := lastK_le xss k ((xss.getD k []).getD 1 0).toNat
    have h3 := lastK_le xss k j
    simp only [lastK, lvl1]
    split
    · omega
    · split <;> omega
theorem lvAt_le (xss : List (List Int)) (k : Nat) : lvAt xss k ≤ k + 1 := by
  have h1 := lastK_le xss k ((xss.getD k []).getD 0 0).toNat
  have h2 := lastK_le xss k ((xss.getD k []).getD 1 0).toNat
  simp only [lvAt, lvl1]
  omega
/-- The depth behind k comparators. -/
def depthP (xss : List (List Int)) : Nat → Nat
  | 0 => 0
  | k + 1 => max (depthP xss k) (lvAt xss k)
theorem depthP_le (xss : List (List Int)) : ∀ k, depthP xss k ≤ k
  | 0 => Nat.le_refl _
  | k + 1 => by have := depthP_le xss k; have := lvAt_le xss k; simp only [depthP]; omega
set_option maxHeartbeats 4000000 in
theorem levels_c (n : Nat) (lo hi : Nat) (v : Value) (vs : List Value) (xss : List (List Int)) (w : World) (hv : OwnR w lo hi v vs xss) (hhi : hi ≤ w.heap.size) (hok : netOk n xss = true) :
    Calls Tryz.prog 23 #[.agg #[.int .i64 n, v]] w (IntC w (levelsP xss xss.length)) := by
  have hn := netOk_n hok
  have hl60 := netOk_len hok
  have HP := Lib.hid (netOk_pair hok)
  obtain ⟨ao, g, cap, A, G, C, rfl, hcap, hao, hrow⟩ := hv.view
  have HRW := Lib.hid hrow
  have HAO := Lib.hid hao
  obtain ⟨L, hL⟩ : ∃ L, L = xss.length := ⟨_, rfl⟩
  have HL := Lib.hid hL
  rw [← hL] at HRW HAO hl60 hcap HP ⊢
  clear hv hrow hao hL hok
  go_enter Tryz.func23, Tryz.ntmps23
  go_wp2_with fail
  obtain ⟨W1, hW1, c0, c1, hsz, hB1, -, -⟩ := box2 w (.int .i64 n) (.slice ao L cap) 25
  rw [hW1]
  clear hW1
  obtain ⟨W4, hW4⟩ : ∃ W, W = W1.alloc (.cells #[.int .i64 0, .int .i64 0, .int .i64 0, .int .i64 0, .int .i64 0, .int .i64 0, .int .i64 0, .int .i64 0] 72) := ⟨_, rfl⟩
  have hR4 : W4.rowIs W1.heap.size 72 8 (fun j => .int .i64 (lastK xss 0 j : Nat)) := by
    rw [hW4]
    refine World.rowIs_alloc W1 _ _ _ fun i hi => ?_
    replace hi : i < 8 := hi
    match i, hi with
    | 0, _ | 1, _ | 2, _ | 3, _ | 4, _ | 5, _ | 6, _ | 7, _ => rfl
  have hB4 : Below w.heap.size w W4 := by rw [hW4]; exact hB1.alloc (by omega) _
  have hs4 : W4.heap.size = w.heap.size + 2 := by rw [hW4]; simp; omega
  obtain ⟨W5, hW5⟩ : ∃ W, W = W4.alloc (.cells #[] 3) := ⟨_, rfl⟩
  have hO5 : OwnI W5 (w.heap.size + 2) W5.heap.size (.slice (some ⟨W4.heap.size, 0, none⟩) 0 0) [] := by rw [hW5]; exact Own.mono (ownI_empty W4) (by omega) (by simp)
  have hB5 : Below w.heap.size w W5 := by rw [hW5]; exact hB4.alloc (by omega) _
  have hb45 : Below W4.heap.size W4 W5 := by rw [hW5]; exact (Below.refl _ _).alloc (Nat.le_refl _) _
  have hR5 : W5.rowIs (w.heap.size + 1) 72 8 (fun j => .int .i64 (lastK xss 0 j : Nat)) := by rw [hsz] at hR4; exact hR4.of_block (hb45.block _ (by omega))
  try rw [← hW4, ← hW5]
  try rw [hsz]
  rw [hs4] at hO5
  try rw [hs4]
  have hz5 : w.heap.size + 2 ≤ W5.heap.size := by have := hb45.size; omega
  clear hW4 hW5 hR4 hB4 hb45 c0 c1 hB1
  have HO5 := Lib.hid hO5
  have HR5 := Lib.hid hR5
  have HB5 := Lib.hid hB5
  clear hO5 hR5 hB5
  go_loopw [4, 13] (fun v i wr => ∃ k : Nat, k ≤ L ∧ i = .int .i64 k ∧ Hid (wr.rowIs (w.heap.size + 1) 72 8 (fun j => .int .i64 (lastK xss k j : Nat))) ∧ OwnI wr (w.heap.size + 2) wr.heap.size v (levelsP xss k) ∧ Below w.heap.size w wr ∧ w.heap.size + 2 ≤ wr.heap.size) (fun _ i _ => L - (intOf i).toNat)
  case atStart => exact ⟨0, Nat.zero_le _, rfl, HR5.out, HO5.out, HB5.out, hz5⟩
  case round =>
    obtain ⟨k, hk, rfl, HK, ho, hb, hzr⟩ := hrel
    have HO := Lib.hid ho
    have HB := Lib.hid hb
    clear HO5 HR5 HB5
    by_cases hlt : k < L
    · obtain ⟨i, j, hr, hi1, hj1, hne⟩ := HP.out k hlt
      obtain ⟨q1, q2, q3, q4⟩ := HRW.out k hlt
      obtain ⟨ha0, hg1, hg2⟩ := HAO.out (by omega)
      subst ha0
      have HRR := Lib.hid hr
      rw [hr] at q1 q2 q3 q4
      obtain ⟨ea, gk1, gk2⟩ := q3 (by simp)
      rw [ea] at q1
      have hk1 : (k : Int) < (L : Int) := by omega
      have c0 : wr.cell? ⟨g, k, none⟩ = some (.slice (some ⟨G k, 0, none⟩) 2 (C k)) := (hb.cell (p := ⟨g, k, none⟩) (by show g < _; omega)).trans q1
      have c1 : wr.cell? ⟨G k, 0, none⟩ = some (.int .i64 i) := (hb.cell (p := ⟨G k, 0, none⟩) (by show G k < _; omega)).trans (q4 0 (by simp))
      have c2 : wr.cell? ⟨G k, 1, none⟩ = some (.int .i64 j) := (hb.cell (p := ⟨G k, 1, none⟩) (by show G k < _; omega)).trans (q4 1 (by simp))
      have hGk : G k < wr.heap.size := by omega
      obtain ⟨a, ha⟩ : ∃ a, a = lastK xss k i := ⟨_, rfl⟩
      obtain ⟨b, hbb⟩ : ∃ b, b = lastK xss k j := ⟨_, rfl⟩
      obtain ⟨l, hl⟩ : ∃ l, l = 1 + max a b := ⟨_, rfl⟩
      have HLV : Hid (lvAt xss k = l) := by
        show _ = _
        rw [lvAt, hr, hl, ha, hbb]
        simp only [lvl1, List.getD_cons_zero, List.getD_cons_succ, Int.toNat_natCast]
      have HLS : Hid (∀ t, lastK xss (k + 1) t = if t = j then l else if t = i then l else lastK xss k t) := by
        show ∀ t, _
        intro t
        have h1 := HLV.out
        simp only [lvAt] at h1
        rw [hr] at h1
        simp only [lastK, hr, h1, List.getD_cons_zero, List.getD_cons_succ, Int.toNat_natCast]
      have la : a ≤ k := by rw [ha]; exact lastK_le _ _ _
      have lb : b ≤ k := by rw [hbb]; exact lastK_le _ _ _
      have c3 : wr.cell? ⟨w.heap.size + 1, i, none⟩ = some (.int .i64 a) := by rw [ha]; exact HK.out.cell (i := i) (by omega)
      have c4 : wr.cell? ⟨w.heap.size + 1, j, none⟩ = some (.int .i64 b) := by rw [hbb]; exact HK.out.cell (i := j) (by omega)
      have hi8 : (i : Int) < 8 := by omega
      have hj8 : (j : Int) < 8 := by omega
      have hgne : w.heap.size + 1 ≠ G k := by omega
      have HLL := Lib.hid hl
      have f1 := HK.out.frozen i
      have f2 := HK.out.frozen j
      rcases (by omega : (b ≤ a ∧ l = 1 + a) ∨ (a < b ∧ l = 1 + b)) with ⟨hab, hla0⟩ | ⟨hab, hla0⟩
      · have hla := Lib.hid hla0
        clear hla0 q1 q2 q3 q4 hr ea ho hb ha hbb hl
        have habi : ¬ (a : Int) < (b : Int) := by omega
        have habj : (b : Int) ≤ (a : Int) := by omega
        have hw : IntKind.i64.wrap (1 + (a : Int)) = (l : Int) := by rw [show (1 + (a : Int)) = (l : Int) by have := hla.out; omega]; exact IntWalk.i64_in _ (by have := hla.out; omega)
        go_wp2_with fail
        refine wpU_start (S := fun W' : World => W'.cell? ⟨G k, 0, none⟩ = some (.int .i64 i) ∧ W'.cell? ⟨G k, 1, none⟩ = some (.int .i64 j) ∧ W'.cell? ⟨w.heap.size + 1, i, none⟩ = some (.int .i64 a) ∧ W'.cell? ⟨w.heap.size + 1, j, none⟩ = some (.int .i64 b)) (m := 12) (by kernel_rfl) ?_
        have hHeld : (fun W' : World => W'.cell? ⟨G k, 0, none⟩ = some (.int .i64 i) ∧ W'.cell? ⟨G k, 1, none⟩ = some (.int .i64 j) ∧ W'.cell? ⟨w.heap.size + 1, i, none⟩ = some (.int .i64 a) ∧ W'.cell? ⟨w.heap.size + 1, j, none⟩ = some (.int .i64 b)) wr.drew := ⟨c1, c2, c3, c4⟩
        refine wpU_take (i := 0) (v := ?_) rfl (by kernel_rfl) (fun _ _ _ h => h) ⟨by rfl, ?_⟩ hHeld ?_
        rotate_left
        · (intro w hSw; (try dsimp only at hSw); go_simp; try with_reducible rfl)
        try simp only [Act.put, List.setIfInBounds_toArray, List.set_cons_zero, List.set_cons_succ]
        refine wpU_take (i := 1) (v := ?_) rfl (by kernel_rfl) (fun _ _ _ h => h) ⟨by rfl, ?_⟩ hHeld ?_
        rotate_left
        · (intro w hSw; (try dsimp only at hSw); go_simp; try with_reducible rfl)
        try simp only [Act.put, List.setIfInBounds_toArray, List.set_cons_zero, List.set_cons_succ]
        refine wpU_take (i := 2) (v := ?_) rfl (by kernel_rfl) (fun _ _ _ h => h) ⟨by rfl, ?_⟩ hHeld ?_
        rotate_left
        · (intro w hSw; (try dsimp only at hSw); go_simp; try with_reducible rfl)
        try simp only [Act.put, List.setIfInBounds_toArray, List.set_cons_zero, List.set_cons_succ]
        refine wpU_take (i := 3) (v := ?_) rfl (by kernel_rfl) (fun _ _ _ h => h) ⟨by rfl, ?_⟩ hHeld ?_
        rotate_left
        · (intro w hSw; (try dsimp only at hSw); go_simp; try with_reducible rfl)
        try simp only [Act.put, List.setIfInBounds_toArray, List.set_cons_zero, List.set_cons_succ]
        refine wpU_take (i := 4) (v := ?_) rfl (by kernel_rfl) (fun _ _ _ h => h) ⟨by rfl, ?_⟩ hHeld ?_
        rotate_left
        · (intro w hSw; (try dsimp only at hSw); go_simp; try with_reducible rfl)
        try simp only [Act.put, List.setIfInBounds_toArray, List.set_cons_zero, List.set_cons_succ]
        refine wpU_take (i := 5) (v := ?_) rfl (by kernel_rfl) (fun _ _ _ h => h) ⟨by rfl, ?_⟩ hHeld ?_
        rotate_left
        · (intro w hSw; (try dsimp only at hSw); go_simp; try with_reducible rfl)
        try simp only [Act.put, List.setIfInBounds_toArray, List.set_cons_zero, List.set_cons_succ]
        refine wpU_take (i := 6) (v := ?_) rfl (by kernel_rfl) (fun _ _ _ h => h) ⟨by rfl, ?_⟩ hHeld ?_
        rotate_left
        · (intro w hSw; (try dsimp only at hSw); go_simp; try with_reducible rfl)
        try simp only [Act.put, List.setIfInBounds_toArray, List.set_cons_zero, List.set_cons_succ]
        refine wpU_take (i := 7) (v := ?_) rfl (by kernel_rfl) (fun _ _ _ h => h) ⟨by rfl, ?_⟩ hHeld ?_
        rotate_left
        · (intro w hSw; (try dsimp only at hSw); go_simp; try with_reducible rfl)
        try simp only [Act.put, List.setIfInBounds_toArray, List.set_cons_zero, List.set_cons_succ]
        refine wpU_take (i := 8) (v := ?_) rfl (by kernel_rfl) (fun _ _ _ h => h) ⟨by rfl, ?_⟩ hHeld ?_
        rotate_left
        · (intro w hSw; (try dsimp only at hSw); go_simp; try with_reducible rfl)
        try simp only [Act.put, List.setIfInBounds_toArray, List.set_cons_zero, List.set_cons_succ]
        refine wpU_take (i := 9) (v := ?_) rfl (by kernel_rfl) (fun _ _ _ h => h) ⟨by rfl, ?_⟩ hHeld ?_
        rotate_left
        · (intro w hSw; (try dsimp only at hSw); go_simp; try with_reducible rfl)
        try simp only [Act.put, List.setIfInBounds_toArray, List.set_cons_zero, List.set_cons_succ]
        refine wpU_take (i := 10) (v := ?_) rfl (by kernel_rfl) (fun _ _ _ h => h) ⟨by rfl, ?_⟩ hHeld ?_
        rotate_left
        · (intro w hSw; (try dsimp only at hSw); go_simp; try with_reducible rfl)
        try simp only [Act.put, List.setIfInBounds_toArray, List.set_cons_zero, List.set_cons_succ]
        refine wpU_take (i := 11) (v := ?_) rfl (by kernel_rfl) (fun _ _ _ h => h) ⟨by rfl, ?_⟩ hHeld ?_
        rotate_left
        · (intro w hSw; (try dsimp only at hSw); go_simp; try with_reducible rfl)
        try simp only [Act.put, List.setIfInBounds_toArray, List.set_cons_zero, List.set_cons_succ]
        refine wpU_last (by kernel_rfl) rfl (fun K hK => ?_)
        go_simp
        refine hK.out _ _ ?_
        clear hK K
        try simp only [Act.put, List.setIfInBounds_toArray, List.set_cons_zero, List.set_cons_succ]
        refine wpU_done (by kernel_rfl) ?_ _
        try simp only [hw]
        go_wp2_with fail
        refine wpU_start (S := fun W' : World => W'.cell? ⟨G k, 0, none⟩ = some (.int .i64 i) ∧ W'.cell? ⟨G k, 1, none⟩ = some (.int .i64 j)) (m := 11) (by kernel_rfl) ?_
        have hHeld : (fun W' : World => W'.cell? ⟨G k, 0, none⟩ = some (.int .i64 i) ∧ W'.cell? ⟨G k, 1, none⟩ = some (.int .i64 j)) wr.drew.drew := ⟨c1, c2⟩
        refine wpU_take (i := 0) (v := ?_) rfl (by kernel_rfl) (fun _ _ _ h => h) ⟨by rfl, ?_⟩ hHeld ?_
        rotate_left
        · (intro w hSw; (try dsimp only at hSw); go_simp; try with_reducible rfl)
        try simp only [Act.put, List.setIfInBounds_toArray, List.set_cons_zero, List.set_cons_succ]
        refine wpU_take (i := 1) (v := ?_) rfl (by kernel_rfl) (fun _ _ _ h => h) ⟨by rfl, ?_⟩ hHeld ?_
        rotate_left
        · (intro w hSw; (try dsimp only at hSw); go_simp; try with_reducible rfl)
        try simp only [Act.put, List.setIfInBounds_toArray, List.set_cons_zero, List.set_cons_succ]
        refine wpU_take (i := 2) (v := ?_) rfl (by kernel_rfl) (fun _ _ _ h => h) ⟨by rfl, ?_⟩ hHeld ?_
        rotate_left
        · (intro w hSw; (try dsimp only at hSw); go_simp; try with_reducible rfl)
        try simp only [Act.put, List.setIfInBounds_toArray, List.set_cons_zero, List.set_cons_succ]
        refine wpU_take (i := 3) (v := ?_) rfl (by kernel_rfl) (fun _ _ _ h => h) ⟨by rfl, ?_⟩ hHeld ?_
        rotate_left
        · (intro w hSw; (try dsimp only at hSw); go_simp; try with_reducible rfl)
        try simp only [Act.put, List.setIfInBounds_toArray, List.set_cons_zero, List.set_cons_succ]
        refine wpU_take (i := 4) (v := ?_) rfl (by kernel_rfl) (fun _ _ _ h => h) ⟨by rfl, ?_⟩ hHeld ?_
        rotate_left
        · (intro w hSw; (try dsimp only at hSw); go_simp; try with_reducible rfl)
        try simp only [Act.put, List.setIfInBounds_toArray, List.set_cons_zero, List.set_cons_succ]
        refine wpU_take (i := 5) (v := ?_) rfl (by kernel_rfl) (fun _ _ _ h => h) ⟨by rfl, ?_⟩ hHeld ?_
        rotate_left
        · (intro w hSw; (try dsimp only at hSw); go_simp; try with_reducible rfl)
        try simp only [Act.put, List.setIfInBounds_toArray, List.set_cons_zero, List.set_cons_succ]
        refine wpU_take (i := 6) (v := ?_) rfl (by kernel_rfl) (fun _ _ _ h => h) ⟨by rfl, ?_⟩ hHeld ?_
        rotate_left
        · (intro w hSw; (try dsimp only at hSw); go_simp; try with_reducible rfl)
        try simp only [Act.put, List.setIfInBounds_toArray, List.set_cons_zero, List.set_cons_succ]
        refine wpU_take (i := 7) (v := ?_) rfl (by kernel_rfl) (fun _ _ _ h => h) ⟨by rfl, ?_⟩ hHeld ?_
        rotate_left
        · (intro w hSw; (try dsimp only at hSw); go_simp; try with_reducible rfl)
        try simp only [Act.put, List.setIfInBounds_toArray, List.set_cons_zero, List.set_cons_succ]
        refine wpU_take (i := 8) (v := ?_) rfl (by kernel_rfl) (fun _ _ _ h => h) ⟨by rfl, ?_⟩ hHeld ?_
        rotate_left
        · (intro w hSw; (try dsimp only at hSw); go_simp; try with_reducible rfl)
        try simp only [Act.put, List.setIfInBounds_toArray, List.set_cons_zero, List.set_cons_succ]
        refine wpU_one (i := 9) (by kernel_rfl) rfl (fun K hK => ?_)
        go_simp
        refine hK.out _ _ (⟨(World.cell?_setCell_far _ _ _ _ hgne).trans c1, (World.cell?_setCell_far _ _ _ _ hgne).trans c2⟩) (fun hHeld => ?_)
        clear hK K
        try simp only [Act.put, List.setIfInBounds_toArray, List.set_cons_zero, List.set_cons_succ]
        refine wpU_take (i := 10) (v := ?_) rfl (by kernel_rfl) (fun _ _ _ h => h) ⟨by rfl, ?_⟩ hHeld ?_
        rotate_left
        · (intro w hSw; (try dsimp only at hSw); go_simp; try with_reducible rfl)
        try simp only [Act.put, List.setIfInBounds_toArray, List.set_cons_zero, List.set_cons_succ]
        refine wpU_last (by kernel_rfl) rfl (fun K hK => ?_)
        go_simp
        refine hK.out _ _ ?_
        clear hK K
        try simp only [Act.put, List.setIfInBounds_toArray, List.set_cons_zero, List.set_cons_succ]
        refine wpU_done (by kernel_rfl) ?_ _
        have hx1 : (1 + (a : Int)) = (l : Int) := by have := hla.out; omega
        have hx2 : (1 + ((max a b : Nat) : Int)) = (l : Int) := by have := HLL.out; omega
        try simp only [hx1, hx2]
        obtain ⟨W8, hW8⟩ : ∃ W, W = ((wr.setCell ⟨w.heap.size + 1, i, none⟩ (.int .i64 l)).setCell ⟨w.heap.size + 1, j, none⟩ (.int .i64 l)).drew.drew := ⟨_, rfl⟩
        have hR8 : W8.rowIs (w.heap.size + 1) 72 8 (fun t => .int .i64 (lastK xss (k + 1) t : Nat)) := by
          rw [hW8]
          refine ((HK.out.set i (.int .i64 l)).set j (.int .i64 l)).congr fun t ht => ?_
          rw [HLS.out]
          by_cases e : t = j
          · simp [e]
          · by_cases e' : t = i
            · simp [e']
            · simp [e, e']
        have hO8 : OwnI W8 (w.heap.size + 2) wr.heap.size u4 (levelsP xss k) := by
          rw [hW8]
          exact Own.drew (Own.drew (Own.kept HO.out fun q q1 q2 q3 => by rw [Below.heap_setCell _ _ _ _ (by show q ≠ w.heap.size + 1; omega), Below.heap_setCell _ _ _ _ (by show q ≠ w.heap.size + 1; omega)]))
        have hB8 : Below w.heap.size w W8 := by
          rw [hW8]
          exact (((HB.out.setCell (by show w.heap.size ≤ w.heap.size + 1; omega) _).setCell (by show w.heap.size ≤ w.heap.size + 1; omega) _).drew).drew
        have hz8 : w.heap.size + 2 ≤ W8.heap.size := by rw [hW8]; simp [World.setCell, World.drew]; omega
        rw [← hW8]
        clear hW8 HO HK hx1 hx2 hw
        have HR8 := Lib.hid hR8
        have HO8 := Lib.hid hO8
        have HB8 := Lib.hid hB8
        have HLN : Hid ((levelsP xss k).length ≤ 100000000) := by show _ ≤ _; rw [levelsP_len]; omega
        clear hR8 hO8 hB8
        go_wp2_with (at_builtin; refine wpList_app_int rfl (.tmp 39) (.tmp 41) rfl W8 (l : Int) (w.heap.size + 2) wr.heap.size _ (levelsP xss k) HO8.out hz8 HLN.out rfl rfl ?_; intro ao5 L5 cap5 w5 hL5 o5 b5 z5; have O5 := Lib.hid o5; have B5 := Lib.hid b5; clear o5 b5)
        go_roundw
        case rel => exact ⟨k + 1, by omega, by go_num, HR8.out.of_block (B5.out.block _ (by omega)), by rw [levelsP_succ, HLV.out]; exact O5.out, HB8.out.trans (B5.out.mono (by omega)), z5⟩
        case measure => simp [intOf] <;> omega
      · have hla := Lib.hid hla0
        clear hla0 q1 q2 q3 q4 hr ea ho hb ha hbb hl
        have habi : (a : Int) < (b : Int) := by omega
        have habj : (a : Int) ≤ (b : Int) := by omega
        have hw : IntKind.i64.wrap (1 + (b : Int)) = (l : Int) := by rw [show (1 + (b : Int)) = (l : Int) by have := hla.out; omega]; exact IntWalk.i64_in _ (by have := hla.out; omega)
        go_wp2_with fail
        refine wpU_start (S := fun W' : World => W'.cell? ⟨G k, 0, none⟩ = some (.int .i64 i) ∧ W'.cell? ⟨G k, 1, none⟩ = some (.int .i64 j) ∧ W'.cell? ⟨w.heap.size + 1, i, none⟩ = some (.int .i64 a) ∧ W'.cell? ⟨w.heap.size + 1, j, none⟩ = some (.int .i64 b)) (m := 12) (by kernel_rfl) ?_
        have hHeld : (fun W' : World => W'.cell? ⟨G k, 0, none⟩ = some (.int .i64 i) ∧ W'.cell? ⟨G k, 1, none⟩ = some (.int .i64 j) ∧ W'.cell? ⟨w.heap.size + 1, i, none⟩ = some (.int .i64 a) ∧ W'.cell? ⟨w.heap.size + 1, j, none⟩ = some (.int .i64 b)) wr.drew := ⟨c1, c2, c3, c4⟩
        refine wpU_take (i := 0) (v := ?_) rfl (by kernel_rfl) (fun _ _ _ h => h) ⟨by rfl, ?_⟩ hHeld ?_
        rotate_left
        · (intro w hSw; (try dsimp only at hSw); go_simp; try with_reducible rfl)
        try simp only [Act.put, List.setIfInBounds_toArray, List.set_cons_zero, List.set_cons_succ]
        refine wpU_take (i := 1) (v := ?_) rfl (by kernel_rfl) (fun _ _ _ h => h) ⟨by rfl, ?_⟩ hHeld ?_
        rotate_left
        · (intro w hSw; (try dsimp only at hSw); go_simp; try with_reducible rfl)
        try simp only [Act.put, List.setIfInBounds_toArray, List.set_cons_zero, List.set_cons_succ]
        refine wpU_take (i := 2) (v := ?_) rfl (by kernel_rfl) (fun _ _ _ h => h) ⟨by rfl, ?_⟩ hHeld ?_
        rotate_left
        · (intro w hSw; (try dsimp only at hSw); go_simp; try with_reducible rfl)
        try simp only [Act.put, List.setIfInBounds_toArray, List.set_cons_zero, List.set_cons_succ]
        refine wpU_take (i := 3) (v := ?_) rfl (by kernel_rfl) (fun _ _ _ h => h) ⟨by rfl, ?_⟩ hHeld ?_
        rotate_left
        · (intro w hSw; (try dsimp only at hSw); go_simp; try with_reducible rfl)
        try simp only [Act.put, List.setIfInBounds_toArray, List.set_cons_zero, List.set_cons_succ]
        refine wpU_take (i := 4) (v := ?_) rfl (by kernel_rfl) (fun _ _ _ h => h) ⟨by rfl, ?_⟩ hHeld ?_
        rotate_left
        · (intro w hSw; (try dsimp only at hSw); go_simp; try with_reducible rfl)
        try simp only [Act.put, List.setIfInBounds_toArray, List.set_cons_zero, List.set_cons_succ]
        refine wpU_take (i := 5) (v := ?_) rfl (by kernel_rfl) (fun _ _ _ h => h) ⟨by rfl, ?_⟩ hHeld ?_
        rotate_left
        · (intro w hSw; (try dsimp only at hSw); go_simp; try with_reducible rfl)
        try simp only [Act.put, List.setIfInBounds_toArray, List.set_cons_zero, List.set_cons_succ]
        refine wpU_take (i := 6) (v := ?_) rfl (by kernel_rfl) (fun _ _ _ h => h) ⟨by rfl, ?_⟩ hHeld ?_
        rotate_left
        · (intro w hSw; (try dsimp only at hSw); go_simp; try with_reducible rfl)
        try simp only [Act.put, List.setIfInBounds_toArray, List.set_cons_zero, List.set_cons_succ]
        refine wpU_take (i := 7) (v := ?_) rfl (by kernel_rfl) (fun _ _ _ h => h) ⟨by rfl, ?_⟩ hHeld ?_
        rotate_left
        · (intro w hSw; (try dsimp only at hSw); go_simp; try with_reducible rfl)
        try simp only [Act.put, List.setIfInBounds_toArray, List.set_cons_zero, List.set_cons_succ]
        refine wpU_take (i := 8) (v := ?_) rfl (by kernel_rfl) (fun _ _ _ h => h) ⟨by rfl, ?_⟩ hHeld ?_
        rotate_left
        · (intro w hSw; (try dsimp only at hSw); go_simp; try with_reducible rfl)
        try simp only [Act.put, List.setIfInBounds_toArray, List.set_cons_zero, List.set_cons_succ]
        refine wpU_take (i := 9) (v := ?_) rfl (by kernel_rfl) (fun _ _ _ h => h) ⟨by rfl, ?_⟩ hHeld ?_
        rotate_left
        · (intro w hSw; (try dsimp only at hSw); go_simp; try with_reducible rfl)
        try simp only [Act.put, List.setIfInBounds_toArray, List.set_cons_zero, List.set_cons_succ]
        refine wpU_take (i := 10) (v := ?_) rfl (by kernel_rfl) (fun _ _ _ h => h) ⟨by rfl, ?_⟩ hHeld ?_
        rotate_left
        · (intro w hSw; (try dsimp only at hSw); go_simp; try with_reducible rfl)
        try simp only [Act.put, List.setIfInBounds_toArray, List.set_cons_zero, List.set_cons_succ]
        refine wpU_take (i := 11) (v := ?_) rfl (by kernel_rfl) (fun _ _ _ h => h) ⟨by rfl, ?_⟩ hHeld ?_
        rotate_left
        · (intro w hSw; (try dsimp only at hSw); go_simp; try with_reducible rfl)
        try simp only [Act.put, List.setIfInBounds_toArray, List.set_cons_zero, List.set_cons_succ]
        refine wpU_last (by kernel_rfl) rfl (fun K hK => ?_)
        go_simp
        refine hK.out _ _ ?_
        clear hK K
        try simp only [Act.put, List.setIfInBounds_toArray, List.set_cons_zero, List.set_cons_succ]
        refine wpU_done (by kernel_rfl) ?_ _
        try simp only [hw]
        go_wp2_with fail
        refine wpU_start (S := fun W' : World => W'.cell? ⟨G k, 0, none⟩ = some (.int .i64 i) ∧ W'.cell? ⟨G k, 1, none⟩ = some (.int .i64 j)) (m := 11) (by kernel_rfl) ?_
        have hHeld : (fun W' : World => W'.cell? ⟨G k, 0, none⟩ = some (.int .i64 i) ∧ W'.cell? ⟨G k, 1, none⟩ = some (.int .i64 j)) wr.drew.drew := ⟨c1, c2⟩
        refine wpU_take (i := 0) (v := ?_) rfl (by kernel_rfl) (fun _ _ _ h => h) ⟨by rfl, ?_⟩ hHeld ?_
        rotate_left
        · (intro w hSw; (try dsimp only at hSw); go_simp; try with_reducible rfl)
        try simp only [Act.put, List.setIfInBounds_toArray, List.set_cons_zero, List.set_cons_succ]
        refine wpU_take (i := 1) (v := ?_) rfl (by kernel_rfl) (fun _ _ _ h => h) ⟨by rfl, ?_⟩ hHeld ?_
        rotate_left
        · (intro w hSw; (try dsimp only at hSw); go_simp; try with_reducible rfl)
        try simp only [Act.put, List.setIfInBounds_toArray, List.set_cons_zero, List.set_cons_succ]
        refine wpU_take (i := 2) (v := ?_) rfl (by kernel_rfl) (fun _ _ _ h => h) ⟨by rfl, ?_⟩ hHeld ?_
        rotate_left
        · (intro w hSw; (try dsimp only at hSw); go_simp; try with_reducible rfl)
        try simp only [Act.put, List.setIfInBounds_toArray, List.set_cons_zero, List.set_cons_succ]
        refine wpU_take (i := 3) (v := ?_) rfl (by kernel_rfl) (fun _ _ _ h => h) ⟨by rfl, ?_⟩ hHeld ?_
        rotate_left
        · (intro w hSw; (try dsimp only at hSw); go_simp; try with_reducible rfl)
        try simp only [Act.put, List.setIfInBounds_toArray, List.set_cons_zero, List.set_cons_succ]
        refine wpU_take (i := 4) (v := ?_) rfl (by kernel_rfl) (fun _ _ _ h => h) ⟨by rfl, ?_⟩ hHeld ?_
        rotate_left
        · (intro w hSw; (try dsimp only at hSw); go_simp; try with_reducible rfl)
        try simp only [Act.put, List.setIfInBounds_toArray, List.set_cons_zero, List.set_cons_succ]
        refine wpU_take (i := 5) (v := ?_) rfl (by kernel_rfl) (fun _ _ _ h => h) ⟨by rfl, ?_⟩ hHeld ?_
        rotate_left
        · (intro w hSw; (try dsimp only at hSw); go_simp; try with_reducible rfl)
        try simp only [Act.put, List.setIfInBounds_toArray, List.set_cons_zero, List.set_cons_succ]
        refine wpU_take (i := 6) (v := ?_) rfl (by kernel_rfl) (fun _ _ _ h => h) ⟨by rfl, ?_⟩ hHeld ?_
        rotate_left
        · (intro w hSw; (try dsimp only at hSw); go_simp; try with_reducible rfl)
        try simp only [Act.put, List.setIfInBounds_toArray, List.set_cons_zero, List.set_cons_succ]
        refine wpU_take (i := 7) (v := ?_) rfl (by kernel_rfl) (fun _ _ _ h => h) ⟨by rfl, ?_⟩ hHeld ?_
        rotate_left
        · (intro w hSw; (try dsimp only at hSw); go_simp; try with_reducible rfl)
        try simp only [Act.put, List.setIfInBounds_toArray, List.set_cons_zero, List.set_cons_succ]
        refine wpU_take (i := 8) (v := ?_) rfl (by kernel_rfl) (fun _ _ _ h => h) ⟨by rfl, ?_⟩ hHeld ?_
        rotate_left
        · (intro w hSw; (try dsimp only at hSw); go_simp; try with_reducible rfl)
        try simp only [Act.put, List.setIfInBounds_toArray, List.set_cons_zero, List.set_cons_succ]
        refine wpU_one (i := 9) (by kernel_rfl) rfl (fun K hK => ?_)
        go_simp
        refine hK.out _ _ (⟨(World.cell?_setCell_far _ _ _ _ hgne).trans c1, (World.cell?_setCell_far _ _ _ _ hgne).trans c2⟩) (fun hHeld => ?_)
        clear hK K
        try simp only [Act.put, List.setIfInBounds_toArray, List.set_cons_zero, List.set_cons_succ]
        refine wpU_take (i := 10) (v := ?_) rfl (by kernel_rfl) (fun _ _ _ h => h) ⟨by rfl, ?_⟩ hHeld ?_
        rotate_left
        · (intro w hSw; (try dsimp only at hSw); go_simp; try with_reducible rfl)
        try simp only [Act.put, List.setIfInBounds_toArray, List.set_cons_zero, List.set_cons_succ]
        refine wpU_last (by kernel_rfl) rfl (fun K hK => ?_)
        go_simp
        refine hK.out _ _ ?_
        clear hK K
        try simp only [Act.put, List.setIfInBounds_toArray, List.set_cons_zero, List.set_cons_succ]
        refine wpU_done (by kernel_rfl) ?_ _
        have hx1 : (1 + (b : Int)) = (l : Int) := by have := hla.out; omega
        have hx2 : (1 + ((max a b : Nat) : Int)) = (l : Int) := by have := HLL.out; omega
        try simp only [hx1, hx2]
        obtain ⟨W8, hW8⟩ : ∃ W, W = ((wr.setCell ⟨w.heap.size + 1, i, none⟩ (.int .i64 l)).setCell ⟨w.heap.size + 1, j, none⟩ (.int .i64 l)).drew.drew := ⟨_, rfl⟩
        have hR8 : W8.rowIs (w.heap.size + 1) 72 8 (fun t => .int .i64 (lastK xss (k + 1) t : Nat)) := by
          rw [hW8]
          refine ((HK.out.set i (.int .i64 l)).set j (.int .i64 l)).congr fun t ht => ?_
          rw [HLS.out]
          by_cases e : t = j
          · simp [e]
          · by_cases e' : t = i
            · simp [e']
            · simp [e, e']
        have hO8 : OwnI W8 (w.heap.size + 2) wr.heap.size u4 (levelsP xss k) := by
          rw [hW8]
          exact Own.drew (Own.drew (Own.kept HO.out fun q q1 q2 q3 => by rw [Below.heap_setCell _ _ _ _ (by show q ≠ w.heap.size + 1; omega), Below.heap_setCell _ _ _ _ (by show q ≠ w.heap.size + 1; omega)]))
        have hB8 : Below w.heap.size w W8 := by
          rw [hW8]
          exact (((HB.out.setCell (by show w.heap.size ≤ w.heap.size + 1; omega) _).setCell (by show w.heap.size ≤ w.heap.size + 1; omega) _).drew).drew
        have hz8 : w.heap.size + 2 ≤ W8.heap.size := by rw [hW8]; simp [World.setCell, World.drew]; omega
        rw [← hW8]
        clear hW8 HO HK hx1 hx2 hw
        have HR8 := Lib.hid hR8
        have HO8 := Lib.hid hO8
        have HB8 := Lib.hid hB8
        have HLN : Hid ((levelsP xss k).length ≤ 100000000) := by show _ ≤ _; rw [levelsP_len]; omega
        clear hR8 hO8 hB8
        go_wp2_with (at_builtin; refine wpList_app_int rfl (.tmp 39) (.tmp 41) rfl W8 (l : Int) (w.heap.size + 2) wr.heap.size _ (levelsP xss k) HO8.out hz8 HLN.out rfl rfl ?_; intro ao5 L5 cap5 w5 hL5 o5 b5 z5; have O5 := Lib.hid o5; have B5 := Lib.hid b5; clear o5 b5)
        go_roundw
        case rel => exact ⟨k + 1, by omega, by go_num, HR8.out.of_block (B5.out.block _ (by omega)), by rw [levelsP_succ, HLV.out]; exact O5.out, HB8.out.trans (B5.out.mono (by omega)), z5⟩
        case measure => simp [intOf] <;> omega
    · have HE : Hid (k = L) := by show k = L; omega
      have hk1 : ¬ (k : Int) < (L : Int) := by omega
      have z9 := hb.size
      clear ho hb
      go_wp2
      go_ret
      exact ⟨_, rfl, by rw [← HE.out]; exact Own.mono HO.out (by omega) (Nat.le_refl _), HB.out⟩
set_option maxHeartbeats 1000000 in
theorem DepthOf_y (n : Nat) (lo hi : Nat) (v : Value) (vs : List Value) (xss : List (List Int)) (w : World) (hv : OwnR w lo hi v vs xss) (hhi : hi ≤ w.heap.size) (hok : netOk n xss = true) :
    Calls Tryz.prog 7 #[.agg #[.int .i64 n, v]] w fun e w' => e = .returned (.int .i64 (depthP xss xss.length : Nat)) ∧ Below w.heap.size w w' := by
  have HC : Hid (∀ w1, Below w.heap.size w w1 → Calls Tryz.prog 22 #[.agg #[.int .i64 n, v]] w1 fun e w' => e = .returned (.bool true) ∧ Below w1.heap.size w1 w') := fun w1 h1 => by
    have := NetworkOk_c n lo hi v vs xss w1 (hv.below h1 hhi) (by have := h1.size; omega)
    rwa [hok] at this
  have hl60 := netOk_len hok
  have HD : Hid (∀ w1, Below w.heap.size w w1 → Calls Tryz.prog 23 #[.agg #[.int .i64 n, v]] w1 (IntC w1 (levelsP xss xss.length))) := fun w1 h1 => levels_c n lo hi v vs xss w1 (hv.below h1 hhi) (by have := h1.size; omega) hok
  obtain ⟨ao, g, cap, rfl, -, -, -⟩ := hv.rows
  obtain ⟨L, hL⟩ : ∃ L, L = xss.length := ⟨_, rfl⟩
  rw [← hL] at HD HC hl60 ⊢
  clear hv hL hok
  go_enter Tryz.func7, Tryz.ntmps7
  go_wp2_with fail
  obtain ⟨W1, hW1, c0, c1, hsz, hB1, -, -⟩ := box2 w (.int .i64 n) (.slice ao L cap) 25
  rw [hW1]
  clear hW1
  refine (HC.out W1 hB1).mono ?_
  rintro e w2 ⟨rfl, b2⟩
  obtain ⟨d0, d1, z2⟩ := boxC b2 (by omega) c0 c1
  have hB2 := hB1.trans (b2.mono (by omega))
  clear b2 c0 c1
  go_wp2_with fail
  refine (HD.out w2 hB2).mono ?_
  rintro e w3 ⟨u, rfl, o3, b3⟩
  have B3 := Lib.hid (hB2.trans (b3.mono hB2.size))
  obtain ⟨ao3, g3, cap3, e3, hc3, ha3, hcell3⟩ := OwnI.view o3
  rw [levelsP_len] at e3 hc3 ha3 hcell3
  subst e3
  have HC3 : Hid (∀ i, i < L → w3.cell? ⟨g3, i, none⟩ = some (.int .i64 (lvAt xss i : Nat))) := fun i hi => by
    rw [(hcell3 i hi).1]
    simp [levelsP, List.getD, hi]
  have HA3 := Lib.hid ha3
  clear b3 d0 d1 hB1 hB2 o3 hcell3 ha3
  go_wp2_with fail
  go_loop [3, 12] (fun s i => ∃ k : Nat, k ≤ L ∧ i = .int .i64 k ∧ s = .int .i64 (depthP xss k : Nat)) (fun _ i => L - (intOf i).toNat)
  case atStart => exact ⟨0, Nat.zero_le _, rfl, rfl⟩
  case round =>
    obtain ⟨k, hk, rfl, rfl⟩ := hrel
    obtain ⟨d, hd⟩ : ∃ d, d = depthP xss k := ⟨_, rfl⟩
    rw [← hd]
    by_cases hlt : k < L
    · obtain ⟨ha, q1, q2⟩ := HA3.out (by omega)
      subst ha
      have hk1 : (k : Int) < (L : Int) := by omega
      obtain ⟨a, ha⟩ : ∃ a, a = lvAt xss k := ⟨_, rfl⟩
      have c1 : w3.cell? ⟨g3, k, none⟩ = some (.int .i64 a) := by rw [ha]; exact HC3.out k hlt
      have HN : Hid (depthP xss (k + 1) = max d a) := by show _ = _; rw [depthP, ← hd, ← ha]
      clear hd ha
      rcases (by omega : d < a ∨ a ≤ d) with h | h
      · have h1 : (d : Int) < (a : Int) := by omega
        have hm : max d a = a := by omega
        rw [hm] at HN
        clear hm
        go_wp2
        go_round
        case rel => exact ⟨k + 1, by omega, by go_num, by rw [HN.out]; first | done | go_num⟩
        case measure => simp [intOf] <;> omega
      · have h1 : ¬ (d : Int) < (a : Int) := by omega
        have hm : max d a = d := by omega
        rw [hm] at HN
        clear hm
        go_wp2
        go_round
        case rel => exact ⟨k + 1, by omega, by go_num, by rw [HN.out]; first | done | go_num⟩
        case measure => simp [intOf] <;> omega
    · have HE : Hid (d = depthP xss L) := by show _ = _; rw [hd, show k = L by omega]
      have hk1 : ¬ (k : Int) < (L : Int) := by omega
      clear hd
      go_wp2
      go_ret
      exact ⟨by rw [← HE.out]; rfl, B3.out⟩
end Go.Proofs.YtiodolbgapjmkaaGreatDoor
