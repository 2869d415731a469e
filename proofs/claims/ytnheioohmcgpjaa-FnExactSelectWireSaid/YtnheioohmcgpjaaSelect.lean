/- The least value to one more wire first: both functions, on a valid network. Conditions: the network is valid. -/
import Derived.Test.YtnheioohmcgpjaaWire
import Derived.Test.YtnheioohmcgpjaaRenamed
import Derived.Test.YtnheioohmcgpjaaWalkU
namespace Go.Proofs.Ytnheioohmcgpjaa
open Go.RowKit
set_option maxRecDepth 100000
set_option linter.unusedVariables false

def selK (t : Nat) : List (List Int) := (List.range t).map fun i : Nat => [(0 : Int), (i : Int) + 1]
theorem selK_succ (t : Nat) : selK (t + 1) = selK t ++ [[(0 : Int), (t : Int) + 1]] := by simp [selK, List.range_succ]
theorem selK_len (t : Nat) : (selK t).length = t := by simp [selK]
def selX (n : Nat) (xss : List (List Int)) : List (List Int) := selK n ++ renP (fun x => x + 1) xss
theorem SelectWire1_c (i : Nat) (hi : i < 1000) (w : World) : Calls Try.prog 71 #[.int .i64 i] w fun e w' => e = .returned (.int .i64 ((i : Int) + 1)) ∧ w = w' := by
  go_enter Try.func71, Try.ntmps71
  go_wp2
  go_ret
  exact ⟨by go_num, rfl⟩

set_option maxHeartbeats 4000000 in
theorem SelectWire_i_yes (n : Nat) (lo hi : Nat) (v : Value) (vs : List Value) (xss : List (List Int)) (w : World) (hv : OwnR w lo hi v vs xss) (hhi : hi ≤ w.heap.size) (hok : netOk n xss = true) :
    Calls Try.prog 29 #[.agg #[.int .i64 n, v]] w (NetC w (if netOk ((n : Int) + 1) (selX n xss) = true then (n : Int) + 1 else 0) (if netOk ((n : Int) + 1) (selX n xss) = true then selX n xss else []) (netOk ((n : Int) + 1) (selX n xss))) := by
  have HC : Hid (∀ w, OwnR w lo hi v vs xss → hi ≤ w.heap.size → Calls Try.prog 59 #[.agg #[.int .i64 n, v]] w fun e w' => e = .returned (.bool true) ∧ Below w.heap.size w w') := fun w h1 h2 => by
    have := NetworkOk_c n lo hi v vs xss w h1 h2
    rwa [hok] at this
  have HOK := Lib.hid hok
  have HP := Lib.hid (netOk_pair hok)
  have hn8 : n ≤ 8 := by have := netOk_n hok; omega
  have hn1 : 1 ≤ n := by have := netOk_n hok; omega
  have hl60 := netOk_len hok
  obtain ⟨P9, hP9⟩ : ∃ P9, P9 = NetC w (if netOk ((n : Int) + 1) (selX n xss) = true then (n : Int) + 1 else 0) (if netOk ((n : Int) + 1) (selX n xss) = true then selX n xss else []) (netOk ((n : Int) + 1) (selX n xss)) := ⟨_, rfl⟩
  have HP9 := Lib.hid hP9
  rw [← hP9]
  obtain ⟨ao, g, cap, A, G, C, rfl, hcap, hao, hrow⟩ := hv.view
  have HRW := Lib.hid hrow
  have HV := Lib.hid hv
  obtain ⟨L, hlen⟩ : ∃ l, l = xss.length := ⟨_, rfl⟩
  have HLEN := Lib.hid hlen
  rw [← hlen] at HV HC hl60 hcap hao HRW HP ⊢
  have HAO := Lib.hid hao
  clear hv hlen hok hP9 hrow hao
  go_enter Try.func29, Try.ntmps29
  go_wp2_with fail
  obtain ⟨W1, hW1, c0, c1, hsz, hB1, -, -⟩ := box2 w (.int .i64 n) (.slice ao L cap) 32
  have hb9 := blk_new W1 (.cells #[.int .i64 0, .slice none 0 0] 32)
  obtain ⟨W2, hW2⟩ : ∃ W, W = W1.alloc (.cells #[.int .i64 0, .slice none 0 0] 32) := ⟨_, rfl⟩
  have hBa : Below W1.heap.size W1 W2 := by rw [hW2]; exact (Below.refl _ _).alloc (Nat.le_refl _) _
  have hs2 : W2.heap.size = W1.heap.size + 1 := by rw [hW2]; simp
  rw [← hW2] at hb9
  obtain ⟨c0, c1, hz0⟩ := boxC hBa (by omega) c0 c1
  have hB2 : Below w.heap.size w W2 := hB1.trans (hBa.mono (by omega))
  rw [hsz] at hb9
  try rw [hW1, ← hW2]
  have hw2 : w.heap.size + 1 < W2.heap.size := by omega
  clear hW1 hW2 hBa hs2 hsz hB1
  refine (HC.out W2 (HV.out.below hB2 (by omega)) (by omega)).mono ?_
  rintro e w3 ⟨rfl, b3⟩
  obtain ⟨d0, d1, z3⟩ := boxC b3 hz0 c0 c1
  have hr9 := blk_below hb9 b3 hw2
  have HR9 := Lib.hid hr9
  have zz3 := b3.size
  have HV3 := Lib.hid ((HV.out.below hB2 hhi).below b3 (by omega))
  have HB3 : Hid (Below w.heap.size w w3) := hB2.trans (b3.mono (by omega))
  have hw3 : w.heap.size + 1 < w3.heap.size := by omega
  have hle3 : hi ≤ w3.heap.size := by omega
  clear c0 c1 hb9 b3 hB2 HC HV hz0 hw2 zz3 hr9
  go_wp2_with fail
  have hb5 := blk_new w3 (.cells #[.int .i64 ((n : Int) + 1), .slice none 0 0] 32)
  obtain ⟨W5, hW5⟩ : ∃ W, W = w3.alloc (.cells #[.int .i64 ((n : Int) + 1), .slice none 0 0] 32) := ⟨_, rfl⟩
  have hB5 : Below w3.heap.size w3 W5 := by rw [hW5]; exact (Below.refl _ _).alloc (Nat.le_refl _) _
  have hs5 : w3.heap.size + 1 = W5.heap.size := by rw [hW5]; simp
  rw [← hW5] at hb5
  try rw [← hW5]
  clear hW5
  have HB5 := Lib.hid hB5
  have hnb : NB W5 w3.heap.size ((n : Int) + 1) (.slice none 0 0) [] [] := ⟨hb5, OwnR.nil _ _ _⟩
  clear hb5 hB5
  go_loopw [16] (fun i wr => ∃ k : Nat, k ≤ n ∧ i = .int .i64 ((k : Int)) ∧ ∃ v us, NB wr w3.heap.size ((n : Int) + 1) v us (selK k) ∧ Below w3.heap.size W5 wr) (fun i _ => n + 1 - (intOf i).toNat)
  case atStart => exact ⟨0, Nat.zero_le _, by go_num, _, _, by simpa [selK] using hnb, Below.refl _ _⟩
  case round =>
    obtain ⟨k, hk, rfl, v, us, hN, hB⟩ := hrel
    obtain ⟨e0, e1, y0, y1⟩ := hN.cells
    have hXl := hN.lt
    have HN := Lib.hid hN
    have HB : Hid (Below w3.heap.size w3 wr) := HB5.out.trans hB
    have HBr := Lib.hid hB
    obtain ⟨f0, f1, zf⟩ := boxC HB.out z3 d0 d1
    clear hnb hN hB
    by_cases hlt : k < n
    · have hik : (k : Int) < (n : Int) := by omega
      have HLN : Hid ((selK k).length ≤ 1000000) := by show _ ≤ _; rw [selK_len]; omega
      go_wp2_with (at_builtin; refine wpList_app_pair rfl (.tmp 20) (.tmp 24) rfl wr _ _ (w3.heap.size + 1) v us (selK k) HN.out.own (by omega) HLN.out rfl rfl ?_; intro g' L' cap' w1 vs1 hL o1 b1 z1; have bx := blk_below HN.out.box b1 (by omega); have x0 := blk_cell bx 0; have x1 := blk_cell bx 1; have x2 := blk_free bx 1; have BX := Lib.hid bx; have O1 := Lib.hid o1; have B1 := Lib.hid b1; clear bx o1 b1)
      go_roundw
      case rel => exact ⟨k + 1, by omega, by go_num, _, _, by rw [selK_succ]; exact NB.store BX.out O1.out, (HBr.out.trans (B1.out.mono (by omega))).setCell (by show w3.heap.size ≤ w3.heap.size; omega) _⟩
      case measure => simp [intOf]; omega
    · have hkn : k = n := by omega
      have hik : (n : Int) ≤ (k : Int) := by omega
      have HNn : Hid (NB wr w3.heap.size ((n : Int) + 1) v us (selK n)) := by have h := HN.out; rw [hkn] at h; exact h
      clear HN hkn
      have HREN : Hid (∀ W, OwnR W lo hi (.slice ao L cap) vs xss → hi ≤ W.heap.size → Calls Try.prog 70 #[.agg #[.int .i64 n, .slice ao L cap], .int .i64 ((n : Int) + 1), .func (.func 71) #[] #[]] W fun e w' => ∃ u us, e = .returned (.agg #[.int .i64 ((n : Int) + 1), u]) ∧ OwnR w' W.heap.size w'.heap.size u us (renP (fun x => x + 1) xss) ∧ Below W.heap.size W w') := fun W h1 h2 => renamed_SelectWire n lo hi _ vs xss W h1 h2 HOK.out _ #[] (fun x => x + 1) (fun wr _ i hi => SelectWire1_c i (by omega) wr)
      have HVd : Hid (OwnR wr.drew lo hi (.slice ao L cap) vs xss) := HV3.out.below HB.out.drew (by omega)
      have hled : hi ≤ wr.drew.heap.size := by show hi ≤ wr.heap.size; omega
      have HLN2 : Hid ((selK n).length + (renP (fun x => x + 1) xss).length ≤ 1000000) := by show _ ≤ _; rw [selK_len, renP_len, ← HLEN.out]; omega
      have HNd : Hid (NB wr.drew w3.heap.size ((n : Int) + 1) v us (selK n)) := ⟨HNn.out.box, HNn.out.own.kept (w' := wr.drew) fun _ _ _ _ => rfl⟩
      have hzd : w3.heap.size + 1 ≤ wr.drew.heap.size := hXl
      have hzw : wr.drew.heap.size = wr.heap.size := rfl
      have hfd : ∀ (a : Option Addr) (c : Nat) (w : World), (Instr.field 32 (.agg #[.int .i64 ((n : Int) + 1), .slice a L c]) 1).run Try.prog w = .ok (.slice a L c) w := fun _ _ _ => by kernel_rfl
      go_wp2_with fail
      refine wpU_start (S := fun W' : World => W'.cell? ⟨w3.heap.size, 1, none⟩ = some v ∧ W'.cell? ⟨w3.heap.size, 0, none⟩ = some (.int .i64 ((n : Int) + 1)) ∧ W'.cell? ⟨w.heap.size, 0, none⟩ = some (.int .i64 n) ∧ W'.cell? ⟨w.heap.size, 1, none⟩ = some (.slice ao L cap)) (m := 9) (by kernel_rfl) ?_
      have hHeld : (fun W' : World => W'.cell? ⟨w3.heap.size, 1, none⟩ = some v ∧ W'.cell? ⟨w3.heap.size, 0, none⟩ = some (.int .i64 ((n : Int) + 1)) ∧ W'.cell? ⟨w.heap.size, 0, none⟩ = some (.int .i64 n) ∧ W'.cell? ⟨w.heap.size, 1, none⟩ = some (.slice ao L cap)) wr.drew := ⟨e1, e0, f0, f1⟩
      refine wpU_take (i := 0) (v := ?v0) rfl (by kernel_rfl) (fun _ _ _ h => h) ⟨by rfl, ?hy0⟩ hHeld ?rest0
      case hy0 => (intro w hSw; (try dsimp only at hSw); go_simp; try with_reducible rfl)
      try simp only [Act.put, List.setIfInBounds_toArray, List.set_cons_zero, List.set_cons_succ]
      refine wpU_take (i := 1) (v := ?v1) rfl (by kernel_rfl) (fun _ _ _ h => h) ⟨by rfl, ?hy1⟩ hHeld ?rest1
      case hy1 => (intro w hSw; (try dsimp only at hSw); go_simp; try with_reducible rfl)
      try simp only [Act.put, List.setIfInBounds_toArray, List.set_cons_zero, List.set_cons_succ]
      refine wpU_take (i := 2) (v := ?v2) rfl (by kernel_rfl) (fun _ _ _ h => h) ⟨by rfl, ?hy2⟩ hHeld ?rest2
      case hy2 => (intro w hSw; (try dsimp only at hSw); go_simp; try with_reducible rfl)
      try simp only [Act.put, List.setIfInBounds_toArray, List.set_cons_zero, List.set_cons_succ]
      refine wpU_take (i := 3) (v := ?v3) rfl (by kernel_rfl) (fun _ _ _ h => h) ⟨by rfl, ?hy3⟩ hHeld ?rest3
      case hy3 => (intro w hSw; (try dsimp only at hSw); go_simp; try with_reducible rfl)
      try simp only [Act.put, List.setIfInBounds_toArray, List.set_cons_zero, List.set_cons_succ]
      refine wpU_take (i := 4) (v := ?v4) rfl (by kernel_rfl) (fun _ _ _ h => h) ⟨by rfl, ?hy4⟩ hHeld ?rest4
      case hy4 => (intro w hSw; (try dsimp only at hSw); go_simp; try with_reducible rfl)
      try simp only [Act.put, List.setIfInBounds_toArray, List.set_cons_zero, List.set_cons_succ]
      refine wpU_one (i := 5) (by kernel_rfl) rfl (fun K hK => ?_)
      go_simp; go_at_call 70; refine (HREN.out wr.drew HVd.out hled).mono ?_; rintro e w4 ⟨u4, us4, rfl, o4, b4⟩; obtain ⟨ao4, g4, cap4, e4, -, -, -⟩ := o4.rows; rw [renP_len, ← HLEN.out] at e4; subst e4; have zb4 := b4.size; have bx4 := blk_below HNd.out.box b4 hzd; have x0 := blk_cell bx4 0; have x1 := blk_cell bx4 1; have x2 := blk_free bx4 1; obtain ⟨h0, h1, zh⟩ := boxC (undrew b4) zf f0 f1; have BX4 := Lib.hid bx4; have O4 := Lib.hid o4; have N4 := Lib.hid (HNd.out.own.below b4 (Nat.le_refl _)); have B4 := Lib.hid (undrew b4); clear o4 b4 bx4
      refine hK.out _ _ (⟨x1, x0, h0, h1⟩) (fun hHeld => ?_)
      clear hK K
      try simp only [Act.put, List.setIfInBounds_toArray, List.set_cons_zero, List.set_cons_succ]
      refine wpU_one (i := 6) (by kernel_rfl) rfl (fun K hK => ?_)
      go_simp
      refine hK.out _ _ (⟨x1, x0, h0, h1⟩) (fun hHeld => ?_)
      clear hK K
      try simp only [Act.put, List.setIfInBounds_toArray, List.set_cons_zero, List.set_cons_succ]
      refine wpU_one (i := 7) (by kernel_rfl) rfl (fun K hK => ?_)
      refine wp_app_rows (.tmp 29) (.tmp 34) rfl w4 (w3.heap.size + 1) wr.drew.heap.size _ _ us us4 (selK n) (renP (fun x => x + 1) xss) N4.out O4.out hzd zb4 HLN2.out rfl rfl ?_; intro ao5 L5 cap5 w5 us5 hL5 o5 b5 z5; have bx5 := blk_below BX4.out b5 (by omega); have g0 := blk_cell bx5 0; have g1 := blk_cell bx5 1; have g2 := blk_free bx5 1; have i0 := (b5.cell (p := ⟨w.heap.size, 0, none⟩) (by show w.heap.size < _; omega)).trans h0; have i1 := (b5.cell (p := ⟨w.heap.size, 1, none⟩) (by show w.heap.size < _; omega)).trans h1; have BX5 := Lib.hid bx5; have O5 := Lib.hid o5; have B5 := Lib.hid b5; clear bx5 o5 b5
      refine hK.out _ _ (⟨g1, g0, i0, i1⟩) (fun hHeld => ?_)
      clear hK K
      try simp only [Act.put, List.setIfInBounds_toArray, List.set_cons_zero, List.set_cons_succ]
      refine wpU_take (i := 8) (v := ?v8) rfl (by kernel_rfl) (fun _ _ _ h => h) ⟨by rfl, ?hy8⟩ hHeld ?rest8
      case hy8 => (intro w hSw; (try dsimp only at hSw); go_simp; try with_reducible rfl)
      try simp only [Act.put, List.setIfInBounds_toArray, List.set_cons_zero, List.set_cons_succ]
      refine wpU_last (by kernel_rfl) rfl (fun K hK => ?_)
      go_simp
      refine hK.out _ _ ?_
      clear hK K
      try simp only [Act.put, List.setIfInBounds_toArray, List.set_cons_zero, List.set_cons_succ]
      refine wpU_done (by kernel_rfl) ?_ _
      all_goals
       obtain ⟨W9, hW9⟩ : ∃ W, W = w5.setCell ⟨w3.heap.size, 1, none⟩ (.slice ao5 L5 cap5) := ⟨_, rfl⟩
       try rw [← hW9]
       have hN9 : NB W9 w3.heap.size ((n : Int) + 1) (.slice ao5 L5 cap5) us5 (selX n xss) := by rw [hW9]; exact NB.store BX5.out O5.out
       have HB9 : Hid (Below w3.heap.size w3 W9) := by
         show Below _ _ _
         rw [hW9]
         exact ((HB.out.trans (B4.out.mono (by omega))).trans (B5.out.mono (by omega))).setCell (by show w3.heap.size ≤ w3.heap.size; omega) _
       clear hW9 x0 x1 x2 g0 g1 g2
       obtain ⟨f0, f1, zf⟩ := boxC HB9.out z3 d0 d1
       have HN9 := Lib.hid hN9
       obtain ⟨e0, e1, y0, y1⟩ := hN9.cells
       have HBf : Hid (Below w.heap.size w W9) := HB3.out.trans (HB9.out.mono (by omega))
       have hrr := blk_below HR9.out HB9.out hw3
       have HRR := Lib.hid hrr
       have hle9 : w3.heap.size < W9.heap.size := hN9.lt
       have CK := Lib.hid (checked_c ((n : Int) + 1) (w3.heap.size + 1) W9.heap.size _ _ _ W9 hN9.own (Nat.le_refl _))
       obtain ⟨ao9, g9, cap9, e9, -, -, -⟩ := hN9.own.rows
       obtain ⟨M, hM⟩ : ∃ M, M = (selX n xss).length := ⟨_, rfl⟩
       rw [← hM] at e9
       try subst e9
       obtain ⟨b9, hb9⟩ : ∃ b, b = netOk ((n : Int) + 1) (selX n xss) := ⟨_, rfl⟩
       rw [← hb9] at CK HP9
       clear hrr hM hb9 hN9
       cases b9
       all_goals
         go_wp2_with fail
         refine CK.out.mono ?_
         rintro e w9 ⟨rfl, b9⟩
         have hr9 := blk_below HRR.out b9 (by omega)
         have q0 := blk_cell hr9 0
         have q1 := blk_cell hr9 1
         have x0 := blk_free hr9 0
         have x1 := blk_free hr9 1
         have HR9' := Lib.hid hr9
         have HO9 := Lib.hid (HN9.out.own.later b9)
         have HB9' : Hid (Below w.heap.size w w9) := HBf.out.trans (b9.mono (by have := HBf.out.size; omega))
         have z9 := b9.size
         clear hr9 b9
       · simp only [Bool.false_eq_true, if_false]
         go_wp2
         refine bodyPost_ret (v := .tuple #[.agg #[.int .i64 0, .slice none 0 0], .bool false]) (by simp [results, Try.results29, go_sem, q0, q1]) rfl ?_
         rw [HP9.out]
         refine ⟨_, [], rfl, OwnR.nil _ _ _, ?_⟩
         first
           | exact (HB9'.out.setCell (by show w.heap.size ≤ w.heap.size + 1; omega) _).setCell (by show w.heap.size ≤ w.heap.size + 1; omega) _
           | exact HB9'.out
       · simp only [if_true]
         go_wp2
         refine bodyPost_ret (v := .tuple #[.agg #[.int .i64 ((n : Int) + 1), .slice ao5 L5 cap5], .bool true]) (by simp [results, Try.results29, go_sem, q0, q1]) rfl ?_
         rw [HP9.out]
         refine ⟨_, us5, rfl, ?_, (HB9'.out.setCell (by show w.heap.size ≤ w.heap.size + 1; omega) _).setCell (by show w.heap.size ≤ w.heap.size + 1; omega) _⟩
         exact ((HO9.out.past_box HR9'.out).past_box (box_set0 HR9'.out)).mono (by omega) (by simp [World.setCell]; omega)

set_option maxHeartbeats 4000000 in
theorem SelectWire_s_yes (n : Nat) (lo hi : Nat) (v : Value) (vs : List Value) (xss : List (List Int)) (w : World) (hv : OwnR w lo hi v vs xss) (hhi : hi ≤ w.heap.size) (hok : netOk n xss = true) :
    Calls Try.prog 28 #[.agg #[.int .i64 n, v]] w (NetC w (if netOk ((n : Int) + 1) (selX n xss) = true then (n : Int) + 1 else 0) (if netOk ((n : Int) + 1) (selX n xss) = true then selX n xss else []) (netOk ((n : Int) + 1) (selX n xss))) := by
  have HC : Hid (∀ w, OwnR w lo hi v vs xss → hi ≤ w.heap.size → Calls Try.prog 57 #[.agg #[.int .i64 n, v]] w fun e w' => e = .returned (.bool true) ∧ Below w.heap.size w w') := fun w h1 h2 => by
    have := SNetworkOk_c n lo hi v vs xss w h1 h2
    rwa [hok] at this
  have HOK := Lib.hid hok
  have HP := Lib.hid (netOk_pair hok)
  have hn8 : n ≤ 8 := by have := netOk_n hok; omega
  have hn1 : 1 ≤ n := by have := netOk_n hok; omega
  have hl60 := netOk_len hok
  obtain ⟨P9, hP9⟩ : ∃ P9, P9 = NetC w (if netOk ((n : Int) + 1) (selX n xss) = true then (n : Int) + 1 else 0) (if netOk ((n : Int) + 1) (selX n xss) = true then selX n xss else []) (netOk ((n : Int) + 1) (selX n xss)) := ⟨_, rfl⟩
  have HP9 := Lib.hid hP9
  rw [← hP9]
  obtain ⟨ao, g, cap, A, G, C, rfl, hcap, hao, hrow⟩ := hv.view
  have HRW := Lib.hid hrow
  have HV := Lib.hid hv
  obtain ⟨L, hlen⟩ : ∃ l, l = xss.length := ⟨_, rfl⟩
  have HLEN := Lib.hid hlen
  rw [← hlen] at HV HC hl60 hcap hao HRW HP ⊢
  have HAO := Lib.hid hao
  clear hv hlen hok hP9 hrow hao
  go_enter Try.func28, Try.ntmps28
  go_wp2_with fail
  obtain ⟨W1, hW1, c0, c1, hsz, hB1, -, -⟩ := box2 w (.int .i64 n) (.slice ao L cap) 32
  have hb9 := blk_new W1 (.cells #[.int .i64 0, .slice none 0 0] 32)
  obtain ⟨W2, hW2⟩ : ∃ W, W = W1.alloc (.cells #[.int .i64 0, .slice none 0 0] 32) := ⟨_, rfl⟩
  have hBa : Below W1.heap.size W1 W2 := by rw [hW2]; exact (Below.refl _ _).alloc (Nat.le_refl _) _
  have hs2 : W2.heap.size = W1.heap.size + 1 := by rw [hW2]; simp
  rw [← hW2] at hb9
  obtain ⟨c0, c1, hz0⟩ := boxC hBa (by omega) c0 c1
  have hB2 : Below w.heap.size w W2 := hB1.trans (hBa.mono (by omega))
  rw [hsz] at hb9
  try rw [hW1, ← hW2]
  have hw2 : w.heap.size + 1 < W2.heap.size := by omega
  clear hW1 hW2 hBa hs2 hsz hB1
  refine (HC.out W2 (HV.out.below hB2 (by omega)) (by omega)).mono ?_
  rintro e w3 ⟨rfl, b3⟩
  obtain ⟨d0, d1, z3⟩ := boxC b3 hz0 c0 c1
  have hr9 := blk_below hb9 b3 hw2
  have HR9 := Lib.hid hr9
  have zz3 := b3.size
  have HV3 := Lib.hid ((HV.out.below hB2 hhi).below b3 (by omega))
  have HB3 : Hid (Below w.heap.size w w3) := hB2.trans (b3.mono (by omega))
  have hw3 : w.heap.size + 1 < w3.heap.size := by omega
  have hle3 : hi ≤ w3.heap.size := by omega
  clear c0 c1 hb9 b3 hB2 HC HV hz0 hw2 zz3 hr9
  go_wp2_with fail
  have hb5 := blk_new w3 (.cells #[.int .i64 ((n : Int) + 1), .slice none 0 0] 32)
  obtain ⟨W5, hW5⟩ : ∃ W, W = w3.alloc (.cells #[.int .i64 ((n : Int) + 1), .slice none 0 0] 32) := ⟨_, rfl⟩
  have hB5 : Below w3.heap.size w3 W5 := by rw [hW5]; exact (Below.refl _ _).alloc (Nat.le_refl _) _
  have hs5 : w3.heap.size + 1 = W5.heap.size := by rw [hW5]; simp
  rw [← hW5] at hb5
  try rw [← hW5]
  clear hW5
  have HB5 := Lib.hid hB5
  have hnb : NB W5 w3.heap.size ((n : Int) + 1) (.slice none 0 0) [] [] := ⟨hb5, OwnR.nil _ _ _⟩
  clear hb5 hB5
  go_loopw [5] (fun i wr => ∃ k : Nat, k ≤ n ∧ i = .int .i64 ((k : Int) + 1) ∧ ∃ v us, NB wr w3.heap.size ((n : Int) + 1) v us (selK k) ∧ Below w3.heap.size W5 wr) (fun i _ => n + 1 - (intOf i).toNat)
  case atStart => exact ⟨0, Nat.zero_le _, by go_num, _, _, by simpa [selK] using hnb, Below.refl _ _⟩
  case round =>
    obtain ⟨k, hk, rfl, v, us, hN, hB⟩ := hrel
    obtain ⟨e0, e1, y0, y1⟩ := hN.cells
    have hXl := hN.lt
    have HN := Lib.hid hN
    have HB : Hid (Below w3.heap.size w3 wr) := HB5.out.trans hB
    have HBr := Lib.hid hB
    obtain ⟨f0, f1, zf⟩ := boxC HB.out z3 d0 d1
    clear hnb hN hB
    by_cases hlt : k < n
    · have hik : (k : Int) + 1 ≤ (n : Int) := by omega
      have HLN : Hid ((selK k).length ≤ 1000000) := by show _ ≤ _; rw [selK_len]; omega
      go_wp2_with (at_builtin; refine wpList_app_pair rfl (.tmp 23) (.tmp 26) rfl wr _ _ (w3.heap.size + 1) v us (selK k) HN.out.own (by omega) HLN.out rfl rfl ?_; intro g' L' cap' w1 vs1 hL o1 b1 z1; have bx := blk_below HN.out.box b1 (by omega); have x0 := blk_cell bx 0; have x1 := blk_cell bx 1; have x2 := blk_free bx 1; have BX := Lib.hid bx; have O1 := Lib.hid o1; have B1 := Lib.hid b1; clear bx o1 b1)
      go_roundw
      case rel => exact ⟨k + 1, by omega, by go_num, _, _, by rw [selK_succ]; exact NB.store BX.out O1.out, (HBr.out.trans (B1.out.mono (by omega))).setCell (by show w3.heap.size ≤ w3.heap.size; omega) _⟩
      case measure => simp [intOf]; omega
    · have hkn : k = n := by omega
      have hik : (n : Int) < (k : Int) + 1 := by omega
      have HNn : Hid (NB wr w3.heap.size ((n : Int) + 1) v us (selK n)) := by have h := HN.out; rw [hkn] at h; exact h
      clear HN hkn
      go_wp2_with fail
      go_loopw [32] (fun i wr => ∃ t : Nat, t ≤ L ∧ i = .int .i64 t ∧ ∃ v us, NB wr w3.heap.size ((n : Int) + 1) v us (selK n ++ renP (fun x => x + 1) (xss.take t)) ∧ Below w3.heap.size W5 wr) (fun i _ => L - (intOf i).toNat)
      case atStart => exact ⟨0, Nat.zero_le _, rfl, v, us, by simpa [renP] using HNn.out, HBr.out⟩
      case round =>
        obtain ⟨t, ht, rfl, v2, us2, hN, hB2⟩ := hrel
        have HB2 : Hid (Below w3.heap.size w3 wr) := HB5.out.trans hB2
        have HBr2 := Lib.hid hB2
        have hXl2 := hN.lt
        obtain ⟨f0, f1, zf⟩ := boxC HB2.out z3 d0 d1
        obtain ⟨e0, e1, y0, y1⟩ := hN.cells
        have HN2 := Lib.hid hN
        clear hN hB2
        by_cases htl : t < L
        · obtain ⟨i, j, hr, hi1, hj1, hne⟩ := HP.out t htl
          obtain ⟨q1, q2, q3, q4⟩ := HRW.out t htl
          obtain ⟨ha0, hg1, hg2⟩ := HAO.out (by omega)
          subst ha0
          rw [hr] at q1 q2 q3 q4
          obtain ⟨ea, g3, g4⟩ := q3 (by simp)
          rw [ea] at q1
          have hbw : Below w.heap.size w wr := HB3.out.trans (HB2.out.mono (by omega))
          have c0 : wr.cell? ⟨g, t, none⟩ = some (.slice (some ⟨G t, 0, none⟩) 2 (C t)) := (hbw.cell (p := ⟨g, t, none⟩) (by show g < _; omega)).trans q1
          have c1 : wr.cell? ⟨G t, 0, none⟩ = some (.int .i64 i) := (hbw.cell (p := ⟨G t, 0, none⟩) (by show G t < _; omega)).trans (q4 0 (by simp))
          have c2 : wr.cell? ⟨G t, 1, none⟩ = some (.int .i64 j) := (hbw.cell (p := ⟨G t, 1, none⟩) (by show G t < _; omega)).trans (q4 1 (by simp))
          have HT : Hid (renP (fun x => x + 1) (xss.take (t + 1)) = renP (fun x => x + 1) (xss.take t) ++ [[(i : Int) + 1, (j : Int) + 1]]) := by
            show _ = _
            rw [take_snoc_getD [] (by have := HLEN.out; omega), hr]
            simp [renP]
          have HLN : Hid ((selK n ++ renP (fun x => x + 1) (xss.take t)).length ≤ 1000000) := by show _ ≤ _; rw [List.length_append, selK_len, renP_len, List.length_take]; omega
          have HBX := Lib.hid HN2.out.box
          have HRd := Lib.hid (HN2.out.own.kept (w' := wr.drew) fun _ _ _ _ => rfl)
          have hz2 : w3.heap.size + 1 ≤ wr.drew.heap.size := hXl2
          have HS : ∀ W', Below (w3.heap.size + 1) wr W' → W'.cell? ⟨G t, 0, none⟩ = some (.int .i64 i) ∧ W'.cell? ⟨G t, 1, none⟩ = some (.int .i64 j) ∧ W'.cell? ⟨w3.heap.size, 1, none⟩ = some v2 := fun W' hb =>
            ⟨(hb.cell (p := ⟨G t, 0, none⟩) (by show G t < _; omega)).trans c1, (hb.cell (p := ⟨G t, 1, none⟩) (by show G t < _; omega)).trans c2, (hb.cell (p := ⟨w3.heap.size, 1, none⟩) (by show w3.heap.size < _; omega)).trans e1⟩
          have HSS := Lib.hid HS
          have hA1 : ∀ X : Obj, Below (w3.heap.size + 1) wr (wr.drew.alloc X) := fun X => (Below.refl _ _).drew.alloc hz2 _
          have hA2 : ∀ X Y : Obj, Below (w3.heap.size + 1) wr ((wr.drew.alloc X).alloc Y) := fun X Y => (hA1 X).alloc (by simp; omega) _
          have HA1 := Lib.hid hA1
          have HA2 := Lib.hid hA2
          have hKK : keptC 0 0 wr.drew wr.drew v2 := fun k k1 k2 => by omega
          have HKK := Lib.hid hKK
          have hwi : IntKind.i64.wrap ((i : Int) + 1) = (i : Int) + 1 := IntWalk.i64_in _ (by omega)
          have hwj : IntKind.i64.wrap ((j : Int) + 1) = (j : Int) + 1 := IntWalk.i64_in _ (by omega)
          have h00 : 0 ≤ wr.drew.heap.size := Nat.zero_le _
          clear hA1 hA2 hKK HS hr ea q1 q2 q3 q4 hbw
          go_wp2_with fail
          refine wpU_start (S := fun W' : World => W'.cell? ⟨G t, 0, none⟩ = some (.int .i64 i) ∧ W'.cell? ⟨G t, 1, none⟩ = some (.int .i64 j) ∧ W'.cell? ⟨w3.heap.size, 1, none⟩ = some v2) (m := 14) (by kernel_rfl) ?_
          have hHeld : (fun W' : World => W'.cell? ⟨G t, 0, none⟩ = some (.int .i64 i) ∧ W'.cell? ⟨G t, 1, none⟩ = some (.int .i64 j) ∧ W'.cell? ⟨w3.heap.size, 1, none⟩ = some v2) wr.drew := ⟨c1, c2, e1⟩
          refine wpU_take (i := 0) (v := ?v0) rfl (by kernel_rfl) (fun _ _ _ h => h) ⟨by rfl, ?hy0⟩ hHeld ?rest0
          case hy0 => (intro w hSw; (try dsimp only at hSw); go_simp; try with_reducible rfl)
          try simp only [Act.put, List.setIfInBounds_toArray, List.set_cons_zero, List.set_cons_succ]
          refine wpU_take (i := 1) (v := ?v1) rfl (by kernel_rfl) (fun _ _ _ h => h) ⟨by rfl, ?hy1⟩ hHeld ?rest1
          case hy1 => (intro w hSw; (try dsimp only at hSw); go_simp; try with_reducible rfl)
          try simp only [Act.put, List.setIfInBounds_toArray, List.set_cons_zero, List.set_cons_succ]
          refine wpU_take (i := 2) (v := ?v2) rfl (by kernel_rfl) (fun _ _ _ h => h) ⟨by rfl, ?hy2⟩ hHeld ?rest2
          case hy2 => (intro w hSw; (try dsimp only at hSw); go_simp; try with_reducible rfl)
          try simp only [Act.put, List.setIfInBounds_toArray, List.set_cons_zero, List.set_cons_succ]
          refine wpU_take (i := 3) (v := ?v3) rfl (by kernel_rfl) (fun _ _ _ h => h) ⟨by rfl, ?hy3⟩ hHeld ?rest3
          case hy3 => (intro w hSw; (try dsimp only at hSw); go_simp; try with_reducible rfl)
          try simp only [Act.put, List.setIfInBounds_toArray, List.set_cons_zero, List.set_cons_succ]
          refine wpU_take (i := 4) (v := ?v4) rfl (by kernel_rfl) (fun _ _ _ h => h) ⟨by rfl, ?hy4⟩ hHeld ?rest4
          case hy4 => (intro w hSw; (try dsimp only at hSw); go_simp; try with_reducible rfl)
          try simp only [Act.put, List.setIfInBounds_toArray, List.set_cons_zero, List.set_cons_succ]
          refine wpU_take (i := 5) (v := ?v5) rfl (by kernel_rfl) (fun _ _ _ h => h) ⟨by rfl, ?hy5⟩ hHeld ?rest5
          case hy5 => (intro w hSw; (try dsimp only at hSw); go_simp; try with_reducible rfl)
          try simp only [Act.put, List.setIfInBounds_toArray, List.set_cons_zero, List.set_cons_succ]
          refine wpU_take (i := 6) (v := ?v6) rfl (by kernel_rfl) (fun _ _ _ h => h) ⟨by rfl, ?hy6⟩ hHeld ?rest6
          case hy6 => (intro w hSw; (try dsimp only at hSw); go_simp; try with_reducible rfl)
          try simp only [Act.put, List.setIfInBounds_toArray, List.set_cons_zero, List.set_cons_succ]
          refine wpU_take (i := 7) (v := ?v7) rfl (by kernel_rfl) (fun _ _ _ h => h) ⟨by rfl, ?hy7⟩ hHeld ?rest7
          case hy7 => (intro w hSw; (try dsimp only at hSw); go_simp; try with_reducible rfl)
          try simp only [Act.put, List.setIfInBounds_toArray, List.set_cons_zero, List.set_cons_succ]
          refine wpU_take (i := 8) (v := ?v8) rfl (by kernel_rfl) (fun _ _ _ h => h) ⟨by rfl, ?hy8⟩ hHeld ?rest8
          case hy8 => (intro w hSw; (try dsimp only at hSw); go_simp; try with_reducible rfl)
          try simp only [Act.put, List.setIfInBounds_toArray, List.set_cons_zero, List.set_cons_succ]
          refine wpU_take (i := 9) (v := ?v9) rfl (by kernel_rfl) (fun _ _ _ h => h) ⟨by rfl, ?hy9⟩ hHeld ?rest9
          case hy9 => (intro w hSw; (try dsimp only at hSw); go_simp; try with_reducible rfl)
          try simp only [Act.put, List.setIfInBounds_toArray, List.set_cons_zero, List.set_cons_succ]
          try simp only [hwi, hwj]
          refine wpU_one (i := 10) (by kernel_rfl) rfl (fun K hK => ?_)
          go_simp
          refine hK.out _ _ (HSS.out _ (HA1.out _)) (fun hHeld => ?_)
          clear hK K
          try simp only [Act.put, List.setIfInBounds_toArray, List.set_cons_zero, List.set_cons_succ]
          refine wpU_one (i := 11) (by kernel_rfl) rfl (fun K hK => ?_)
          go_simp
          refine hK.out _ _ (HSS.out _ (HA2.out _ _)) (fun hHeld => ?_)
          clear hK K
          try simp only [Act.put, List.setIfInBounds_toArray, List.set_cons_zero, List.set_cons_succ]
          refine wpU_one (i := 12) (by kernel_rfl) rfl (fun K hK => ?_)
          refine wp_app_pairC (.tmp 37) (.tmp 47) rfl wr.drew ((i : Int) + 1) ((j : Int) + 1) (w3.heap.size + 1) _ us2 (selK n ++ renP (fun x => x + 1) (xss.take t)) 0 0 wr.drew HRd.out hz2 HKK.out h00 HLN.out rfl rfl ?_; intro g' L' cap' w8 vs8 hL8 o8 q8 z8 k8 y8; have bx8 := blk_below HBX.out (undrew q8) (by omega); have x0 := blk_cell bx8 0; have x1 := blk_cell bx8 1; have x2 := blk_free bx8 1; have BX8 := Lib.hid bx8; have O8 := Lib.hid o8; have Q8 := Lib.hid (undrew q8); clear o8 k8 bx8
          refine hK.out _ _ (HSS.out _ Q8.out) (fun hHeld => ?_)
          clear hK K
          try simp only [Act.put, List.setIfInBounds_toArray, List.set_cons_zero, List.set_cons_succ]
          refine wpU_take (i := 13) (v := ?v13) rfl (by kernel_rfl) (fun _ _ _ h => h) ⟨by rfl, ?hy13⟩ hHeld ?rest13
          case hy13 => (intro w hSw; (try dsimp only at hSw); go_simp; try with_reducible rfl)
          try simp only [Act.put, List.setIfInBounds_toArray, List.set_cons_zero, List.set_cons_succ]
          refine wpU_last (by kernel_rfl) rfl (fun K hK => ?_)
          go_simp
          refine hK.out _ _ ?_
          clear hK K
          try simp only [Act.put, List.setIfInBounds_toArray, List.set_cons_zero, List.set_cons_succ]
          refine wpU_done (by kernel_rfl) ?_ _
          go_wp2
          go_roundw
          case rel => exact ⟨t + 1, by omega, by go_num, _, vs8, by rw [HT.out, ← List.append_assoc]; exact NB.store BX8.out O8.out, (HBr2.out.trans (Q8.out.mono (by omega))).setCell (by show w3.heap.size ≤ w3.heap.size; omega) _⟩
          case measure => simp [intOf]; omega
        · have htL : t = L := by omega
          have hN9 : NB wr w3.heap.size ((n : Int) + 1) v2 us2 (selX n xss) := by
            have h := HN2.out
            rw [htL, HLEN.out, List.take_length] at h
            exact h
          have HBf : Hid (Below w.heap.size w wr) := HB3.out.trans (HB2.out.mono (by omega))
          have hrr := blk_below HR9.out HB2.out hw3
          have HRR := Lib.hid hrr
          have CK := Lib.hid (l02Out_c ((n : Int) + 1) (w3.heap.size + 1) wr.heap.size _ _ _ wr hN9.own (Nat.le_refl _))
          obtain ⟨ao9, g9, cap9, e9, -, -, -⟩ := hN9.own.rows
          obtain ⟨M, hM⟩ : ∃ M, M = (selX n xss).length := ⟨_, rfl⟩
          rw [← hM] at e9
          subst e9
          obtain ⟨b9, hb9⟩ : ∃ b, b = netOk ((n : Int) + 1) (selX n xss) := ⟨_, rfl⟩
          rw [← hb9] at CK HP9
          have HN9 := Lib.hid hN9
          clear hrr hM hb9 hN9 htL HN2
          cases b9
          all_goals
            go_wp2_with fail
            refine CK.out.mono ?_
            rintro e w9 ⟨rfl, b9⟩
            have hr9 := blk_below HRR.out b9 (by omega)
            have q0 := blk_cell hr9 0
            have q1 := blk_cell hr9 1
            have x0 := blk_free hr9 0
            have x1 := blk_free hr9 1
            have HR9' := Lib.hid hr9
            have HO9 := Lib.hid (HN9.out.own.later b9)
            have HB9' : Hid (Below w.heap.size w w9) := HBf.out.trans (b9.mono (by have := HBf.out.size; omega))
            have z9 := b9.size
            clear hr9 b9
          · simp only [Bool.false_eq_true, if_false]
            go_wp2
            refine bodyPost_ret (v := .tuple #[.agg #[.int .i64 0, .slice none 0 0], .bool false]) (by simp [results, Try.results28, go_sem, q0, q1]) rfl ?_
            rw [HP9.out]
            refine ⟨_, [], rfl, OwnR.nil _ _ _, ?_⟩
            first
              | exact (HB9'.out.setCell (by show w.heap.size ≤ w.heap.size + 1; omega) _).setCell (by show w.heap.size ≤ w.heap.size + 1; omega) _
              | exact HB9'.out
          · simp only [if_true]
            go_wp2
            refine bodyPost_ret (v := .tuple #[.agg #[.int .i64 ((n : Int) + 1), .slice ao9 M cap9], .bool true]) (by simp [results, Try.results28, go_sem, q0, q1]) rfl ?_
            rw [HP9.out]
            refine ⟨_, us2, rfl, ?_, (HB9'.out.setCell (by show w.heap.size ≤ w.heap.size + 1; omega) _).setCell (by show w.heap.size ≤ w.heap.size + 1; omega) _⟩
            exact ((HO9.out.past_box HR9'.out).past_box (box_set0 HR9'.out)).mono (by omega) (by simp [World.setCell]; omega)
end Go.Proofs.Ytnheioohmcgpjaa
