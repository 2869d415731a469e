/- A network with other names of its wires. Conditions: the network is valid. -/
import Derived.Test.YtiodolbgapjmkaaGreatDoorCopy2
import Derived.Test.YtiodolbgapjmkaaGreatDoorApp
import Derived.Test.YtiodolbgapjmkaaGreatDoorWalkU
namespace Go.Proofs.YtiodolbgapjmkaaGreatDoor
open Go.RowKit
set_option maxRecDepth 100000
set_option linter.unusedVariables false

def renP (f : Int → Int) (xss : List (List Int)) : List (List Int) := xss.map fun p => p.map f
theorem renP_len (f : Int → Int) (xss : List (List Int)) : (renP f xss).length = xss.length := by simp [renP]
set_option maxHeartbeats 2000000 in
theorem renamed_RenameWires (n : Nat) (lo hi : Nat) (v : Value) (vs : List Value) (xss : List (List Int)) (w : World) (hv : OwnR w lo hi v vs xss) (hhi : hi ≤ w.heap.size) (hok : netOk n xss = true)
    (m : Int) (cap : Array Value) (f : Int → Int) (hf : ∀ wr, Below w.heap.size w wr → ∀ i : Nat, i < n → Calls Tryz.prog 38 (#[.int .i64 i] ++ cap) wr fun e w' => e = .returned (.int .i64 (f i)) ∧ wr = w') :
    Calls Tryz.prog 37 #[.agg #[.int .i64 n, v], .int .i64 m, .func (.func 38) #[] cap] w fun e w' => ∃ u us, e = .returned (.agg #[.int .i64 m, u]) ∧ OwnR w' w.heap.size w'.heap.size u us (renP f xss) ∧ Below w.heap.size w w' := by
  have HF := Lib.hid hf
  have HV := Lib.hid hv
  have HP := Lib.hid (netOk_pair hok)
  have hl60 := netOk_len hok
  obtain ⟨ao, g, cap0, A, G, C, rfl, hcap, hao, hrow⟩ := hv.view
  have HRW := Lib.hid hrow
  obtain ⟨L, hlen⟩ : ∃ l, l = xss.length := ⟨_, rfl⟩
  have HLEN := Lib.hid hlen
  rw [← hlen] at HV hl60 hcap hao HRW HP ⊢
  clear hv hlen hok hrow hf
  go_enter Tryz.func37, Tryz.ntmps37
  go_wp2_with fail
  obtain ⟨W1, hW1, c0, c1, hsz, hB1, -, -⟩ := box2 w (.int .i64 n) (.slice ao L cap0) 25
  have hs1 : w.heap.size + 1 = W1.heap.size := by omega
  rw [hW1]
  clear hW1
  have HS1 := Lib.hid hs1
  try rw [hs1]
  obtain ⟨W, hW, hnb, hrs, hbw, hszW⟩ := netInit W1 m
  try rw [hW]
  clear hW
  have hx : W1.heap.size + 1 < W.heap.size := by omega
  have hB2 : Below W1.heap.size W1 W := hbw
  have HB0 : Hid (Below w.heap.size w W) := hB1.trans (hbw.mono (by omega))
  have hw1 : w.heap.size < W1.heap.size := by omega
  clear c0 c1 hsz hs1
  go_loopw [15] (fun i wr => ∃ k : Nat, k ≤ L ∧ i = .int .i64 k ∧ ∃ v us, NB wr (W1.heap.size + 1) m v us (renP f (xss.take k)) ∧ Below (W1.heap.size + 1) W wr) (fun i _ => L - (intOf i).toNat)
  case atStart => exact ⟨0, Nat.zero_le _, rfl, _, _, by simpa [renP] using hnb, Below.refl _ _⟩
  case round =>
    obtain ⟨k, hk, rfl, v, us, hN, hB⟩ := hrel
    have HRS := Lib.hid (blk_below hrs hB (by omega))
    have HN := Lib.hid hN
    have HB := Lib.hid hB
    have hzB := hB.size
    have HSZ := Lib.hid hszW
    clear hnb hrs hszW hbw
    by_cases hlt : k < L
    · obtain ⟨e0, e1, y0, y1⟩ := hN.cells
      have hXl := hN.lt
      obtain ⟨i, j, hr, hi1, hj1, hne⟩ := HP.out k hlt
      obtain ⟨q1, q2, q3, q4⟩ := HRW.out k hlt
      obtain ⟨rfl, hg1, hg2⟩ := hao (by omega)
      rw [hr] at q1 q2 q3 q4
      obtain ⟨ea, g3, g4⟩ := q3 (by simp)
      rw [ea] at q1
      have hbw : Below w.heap.size w wr := HB0.out.trans (hB.mono (by omega))
      have c0 : wr.cell? ⟨g, k, none⟩ = some (.slice (some ⟨G k, 0, none⟩) 2 (C k)) := (hbw.cell (p := ⟨g, k, none⟩) (by show g < _; omega)).trans q1
      have c1 : wr.cell? ⟨G k, 0, none⟩ = some (.int .i64 i) := (hbw.cell (p := ⟨G k, 0, none⟩) (by show G k < _; omega)).trans (q4 0 (by simp))
      have c2 : wr.cell? ⟨G k, 1, none⟩ = some (.int .i64 j) := (hbw.cell (p := ⟨G k, 1, none⟩) (by show G k < _; omega)).trans (q4 1 (by simp))
      have HT : Hid (renP f (xss.take (k + 1)) = renP f (xss.take k) ++ [[f i, f j]]) := by
        show _ = _
        rw [take_snoc_getD [] (by have := HLEN.out; omega), hr]
        simp [renP]
      have HLN : Hid ((renP f (xss.take k)).length ≤ 1000000) := by show _ ≤ _; rw [renP_len, List.length_take]; omega
      have HBX := Lib.hid hN.box
      have HF1 : Hid (Calls Tryz.prog 38 (#[.int .i64 i] ++ cap) wr.drew fun e w' => e = .returned (.int .i64 (f i)) ∧ wr.drew = w') := HF.out _ hbw.drew i hi1
      have HF2 : Hid (Calls Tryz.prog 38 (#[.int .i64 j] ++ cap) wr.drew fun e w' => e = .returned (.int .i64 (f j)) ∧ wr.drew = w') := HF.out _ hbw.drew j hj1
      have HRd := Lib.hid (hN.own.kept (w' := wr.drew) fun _ _ _ _ => rfl)
      have hz2 : W1.heap.size + 1 + 1 ≤ wr.drew.heap.size := hXl
      have HS : ∀ W', Below (W1.heap.size + 1 + 1) wr W' → W'.cell? ⟨G k, 0, none⟩ = some (.int .i64 i) ∧ W'.cell? ⟨G k, 1, none⟩ = some (.int .i64 j) ∧ W'.cell? ⟨W1.heap.size + 1, 1, none⟩ = some v := fun W' hb =>
        ⟨(hb.cell (p := ⟨G k, 0, none⟩) (by show G k < _; omega)).trans c1, (hb.cell (p := ⟨G k, 1, none⟩) (by show G k < _; omega)).trans c2, (hb.cell (p := ⟨W1.heap.size + 1, 1, none⟩) (by show W1.heap.size + 1 < _; omega)).trans e1⟩
      have HSS := Lib.hid HS
      have hzd : W1.heap.size + 1 + 1 ≤ wr.drew.heap.size := hXl
      have hA1 : ∀ X : Obj, Below (W1.heap.size + 1 + 1) wr (wr.drew.alloc X) := fun X => (Below.refl _ _).drew.alloc hzd _
      have hA2 : ∀ X Y : Obj, Below (W1.heap.size + 1 + 1) wr ((wr.drew.alloc X).alloc Y) := fun X Y => (hA1 X).alloc (by simp; omega) _
      have HA1 := Lib.hid hA1
      have HA2 := Lib.hid hA2
      clear hA1 hA2
      have hKK : keptC 0 0 wr.drew wr.drew v := fun k k1 k2 => by omega
      have HKK := Lib.hid hKK
      have h00 : 0 ≤ wr.drew.heap.size := Nat.zero_le _
      clear hN hB hr ea q1 q2 q3 q4 HS hKK hbw
      go_wp2_with fail
      refine wpU_start (S := fun W' : World => W'.cell? ⟨G k, 0, none⟩ = some (.int .i64 i) ∧ W'.cell? ⟨G k, 1, none⟩ = some (.int .i64 j) ∧ W'.cell? ⟨W1.heap.size + 1, 1, none⟩ = some v) (m := 16) (by kernel_rfl) ?_
      have hHeld : (fun W' : World => W'.cell? ⟨G k, 0, none⟩ = some (.int .i64 i) ∧ W'.cell? ⟨G k, 1, none⟩ = some (.int .i64 j) ∧ W'.cell? ⟨W1.heap.size + 1, 1, none⟩ = some v) wr.drew := ⟨c1, c2, e1⟩
      refine wpU_take (i := 0) (v := ?v0) rfl (by kernel_rfl) (fun _ _ _ h => h) ⟨by rfl, ?hy0⟩ hHeld ?rest0
      case hy0 => (intro w hSw; (try dsimp only at hSw); go_simp; try with_reducible rfl)
      try simp only [Act.put, List.setIfInBounds_toArray, List.set_cons_zero, List.set_cons_succ]
      refine wpU_take (i := 1) (v := ?v1) rfl (by kernel_rfl) (fun _ _ _ h => h) ⟨by rfl, ?hy1⟩ hHeld ?rest1
      case hy1 => (intro w hSw; (try dsimp only at hSw); go_simp; try with_reducible rfl)
      try simp only [Act.put, List.setIfInBounds_toArray, List.set_cons_zero, List.set_cons_succ]
      refine wpU_take (i := 2) (v := ?v2) rfl (by kernel_rfl) (fun _ _ _ h => h) ⟨by rfl, ?hy2⟩ hHeld ?rest2
      case hy2 => (intro w hSw; (try dsimp only at hSw); go_simp; try with_reducible rfl)
      try simp only [Act.put, List.setIfInBounds_toArray, List.set_cons_zero, List.set_cons_succ]
      refine wpU_take (i := 3) (v := ?v3) rfl (by kernel_rfl) (fun _ _ _ h => h) ⟨by rfl, ?hy3⟩ hHeld ?rest3
      case hy3 => (intro w hSw; (try dsimp only at hSw); go_simp; try with_reducible rfl)
      try simp only [Act.put, List.setIfInBounds_toArray, List.set_cons_zero, List.set_cons_succ]
      refine wpU_take (i := 4) (v := ?v4) rfl (by kernel_rfl) (fun _ _ _ h => h) ⟨by rfl, ?hy4⟩ hHeld ?rest4
      case hy4 => (intro w hSw; (try dsimp only at hSw); go_simp; try with_reducible rfl)
      try simp only [Act.put, List.setIfInBounds_toArray, List.set_cons_zero, List.set_cons_succ]
      refine wpU_take (i := 5) (v := ?v5) rfl (by kernel_rfl) (fun _ _ _ h => h) ⟨by rfl, ?hy5⟩ hHeld ?rest5
      case hy5 => (intro w hSw; (try dsimp only at hSw); go_simp; try with_reducible rfl)
      try simp only [Act.put, List.setIfInBounds_toArray, List.set_cons_zero, List.set_cons_succ]
      refine wpU_take (i := 7) (v := ?v7) rfl (by kernel_rfl) (fun _ _ _ h => h) ⟨by rfl, ?hy7⟩ hHeld ?rest7
      case hy7 => (intro w hSw; (try dsimp only at hSw); go_simp; try with_reducible rfl)
      try simp only [Act.put, List.setIfInBounds_toArray, List.set_cons_zero, List.set_cons_succ]
      refine wpU_take (i := 8) (v := ?v8) rfl (by kernel_rfl) (fun _ _ _ h => h) ⟨by rfl, ?hy8⟩ hHeld ?rest8
      case hy8 => (intro w hSw; (try dsimp only at hSw); go_simp; try with_reducible rfl)
      try simp only [Act.put, List.setIfInBounds_toArray, List.set_cons_zero, List.set_cons_succ]
      refine wpU_take (i := 9) (v := ?v9) rfl (by kernel_rfl) (fun _ _ _ h => h) ⟨by rfl, ?hy9⟩ hHeld ?rest9
      case hy9 => (intro w hSw; (try dsimp only at hSw); go_simp; try with_reducible rfl)
      try simp only [Act.put, List.setIfInBounds_toArray, List.set_cons_zero, List.set_cons_succ]
      refine wpU_take (i := 10) (v := ?v10) rfl (by kernel_rfl) (fun _ _ _ h => h) ⟨by rfl, ?hy10⟩ hHeld ?rest10
      case hy10 => (intro w hSw; (try dsimp only at hSw); go_simp; try with_reducible rfl)
      try simp only [Act.put, List.setIfInBounds_toArray, List.set_cons_zero, List.set_cons_succ]
      refine wpU_one (i := 6) (by kernel_rfl) rfl (fun K hK => ?_)
      go_simp; go_at_call 38; refine (HF1.out).mono ?_; rintro e w' ⟨rfl, rfl⟩
      refine hK.out _ _ (hHeld) (fun hHeld => ?_)
      clear hK K
      try simp only [Act.put, List.setIfInBounds_toArray, List.set_cons_zero, List.set_cons_succ]
      refine wpU_one (i := 11) (by kernel_rfl) rfl (fun K hK => ?_)
      go_simp; go_at_call 38; refine (HF2.out).mono ?_; rintro e w' ⟨rfl, rfl⟩
      refine hK.out _ _ (hHeld) (fun hHeld => ?_)
      clear hK K
      try simp only [Act.put, List.setIfInBounds_toArray, List.set_cons_zero, List.set_cons_succ]
      refine wpU_one (i := 12) (by kernel_rfl) rfl (fun K hK => ?_)
      go_simp
      refine hK.out _ _ (HSS.out _ (HA1.out _)) (fun hHeld => ?_)
      clear hK K
      try simp only [Act.put, List.setIfInBounds_toArray, List.set_cons_zero, List.set_cons_succ]
      refine wpU_one (i := 13) (by kernel_rfl) rfl (fun K hK => ?_)
      go_simp
      refine hK.out _ _ (HSS.out _ (HA2.out _ _)) (fun hHeld => ?_)
      clear hK K
      try simp only [Act.put, List.setIfInBounds_toArray, List.set_cons_zero, List.set_cons_succ]
      refine wpU_one (i := 14) (by kernel_rfl) rfl (fun K hK => ?_)
      refine wp_app_pairC (.tmp 20) (.tmp 32) rfl wr.drew (f i) (f j) (W1.heap.size + 1 + 1) _ us (renP f (xss.take k)) 0 0 wr.drew HRd.out hz2 HKK.out h00 HLN.out rfl rfl ?_; intro g' L' cap' w8 vs8 hL8 o8 q8 z8 k8 y8; have bx8 := blk_below HBX.out (undrew q8) (by omega); have x0 := blk_cell bx8 0; have x1 := blk_cell bx8 1; have x2 := blk_free bx8 1; have BX8 := Lib.hid bx8; have O8 := Lib.hid o8; have Q8 := Lib.hid (undrew q8); clear o8 k8 bx8
      refine hK.out _ _ (HSS.out _ (Q8.out)) (fun hHeld => ?_)
      clear hK K
      try simp only [Act.put, List.setIfInBounds_toArray, List.set_cons_zero, List.set_cons_succ]
      refine wpU_take (i := 15) (v := ?v15) rfl (by kernel_rfl) (fun _ _ _ h => h) ⟨by rfl, ?hy15⟩ hHeld ?rest15
      case hy15 => (intro w hSw; (try dsimp only at hSw); go_simp; try with_reducible rfl)
      try simp only [Act.put, List.setIfInBounds_toArray, List.set_cons_zero, List.set_cons_succ]
      refine wpU_last (by kernel_rfl) rfl (fun K hK => ?_)
      go_simp
      refine hK.out _ _ ?_
      clear hK K
      try simp only [Act.put, List.setIfInBounds_toArray, List.set_cons_zero, List.set_cons_succ]
      refine wpU_done (by kernel_rfl) ?_ _
      go_wp2
      go_roundw
      case rel => exact ⟨k + 1, by omega, by go_num, _, vs8, by rw [HT.out]; exact NB.store BX8.out O8.out, (HB.out.trans (Q8.out.mono (by omega))).setCell (by show W1.heap.size + 1 ≤ W1.heap.size + 1; omega) _⟩
      case measure => simp [intOf]; omega
    · have HE : Hid (xss.take k = xss) := List.take_of_length_le (by have := HLEN.out; omega)
      obtain ⟨r0, r1, y0, y1⟩ := hN.cells
      obtain ⟨hfin, hbel, q0, q1, x0, x1⟩ := netFin hN (by omega) HRS.out (hB2.trans (hB.mono (by omega)))
      have HFN := Lib.hid hfin
      have HL := Lib.hid hbel
      obtain ⟨M, hM⟩ : ∃ M, M = (renP f (xss.take k)).length := ⟨_, rfl⟩
      obtain ⟨ao9, g9, cap9, ev, -, -, -⟩ := hN.own.rows
      rw [← hM] at ev
      have HBf : Hid (Below w.heap.size w wr) := HB0.out.trans (hB.mono (by omega))
      clear hfin hbel hN hB hM
      subst ev
      go_wp2
      refine bodyPost_ret (v := .agg #[.int .i64 m, .slice ao9 M cap9]) (by simp [results, Tryz.results37, go_sem, q0, q1]) rfl ⟨_, us, rfl, by rw [← HE.out]; exact HFN.out.mono (by omega) (Nat.le_refl _), (HBf.out.setCell (by show w.heap.size ≤ W1.heap.size; omega) _).setCell (by show w.heap.size ≤ W1.heap.size; omega) _⟩
set_option maxHeartbeats 2000000 in
theorem renamed_PlaceNetwork (n : Nat) (lo hi : Nat) (v : Value) (vs : List Value) (xss : List (List Int)) (w : World) (hv : OwnR w lo hi v vs xss) (hhi : hi ≤ w.heap.size) (hok : netOk n xss = true)
    (m : Int) (cap : Array Value) (f : Int → Int) (hf : ∀ wr, Below w.heap.size w wr → ∀ i : Nat, i < n → Calls Tryz.prog 39 (#[.int .i64 i] ++ cap) wr fun e w' => e = .returned (.int .i64 (f i)) ∧ wr = w') :
    Calls Tryz.prog 37 #[.agg #[.int .i64 n, v], .int .i64 m, .func (.func 39) #[] cap] w fun e w' => ∃ u us, e = .returned (.agg #[.int .i64 m, u]) ∧ OwnR w' w.heap.size w'.heap.size u us (renP f xss) ∧ Below w.heap.size w w' := by
  have HF := Lib.hid hf
  have HV := Lib.hid hv
  have HP := Lib.hid (netOk_pair hok)
  have hl60 := netOk_len hok
  obtain ⟨ao, g, cap0, A, G, C, rfl, hcap, hao, hrow⟩ := hv.view
  have HRW := Lib.hid hrow
  obtain ⟨L, hlen⟩ : ∃ l, l = xss.length := ⟨_, rfl⟩
  have HLEN := Lib.hid hlen
  rw [← hlen] at HV hl60 hcap hao HRW HP ⊢
  clear hv hlen hok hrow hf
  go_enter Tryz.func37, Tryz.ntmps37
  go_wp2_with fail
  obtain ⟨W1, hW1, c0, c1, hsz, hB1, -, -⟩ := box2 w (.int .i64 n) (.slice ao L cap0) 25
  have hs1 : w.heap.size + 1 = W1.heap.size := by omega
  rw [hW1]
  clear hW1
  have HS1 := Lib.hid hs1
  try rw [hs1]
  obtain ⟨W, hW, hnb, hrs, hbw, hszW⟩ := netInit W1 m
  try rw [hW]
  clear hW
  have hx : W1.heap.size + 1 < W.heap.size := by omega
  have hB2 : Below W1.heap.size W1 W := hbw
  have HB0 : Hid (Below w.heap.size w W) := hB1.trans (hbw.mono (by omega))
  have hw1 : w.heap.size < W1.heap.size := by omega
  clear c0 c1 hsz hs1
  go_loopw [15] (fun i wr => ∃ k : Nat, k ≤ L ∧ i = .int .i64 k ∧ ∃ v us, NB wr (W1.heap.size + 1) m v us (renP f (xss.take k)) ∧ Below (W1.heap.size + 1) W wr) (fun i _ => L - (intOf i).toNat)
  case atStart => exact ⟨0, Nat.zero_le _, rfl, _, _, by simpa [renP] using hnb, Below.refl _ _⟩
  case round =>
    obtain ⟨k, hk, rfl, v, us, hN, hB⟩ := hrel
    have HRS := Lib.hid (blk_below hrs hB (by omega))
    have HN := Lib.hid hN
    have HB := Lib.hid hB
    have hzB := hB.size
    have HSZ := Lib.hid hszW
    clear hnb hrs hszW hbw
    by_cases hlt : k < L
    · obtain ⟨e0, e1, y0, y1⟩ := hN.cells
      have hXl := hN.lt
      obtain ⟨i, j, hr, hi1, hj1, hne⟩ := HP.out k hlt
      obtain ⟨q1, q2, q3, q4⟩ := HRW.out k hlt
      obtain ⟨rfl, hg1, hg2⟩ := hao (by omega)
      rw [hr] at q1 q2 q3 q4
      obtain ⟨ea, g3, g4⟩ := q3 (by simp)
      rw [ea] at q1
      have hbw : Below w.heap.size w wr := HB0.out.trans (hB.mono (by omega))
      have c0 : wr.cell? ⟨g, k, none⟩ = some (.slice (some ⟨G k, 0, none⟩) 2 (C k)) := (hbw.cell (p := ⟨g, k, none⟩) (by show g < _; omega)).trans q1
      have c1 : wr.cell? ⟨G k, 0, none⟩ = some (.int .i64 i) := (hbw.cell (p := ⟨G k, 0, none⟩) (by show G k < _; omega)).trans (q4 0 (by simp))
      have c2 : wr.cell? ⟨G k, 1, none⟩ = some (.int .i64 j) := (hbw.cell (p := ⟨G k, 1, none⟩) (by show G k < _; omega)).trans (q4 1 (by simp))
      have HT : Hid (renP f (xss.take (k + 1)) = renP f (xss.take k) ++ [[f i, f j]]) := by
        show _ = _
        rw [take_snoc_getD [] (by have := HLEN.out; omega), hr]
        simp [renP]
      have HLN : Hid ((renP f (xss.take k)).length ≤ 1000000) := by show _ ≤ _; rw [renP_len, List.length_take]; omega
      have HBX := Lib.hid hN.box
      have HF1 : Hid (Calls Tryz.prog 39 (#[.int .i64 i] ++ cap) wr.drew fun e w' => e = .returned (.int .i64 (f i)) ∧ wr.drew = w') := HF.out _ hbw.drew i hi1
      have HF2 : Hid (Calls Tryz.prog 39 (#[.int .i64 j] ++ cap) wr.drew fun e w' => e = .returned (.int .i64 (f j)) ∧ wr.drew = w') := HF.out _ hbw.drew j hj1
      have HRd := Lib.hid (hN.own.kept (w' := wr.drew) fun _ _ _ _ => rfl)
      have hz2 : W1.heap.size + 1 + 1 ≤ wr.drew.heap.size := hXl
      have HS : ∀ W', Below (W1.heap.size + 1 + 1) wr W' → W'.cell? ⟨G k, 0, none⟩ = some (.int .i64 i) ∧ W'.cell? ⟨G k, 1, none⟩ = some (.int .i64 j) ∧ W'.cell? ⟨W1.heap.size + 1, 1, none⟩ = some v := fun W' hb =>
        ⟨(hb.cell (p := ⟨G k, 0, none⟩) (by show G k < _; omega)).trans c1, (hb.cell (p := ⟨G k, 1, none⟩) (by show G k < _; omega)).trans c2, (hb.cell (p := ⟨W1.heap.size + 1, 1, none⟩) (by show W1.heap.size + 1 < _; omega)).trans e1⟩
      have HSS := Lib.hid HS
      have hzd : W1.heap.size + 1 + 1 ≤ wr.drew.heap.size := hXl
      have hA1 : ∀ X : Obj, Below (W1.heap.size + 1 + 1) wr (wr.drew.alloc X) := fun X => (Below.refl _ _).drew.alloc hzd _
      have hA2 : ∀ X Y : Obj, Below (W1.heap.size + 1 + 1) wr ((wr.drew.alloc X).alloc Y) := fun X Y => (hA1 X).alloc (by simp; omega) _
      have HA1 := Lib.hid hA1
      have HA2 := Lib.hid hA2
      clear hA1 hA2
      have hKK : keptC 0 0 wr.drew wr.drew v := fun k k1 k2 => by omega
      have HKK := Lib.hid hKK
      have h00 : 0 ≤ wr.drew.heap.size := Nat.zero_le _
      clear hN hB hr ea q1 q2 q3 q4 HS hKK hbw
      go_wp2_with fail
      refine wpU_start (S := fun W' : World => W'.cell? ⟨G k, 0, none⟩ = some (.int .i64 i) ∧ W'.cell? ⟨G k, 1, none⟩ = some (.int .i64 j) ∧ W'.cell? ⟨W1.heap.size + 1, 1, none⟩ = some v) (m := 16) (by kernel_rfl) ?_
      have hHeld : (fun W' : World => W'.cell? ⟨G k, 0, none⟩ = some (.int .i64 i) ∧ W'.cell? ⟨G k, 1, none⟩ = some (.int .i64 j) ∧ W'.cell? ⟨W1.heap.size + 1, 1, none⟩ = some v) wr.drew := ⟨c1, c2, e1⟩
      refine wpU_take (i := 0) (v := ?v0) rfl (by kernel_rfl) (fun _ _ _ h => h) ⟨by rfl, ?hy0⟩ hHeld ?rest0
      case hy0 => (intro w hSw; (try dsimp only at hSw); go_simp; try with_reducible rfl)
      try simp only [Act.put, List.setIfInBounds_toArray, List.set_cons_zero, List.set_cons_succ]
      refine wpU_take (i := 1) (v := ?v1) rfl (by kernel_rfl) (fun _ _ _ h => h) ⟨by rfl, ?hy1⟩ hHeld ?rest1
      case hy1 => (intro w hSw; (try dsimp only at hSw); go_simp; try with_reducible rfl)
      try simp only [Act.put, List.setIfInBounds_toArray, List.set_cons_zero, List.set_cons_succ]
      refine wpU_take (i := 2) (v := ?v2) rfl (by kernel_rfl) (fun _ _ _ h => h) ⟨by rfl, ?hy2⟩ hHeld ?rest2
      case hy2 => (intro w hSw; (try dsimp only at hSw); go_simp; try with_reducible rfl)
      try simp only [Act.put, List.setIfInBounds_toArray, List.set_cons_zero, List.set_cons_succ]
      refine wpU_take (i := 3) (v := ?v3) rfl (by kernel_rfl) (fun _ _ _ h => h) ⟨by rfl, ?hy3⟩ hHeld ?rest3
      case hy3 => (intro w hSw; (try dsimp only at hSw); go_simp; try with_reducible rfl)
      try simp only [Act.put, List.setIfInBounds_toArray, List.set_cons_zero, List.set_cons_succ]
      refine wpU_take (i := 4) (v := ?v4) rfl (by kernel_rfl) (fun _ _ _ h => h) ⟨by rfl, ?hy4⟩ hHeld ?rest4
      case hy4 => (intro w hSw; (try dsimp only at hSw); go_simp; try with_reducible rfl)
      try simp only [Act.put, List.setIfInBounds_toArray, List.set_cons_zero, List.set_cons_succ]
      refine wpU_take (i := 5) (v := ?v5) rfl (by kernel_rfl) (fun _ _ _ h => h) ⟨by rfl, ?hy5⟩ hHeld ?rest5
      case hy5 => (intro w hSw; (try dsimp only at hSw); go_simp; try with_reducible rfl)
      try simp only [Act.put, List.setIfInBounds_toArray, List.set_cons_zero, List.set_cons_succ]
      refine wpU_take (i := 7) (v := ?v7) rfl (by kernel_rfl) (fun _ _ _ h => h) ⟨by rfl, ?hy7⟩ hHeld ?rest7
      case hy7 => (intro w hSw; (try dsimp only at hSw); go_simp; try with_reducible rfl)
      try simp only [Act.put, List.setIfInBounds_toArray, List.set_cons_zero, List.set_cons_succ]
      refine wpU_take (i := 8) (v := ?v8) rfl (by kernel_rfl) (fun _ _ _ h => h) ⟨by rfl, ?hy8⟩ hHeld ?rest8
      case hy8 => (intro w hSw; (try dsimp only at hSw); go_simp; try with_reducible rfl)
      try simp only [Act.put, List.setIfInBounds_toArray, List.set_cons_zero, List.set_cons_succ]
      refine wpU_take (i := 9) (v := ?v9) rfl (by kernel_rfl) (fun _ _ _ h => h) ⟨by rfl, ?hy9⟩ hHeld ?rest9
      case hy9 => (intro w hSw; (try dsimp only at hSw); go_simp; try with_reducible rfl)
      try simp only [Act.put, List.setIfInBounds_toArray, List.set_cons_zero, List.set_cons_succ]
      refine wpU_take (i := 10) (v := ?v10) rfl (by kernel_rfl) (fun _ _ _ h => h) ⟨by rfl, ?hy10⟩ hHeld ?rest10
      case hy10 => (intro w hSw; (try dsimp only at hSw); go_simp; try with_reducible rfl)
      try simp only [Act.put, List.setIfInBounds_toArray, List.set_cons_zero, List.set_cons_succ]
      refine wpU_one (i := 6) (by kernel_rfl) rfl (fun K hK => ?_)
      go_simp; go_at_call 39; refine (HF1.out).mono ?_; rintro e w' ⟨rfl, rfl⟩
      refine hK.out _ _ (hHeld) (fun hHeld => ?_)
      clear hK K
      try simp only [Act.put, List.setIfInBounds_toArray, List.set_cons_zero, List.set_cons_succ]
      refine wpU_one (i := 11) (by kernel_rfl) rfl (fun K hK => ?_)
      go_simp; go_at_call 39; refine (HF2.out).mono ?_; rintro e w' ⟨rfl, rfl⟩
      refine hK.out _ _ (hHeld) (fun hHeld => ?_)
      clear hK K
      try simp only [Act.put, List.setIfInBounds_toArray, List.set_cons_zero, List.set_cons_succ]
      refine wpU_one (i := 12) (by kernel_rfl) rfl (fun K hK => ?_)
      go_simp
      refine hK.out _ _ (HSS.out _ (HA1.out _)) (fun hHeld => ?_)
      clear hK K
      try simp only [Act.put, List.setIfInBounds_toArray, List.set_cons_zero, List.set_cons_succ]
      refine wpU_one (i := 13) (by kernel_rfl) rfl (fun K hK => ?_)
      go_simp
      refine hK.out _ _ (HSS.out _ (HA2.out _ _)) (fun hHeld => ?_)
      clear hK K
      try simp only [Act.put, List.setIfInBounds_toArray, List.set_cons_zero, List.set_cons_succ]
      refine wpU_one (i := 14) (by kernel_rfl) rfl (fun K hK => ?_)
      refine wp_app_pairC (.tmp 20) (.tmp 32) rfl wr.drew (f i) (f j) (W1.heap.size + 1 + 1) _ us (renP f (xss.take k)) 0 0 wr.drew HRd.out hz2 HKK.out h00 HLN.out rfl rfl ?_; intro g' L' cap' w8 vs8 hL8 o8 q8 z8 k8 y8; have bx8 := blk_below HBX.out (undrew q8) (by omega); have x0 := blk_cell bx8 0; have x1 := blk_cell bx8 1; have x2 := blk_free bx8 1; have BX8 := Lib.hid bx8; have O8 := Lib.hid o8; have Q8 := Lib.hid (undrew q8); clear o8 k8 bx8
      refine hK.out _ _ (HSS.out _ (Q8.out)) (fun hHeld => ?_)
      clear hK K
      try simp only [Act.put, List.setIfInBounds_toArray, List.set_cons_zero, List.set_cons_succ]
      refine wpU_take (i := 15) (v := ?v15) rfl (by kernel_rfl) (fun _ _ _ h => h) ⟨by rfl, ?hy15⟩ hHeld ?rest15
      case hy15 => (intro w hSw; (try dsimp only at hSw); go_simp; try with_reducible rfl)
      try simp only [Act.put, List.setIfInBounds_toArray, List.set_cons_zero, List.set_cons_succ]
      refine wpU_last (by kernel_rfl) rfl (fun K hK => ?_)
      go_simp
      refine hK.out _ _ ?_
      clear hK K
      try simp only [Act.put, List.setIfInBounds_toArray, List.set_cons_zero, List.set_cons_succ]
      refine wpU_done (by kernel_rfl) ?_ _
      go_wp2
      go_roundw
      case rel => exact ⟨k + 1, by omega, by go_num, _, vs8, by rw [HT.out]; exact NB.store BX8.out O8.out, (HB.out.trans (Q8.out.mono (by omega))).setCell (by show W1.heap.size + 1 ≤ W1.heap.size + 1; omega) _⟩
      case measure => simp [intOf]; omega
    · have HE : Hid (xss.take k = xss) := List.take_of_length_le (by have := HLEN.out; omega)
      obtain ⟨r0, r1, y0, y1⟩ := hN.cells
      obtain ⟨hfin, hbel, q0, q1, x0, x1⟩ := netFin hN (by omega) HRS.out (hB2.trans (hB.mono (by omega)))
      have HFN := Lib.hid hfin
      have HL := Lib.hid hbel
      obtain ⟨M, hM⟩ : ∃ M, M = (renP f (xss.take k)).length := ⟨_, rfl⟩
      obtain ⟨ao9, g9, cap9, ev, -, -, -⟩ := hN.own.rows
      rw [← hM] at ev
      have HBf : Hid (Below w.heap.size w wr) := HB0.out.trans (hB.mono (by omega))
      clear hfin hbel hN hB hM
      subst ev
      go_wp2
      refine bodyPost_ret (v := .agg #[.int .i64 m, .slice ao9 M cap9]) (by simp [results, Tryz.results37, go_sem, q0, q1]) rfl ⟨_, us, rfl, by rw [← HE.out]; exact HFN.out.mono (by omega) (Nat.le_refl _), (HBf.out.setCell (by show w.heap.size ≤ W1.heap.size; omega) _).setCell (by show w.heap.size ≤ W1.heap.size; omega) _⟩
end Go.Proofs.YtiodolbgapjmkaaGreatDoor
