/- A copy of comparators, the reference's, and the checks at the end, by their contracts. Conditions: the network is valid. -/
import Derived.Test.YtgdkihabphihoaaCopy
import Derived.Test.YtgdkihabphihoaaPairC
namespace Go.Proofs.Ytgdkihabphihoaa
open Go.RowKit
set_option maxRecDepth 100000
set_option linter.unusedVariables false

set_option maxHeartbeats 2000000 in
theorem l02Copy_c (n : Nat) (lo hi : Nat) (v : Value) (vs : List Value) (xss : List (List Int)) (w : World) (hv : OwnR w lo hi v vs xss) (hhi : hi ≤ w.heap.size) (hok : netOk n xss = true) :
    Calls Try.prog 111 #[v] w (RowC w xss) := by
  have HP := Lib.hid (netOk_pair hok)
  have hl60 := netOk_len hok
  obtain ⟨ao, g, cap, A, G, C, rfl, hcap, hao, hrow⟩ := hv.view
  have HRW := Lib.hid hrow
  obtain ⟨L, hlen⟩ : ∃ l, l = xss.length := ⟨_, rfl⟩
  have HLEN := Lib.hid hlen
  rw [← hlen] at hl60 hcap hao HRW HP ⊢
  clear hv hlen hok hrow
  go_enter Try.func111, Try.ntmps111
  go_wp2_with fail
  obtain ⟨W0, hW0⟩ : ∃ W, W = w.alloc (.cells #[] 31) := ⟨_, rfl⟩
  have hi0 : Hid (OwnR W0 w.heap.size W0.heap.size (.slice (some ⟨w.heap.size, 0, none⟩) 0 0) [] []) := by show OwnR _ _ _ _ _ _; rw [hW0]; exact (ownR_empty w).mono (Nat.le_refl _) (by simp)
  have hb0 : Below w.heap.size w W0 := by rw [hW0]; exact (Below.refl _ _).alloc (Nat.le_refl _) _
  try rw [← hW0]
  clear hW0
  go_loopw [3, 9] (fun v i wr => ∃ k : Nat, k ≤ L ∧ i = .int .i64 k ∧ ∃ us, OwnR wr w.heap.size wr.heap.size v us (xss.take k) ∧ Below w.heap.size w wr) (fun _ i _ => L - (intOf i).toNat)
  case atStart => exact ⟨0, Nat.zero_le _, rfl, [], by simpa using hi0.out, hb0⟩
  case round =>
    obtain ⟨k, hk, rfl, us, hR, hB⟩ := hrel
    have HR := Lib.hid hR
    have HB := Lib.hid hB
    have hzr := hB.size
    clear hi0 hb0
    by_cases hlt : k < L
    · obtain ⟨i, j, hr, hi1, hj1, hne⟩ := HP.out k hlt
      obtain ⟨q1, q2, q3, q4⟩ := HRW.out k hlt
      obtain ⟨rfl, hg1, hg2⟩ := hao (by omega)
      rw [hr] at q1 q2 q3 q4
      obtain ⟨ea, g3, g4⟩ := q3 (by simp)
      rw [ea] at q1
      have c0 : wr.cell? ⟨g, k, none⟩ = some (.slice (some ⟨G k, 0, none⟩) 2 (C k)) := (hB.cell (p := ⟨g, k, none⟩) (by show g < _; omega)).trans q1
      have c1 : wr.cell? ⟨G k, 0, none⟩ = some (.int .i64 i) := (hB.cell (p := ⟨G k, 0, none⟩) (by show G k < _; omega)).trans (q4 0 (by simp))
      have c2 : wr.cell? ⟨G k, 1, none⟩ = some (.int .i64 j) := (hB.cell (p := ⟨G k, 1, none⟩) (by show G k < _; omega)).trans (q4 1 (by simp))
      have HT : Hid (xss.take (k + 1) = xss.take k ++ [[(i : Int), (j : Int)]]) := by show _ = _; rw [take_snoc_getD [] (by have := HLEN.out; omega), hr]
      have HLN : Hid ((xss.take k).length ≤ 1000000) := by show _ ≤ _; rw [List.length_take]; omega
      have HRd := Lib.hid (HR.out.kept (w' := wr.drew) fun _ _ _ _ => rfl)
      have hz2 : w.heap.size ≤ wr.drew.heap.size := hzr
      have hGw : G k < w.heap.size := by omega
      have hS : ∀ W', Below w.heap.size wr W' → W'.cell? ⟨G k, 0, none⟩ = some (.int .i64 i) ∧ W'.cell? ⟨G k, 1, none⟩ = some (.int .i64 j) := fun W' hb =>
        ⟨(hb.cell (p := ⟨G k, 0, none⟩) hGw).trans c1, (hb.cell (p := ⟨G k, 1, none⟩) hGw).trans c2⟩
      have hA1 : ∀ X : Obj, Below w.heap.size wr (wr.drew.alloc X) := fun X => (Below.refl _ _).drew.alloc hzr _
      have hA2 : ∀ X Y : Obj, Below w.heap.size wr ((wr.drew.alloc X).alloc Y) := fun X Y => (hA1 X).alloc (by simp; omega) _
      have HSS := Lib.hid hS
      have HA1 := Lib.hid hA1
      have HA2 := Lib.hid hA2
      have HKK : Hid (∀ u : Value, keptC 0 0 wr.drew wr.drew u) := fun u k k1 k2 => by omega
      have h00 : 0 ≤ wr.drew.heap.size := Nat.zero_le _
      clear hS hA1 hA2 hR hB q1 q2 q3 q4 hr ea
      go_wp2_with fail
      go_region_held3 (fun W' => W'.cell? ⟨G k, 0, none⟩ = some (.int .i64 i) ∧ W'.cell? ⟨G k, 1, none⟩ = some (.int .i64 j)) (first | exact ⟨c1, c2⟩ | exact HSS.out _ (HA2.out _ _) | exact HSS.out _ (HA1.out _) | exact ⟨cc1, cc2⟩ | fail) (first | (refine wp_app_pairC (.tmp 13) (.tmp 21) rfl wr.drew (i : Int) (j : Int) w.heap.size _ us (xss.take k) 0 0 wr.drew HRd.out hz2 (HKK.out _) h00 HLN.out rfl rfl ?_; intro g' L' cap' w8 vs8 hL8 o8 q8 z8 k8 y8; obtain ⟨cc1, cc2⟩ := HSS.out w8 (undrew q8); have O8 := Lib.hid o8; have Q8 := Lib.hid (undrew q8); clear o8 q8 k8) | fail)
      all_goals
        go_wp2
        go_roundw
        case rel => exact ⟨k + 1, by omega, by go_num, vs8, by rw [HT.out]; exact O8.out, HB.out.trans Q8.out⟩
        case measure => simp [intOf]; omega
    · have HE : Hid (xss.take k = xss) := List.take_of_length_le (by have := HLEN.out; omega)
      clear hR hB
      go_wp2
      go_ret
      exact ⟨_, us, rfl, by rw [← HE.out]; exact HR.out, HB.out⟩
set_option maxHeartbeats 1000000 in
theorem checked_c (n : Int) (lo hi : Nat) (v : Value) (vs : List Value) (xss : List (List Int)) (w : World) (hv : OwnR w lo hi v vs xss) (hhi : hi ≤ w.heap.size) :
    Calls Try.prog 117 #[.agg #[.int .i64 n, v]] w fun e w' => e = .returned (.tuple #[if netOk n xss = true then .agg #[.int .i64 n, v] else .agg #[.int .i64 0, .slice none 0 0], .bool (netOk n xss)]) ∧ Below w.heap.size w w' := by
  have HC := Lib.hid (NetworkOk_c n lo hi v vs xss)
  have HV := Lib.hid hv
  obtain ⟨ao, g, cap, rfl, -, -, -⟩ := hv.rows
  obtain ⟨L, hlen⟩ : ∃ l, l = xss.length := ⟨_, rfl⟩
  rw [← hlen] at HV HC ⊢
  clear hv hlen
  obtain ⟨b, hb⟩ : ∃ b, b = netOk n xss := ⟨_, rfl⟩
  rw [← hb] at HC ⊢
  clear hb
  go_enter Try.func117, Try.ntmps117
  go_wp2_with fail
  obtain ⟨W1, hW1, c0, c1, hsz, hB1, -, -⟩ := box2 w (.int .i64 n) (.slice ao L cap) 27
  have hb9 := blk_new W1 (.cells #[.int .i64 0, .slice none 0 0] 27)
  obtain ⟨W2, hW2⟩ : ∃ W, W = W1.alloc (.cells #[.int .i64 0, .slice none 0 0] 27) := ⟨_, rfl⟩
  have hBa : Below W1.heap.size W1 W2 := by rw [hW2]; exact (Below.refl _ _).alloc (Nat.le_refl _) _
  have hs2 : W2.heap.size = W1.heap.size + 1 := by rw [hW2]; simp
  rw [← hW2] at hb9
  obtain ⟨c0, c1, hz0⟩ := boxC hBa (by omega) c0 c1
  have hB2 : Below w.heap.size w W2 := hB1.trans (hBa.mono (by omega))
  rw [hsz] at hb9
  try rw [hW1, ← hW2]
  have hw2 : w.heap.size + 1 < W2.heap.size := by omega
  clear hW1 hW2 hBa hs2 hsz hB1
  refine (HC.out W2 (HV.out.below hB2 (by omega)) (by omega)).mono ?_
  rintro e w3 ⟨rfl, b3⟩
  obtain ⟨d0, d1, z3⟩ := boxC b3 hz0 c0 c1
  have hr9 := blk_below hb9 b3 hw2
  have r0 := blk_cell hr9 0
  have r1 := blk_cell hr9 1
  have y0 := blk_free hr9 0
  have y1 := blk_free hr9 1
  have HB : Hid (Below w.heap.size w w3) := hB2.trans (b3.mono (by omega))
  clear c0 c1 hb9 hr9 b3 hB2 HC HV
  cases b
  · go_wp2
    refine bodyPost_ret (v := .tuple #[.agg #[.int .i64 0, .slice none 0 0], .bool false]) (by simp [results, Try.results117, go_sem, r0, r1]) rfl ⟨rfl, ?_⟩
    first
      | exact HB.out
      | exact (HB.out.setCell (by show w.heap.size ≤ w.heap.size + 1; omega) _).setCell (by show w.heap.size ≤ w.heap.size + 1; omega) _
  · go_wp2
    exact bodyPost_ret (v := .tuple #[.agg #[.int .i64 n, .slice ao L cap], .bool true]) (by simp [results, Try.results117, go_sem, r0, r1]) rfl ⟨rfl, (HB.out.setCell (by show w.heap.size ≤ w.heap.size + 1; omega) _).setCell (by show w.heap.size ≤ w.heap.size + 1; omega) _⟩
set_option maxHeartbeats 1000000 in
theorem l02Out_c (n : Int) (lo hi : Nat) (v : Value) (vs : List Value) (xss : List (List Int)) (w : World) (hv : OwnR w lo hi v vs xss) (hhi : hi ≤ w.heap.size) :
    Calls Try.prog 110 #[.agg #[.int .i64 n, v]] w fun e w' => e = .returned (.tuple #[if netOk n xss = true then .agg #[.int .i64 n, v] else .agg #[.int .i64 0, .slice none 0 0], .bool (netOk n xss)]) ∧ Below w.heap.size w w' := by
  have HC := Lib.hid (SNetworkOk_c n lo hi v vs xss)
  have HV := Lib.hid hv
  obtain ⟨ao, g, cap, rfl, -, -, -⟩ := hv.rows
  obtain ⟨L, hlen⟩ : ∃ l, l = xss.length := ⟨_, rfl⟩
  rw [← hlen] at HV HC ⊢
  clear hv hlen
  obtain ⟨b, hb⟩ : ∃ b, b = netOk n xss := ⟨_, rfl⟩
  rw [← hb] at HC ⊢
  clear hb
  go_enter Try.func110, Try.ntmps110
  go_wp2_with fail
  obtain ⟨W1, hW1, c0, c1, hsz, hB1, -, -⟩ := box2 w (.int .i64 n) (.slice ao L cap) 27
  have hb9 := blk_new W1 (.cells #[.int .i64 0, .slice none 0 0] 27)
  obtain ⟨W2, hW2⟩ : ∃ W, W = W1.alloc (.cells #[.int .i64 0, .slice none 0 0] 27) := ⟨_, rfl⟩
  have hBa : Below W1.heap.size W1 W2 := by rw [hW2]; exact (Below.refl _ _).alloc (Nat.le_refl _) _
  have hs2 : W2.heap.size = W1.heap.size + 1 := by rw [hW2]; simp
  rw [← hW2] at hb9
  obtain ⟨c0, c1, hz0⟩ := boxC hBa (by omega) c0 c1
  have hB2 : Below w.heap.size w W2 := hB1.trans (hBa.mono (by omega))
  rw [hsz] at hb9
  try rw [hW1, ← hW2]
  have hw2 : w.heap.size + 1 < W2.heap.size := by omega
  clear hW1 hW2 hBa hs2 hsz hB1
  refine (HC.out W2 (HV.out.below hB2 (by omega)) (by omega)).mono ?_
  rintro e w3 ⟨rfl, b3⟩
  obtain ⟨d0, d1, z3⟩ := boxC b3 hz0 c0 c1
  have hr9 := blk_below hb9 b3 hw2
  have r0 := blk_cell hr9 0
  have r1 := blk_cell hr9 1
  have y0 := blk_free hr9 0
  have y1 := blk_free hr9 1
  have HB : Hid (Below w.heap.size w w3) := hB2.trans (b3.mono (by omega))
  clear c0 c1 hb9 hr9 b3 hB2 HC HV
  cases b
  · go_wp2
    refine bodyPost_ret (v := .tuple #[.agg #[.int .i64 0, .slice none 0 0], .bool false]) (by simp [results, Try.results110, go_sem, r0, r1]) rfl ⟨rfl, ?_⟩
    first
      | exact HB.out
      | exact (HB.out.setCell (by show w.heap.size ≤ w.heap.size + 1; omega) _).setCell (by show w.heap.size ≤ w.heap.size + 1; omega) _
  · go_wp2
    exact bodyPost_ret (v := .tuple #[.agg #[.int .i64 n, .slice ao L cap], .bool true]) (by simp [results, Try.results110, go_sem, r0, r1]) rfl ⟨rfl, (HB.out.setCell (by show w.heap.size ≤ w.heap.size + 1; omega) _).setCell (by show w.heap.size ≤ w.heap.size + 1; omega) _⟩
end Go.Proofs.Ytgdkihabphihoaa
