/- Sets of masks in the program and in the reference: all masks, the images of a comparator, by their contracts. Conditions: at most eight wires. -/
import Derived.Test.YtiodolbgapjmkaaMaskSet
import Derived.Test.YtiodolbgapjmkaaBitsC
import Derived.Test.YtiodolbgapjmkaaWires
namespace Go.Proofs.Ytiodolbgapjmkaa
open Go.RowKit Go.Sort
set_option maxRecDepth 100000
set_option linter.unusedVariables false
set_option linter.unusedSimpArgs false

set_option maxHeartbeats 1000000 in
theorem allMasks_c (n : Nat) (w : World) (hn : n ≤ 8) : Calls Try.prog 156 #[.int .i64 n] w (IntC w (upI 0 (2 ^ n))) := by
  have hps : wrap64 (2 ^ n) = ((2 ^ n : Nat) : Int) := wrap_pow n hn
  obtain ⟨P, hP⟩ : ∃ P, P = 2 ^ n := ⟨_, rfl⟩
  have hP256 : P ≤ 256 := by rw [hP]; exact pow_le_256 n hn
  rw [← hP] at hps ⊢
  clear hP
  obtain ⟨W0, hW0⟩ : ∃ W, W = w.alloc (.cells #[] 3) := ⟨_, rfl⟩
  have HO0 : Hid (OwnI W0 w.heap.size W0.heap.size (.slice (some ⟨w.heap.size, 0, none⟩) 0 0) []) := by show OwnI _ _ _ _ _; rw [hW0]; exact Own.mono (ownI_empty w) (Nat.le_refl _) (by simp)
  have HB0 : Hid (Below w.heap.size w W0) := by show Below _ _ _; rw [hW0]; exact (Below.refl _ _).alloc (Nat.le_refl _) _
  have HW := Lib.hid hW0
  clear hW0
  go_enter Try.func156, Try.ntmps156
  go_wp2_with fail
  try rw [← HW.out]
  try rw [hps]
  go_loopw [3, 8] (fun v i wr => ∃ k : Nat, k ≤ P ∧ i = .int .i64 k ∧ OwnI wr w.heap.size wr.heap.size v (upI 0 k) ∧ Below w.heap.size w wr) (fun _ i _ => P - (intOf i).toNat)
  case atStart => exact ⟨0, Nat.zero_le _, rfl, HO0.out, HB0.out⟩
  case round =>
    obtain ⟨k, hk, rfl, ho, hb⟩ := hrel
    have HO := Lib.hid ho
    have HB := Lib.hid hb
    have hz := hb.size
    have HLN : Hid ((upI 0 k).length ≤ 100000000) := by show _ ≤ _; rw [upI_length]; omega
    clear ho hb
    by_cases hlt : k < P
    · have hki : (k : Int) < (P : Int) := by omega
      go_wp2_with (at_builtin; refine wpList_app_int rfl (.tmp 11) (.tmp 13) rfl wr (k : Int) w.heap.size wr.heap.size _ (upI 0 k) HO.out hz HLN.out rfl rfl ?_; intro ao5 L5 cap5 w5 hL5 o5 b5 z5; have O5 := Lib.hid o5; have B5 : Hid (Below w.heap.size w w5) := HB.out.trans b5; clear o5 b5)
      go_roundw
      case rel => exact ⟨k + 1, by omega, by go_num, by rw [upI_succ, Int.zero_add]; exact O5.out, B5.out⟩
      case measure => simp [intOf]; omega
    · have hki : ¬ (k : Int) < (P : Int) := by omega
      have HE : Hid (k = P) := by show k = P; omega
      go_wp2
      go_ret
      exact ⟨_, rfl, by rw [← HE.out]; exact HO.out, HB.out⟩
set_option maxHeartbeats 1000000 in
theorem l04Masks_c (n : Nat) (w : World) (hn : n ≤ 8) : Calls Try.prog 153 #[.int .i64 n] w (IntC w (upI 0 (2 ^ n))) := by
  have hps : wrap64 (2 ^ n) = ((2 ^ n : Nat) : Int) := wrap_pow n hn
  obtain ⟨P, hP⟩ : ∃ P, P = 2 ^ n := ⟨_, rfl⟩
  have hP256 : P ≤ 256 := by rw [hP]; exact pow_le_256 n hn
  rw [← hP] at hps ⊢
  clear hP
  obtain ⟨W0, hW0⟩ : ∃ W, W = w.alloc (.cells #[] 3) := ⟨_, rfl⟩
  have HO0 : Hid (OwnI W0 w.heap.size W0.heap.size (.slice (some ⟨w.heap.size, 0, none⟩) 0 0) []) := by show OwnI _ _ _ _ _; rw [hW0]; exact Own.mono (ownI_empty w) (Nat.le_refl _) (by simp)
  have HB0 : Hid (Below w.heap.size w W0) := by show Below _ _ _; rw [hW0]; exact (Below.refl _ _).alloc (Nat.le_refl _) _
  have HW := Lib.hid hW0
  clear hW0
  go_enter Try.func153, Try.ntmps153
  go_wp2_with fail
  try rw [← HW.out]
  try rw [hps]
  go_loopw [3, 4] (fun v i wr => ∃ k : Nat, k ≤ P ∧ i = .int .i64 k ∧ OwnI wr w.heap.size wr.heap.size v (upI 0 k) ∧ Below w.heap.size w wr) (fun _ i _ => P - (intOf i).toNat)
  case atStart => exact ⟨0, Nat.zero_le _, rfl, HO0.out, HB0.out⟩
  case round =>
    obtain ⟨k, hk, rfl, ho, hb⟩ := hrel
    have HO := Lib.hid ho
    have HB := Lib.hid hb
    have hz := hb.size
    have HLN : Hid ((upI 0 k).length ≤ 100000000) := by show _ ≤ _; rw [upI_length]; omega
    clear ho hb
    by_cases hlt : k < P
    · have hki : (k : Int) < (P : Int) := by omega
      go_wp2_with (at_builtin; refine wpList_app_int rfl (.tmp 12) (.tmp 14) rfl wr (k : Int) w.heap.size wr.heap.size _ (upI 0 k) HO.out hz HLN.out rfl rfl ?_; intro ao5 L5 cap5 w5 hL5 o5 b5 z5; have O5 := Lib.hid o5; have B5 : Hid (Below w.heap.size w w5) := HB.out.trans b5; clear o5 b5)
      go_roundw
      case rel => exact ⟨k + 1, by omega, by go_num, by rw [upI_succ, Int.zero_add]; exact O5.out, B5.out⟩
      case measure => simp [intOf]; omega
    · have hki : ¬ (k : Int) < (P : Int) := by omega
      have HE : Hid (k = P) := by show k = P; omega
      go_wp2
      go_ret
      exact ⟨_, rfl, by rw [← HE.out]; exact HO.out, HB.out⟩
/-- slices.Compact of a list that a call has built. -/
theorem Compact_c (lo hi g L cap : Nat) (xs : List Int) (w : World) (hv : OwnI w lo hi (.slice (some ⟨g, 0, none⟩) L cap) xs) (hL : xs.length = L) (hl : L ≤ 1000000) :
    Calls Try.prog 213 #[.slice (some ⟨g, 0, none⟩) L cap] w fun e w' =>
      e = .returned (.slice (some ⟨g, 0, none⟩) (Go.Lib.compact xs).length cap) ∧ OwnI w' lo hi (.slice (some ⟨g, 0, none⟩) (Go.Lib.compact xs).length cap) (Go.Lib.compact xs) ∧ Below lo w w' ∧ ∀ b, b ≠ g → w'.heap[b]? = w.heap[b]? := by
  subst hL
  have htop := hv.row
  rw [ivs_length] at htop
  have hg := htop.lt g rfl
  have hcap : xs.length ≤ cap := by
    obtain ⟨ao, g2, cap2, e, hc, -, -⟩ := hv.view
    injection e with _ _ e3
    omega
  have hH : Holds (Value.int .i64) w g 0 xs.toArray := by
    intro j hj
    have hj' : j < xs.length := by simpa using hj
    have h1 := htop.cellAt j (by omega)
    refine ⟨?_, htop.frozenAt (0 + j)⟩
    rw [show 0 + j = j by omega]
    refine (by simpa using h1 : w.cell? ⟨g, j, none⟩ = (ivs xs)[j]?).trans ?_
    rw [ivs_getElem?, List.getElem?_eq_getElem hj']
    simp [hj']
  have hle := Go.Lib.compact_length_le xs
  refine (Try.slices_Compact_int g 0 cap xs w hH (by omega) hcap).mono ?_
  rintro e w' ⟨rfl, q, rfl⟩
  have hrow := Go.Lib.ownsRow_putRow (q := q) (k := (Go.Lib.compact xs).length) (ys := Go.Lib.compact xs ++ List.replicate (xs.length - (Go.Lib.compact xs).length) 0) (enc := Value.int .i64) htop (by simp; omega) hle
  rw [List.take_append_of_le_length (Nat.le_refl _), List.take_length] at hrow
  refine ⟨rfl, ⟨?_, hv.lt⟩, Go.Lib.below_putRow (Below.refl _ _) hg.1, fun b hne => ?_⟩
  · rw [ivs_length]
    exact hrow
  · simp [putRow, mapBlock, Sort.ahead, Array.getElem?_modify, Ne.symm hne]
theorem std_step_c (a b m i k : Nat) (w : World) (ha : w.cell? ⟨a, 0, none⟩ = some (.int .i64 i)) (hb : w.cell? ⟨b, 0, none⟩ = some (.int .i64 k)) (hm : m < 256) (hi : i < 8) (hk : k < 8) :
    Calls Try.prog 190 #[.int .i64 m, .pointer (some ⟨a, 0, none⟩), .pointer (some ⟨b, 0, none⟩)] w fun e w' => e = .returned (.int .i64 (stp m i k : Nat)) ∧ Below w.heap.size w w' := by
  have CS : Hid (∀ w, Calls Try.prog 176 #[.int .i64 m, .int .i64 i, .int .i64 k] w fun e w' => e = .returned (.int .i64 (stp m i k : Nat)) ∧ Below w.heap.size w w') := fun w => step_c m i k w hm hi hk
  obtain ⟨S, hS⟩ : ∃ S, S = stp m i k := ⟨_, rfl⟩
  rw [← hS] at CS ⊢
  clear hS
  go_enter Try.func190, Try.ntmps190
  go_wp2_with (go_at_call 176; refine (CS.out _).mono ?_; rintro e w' ⟨rfl, b1⟩; have B1 := Lib.hid b1; clear b1)
  go_ret
  exact ⟨rfl, B1.out⟩
set_option maxHeartbeats 1000000 in
theorem images_c (n : Nat) (lo hi : Nat) (v : Value) (S : List Int) (a b i k : Nat) (w : World) (hn : n ≤ 8) (hv : IntsV w lo hi v S) (hhi : hi ≤ w.heap.size) (hS : masksP n S) (h0 : 0 < S.length) (hl : S.length ≤ 256) (hi2 : i < n) (hk2 : k < n) (hne : i ≠ k)
    (ha : w.cell? ⟨a, 0, none⟩ = some (.int .i64 i)) (hb : w.cell? ⟨b, 0, none⟩ = some (.int .i64 k)) (haw : a < w.heap.size) (hbw : b < w.heap.size) :
    Calls Try.prog 189 #[v, .func (.func 190) #[] #[.pointer (some ⟨a, 0, none⟩), .pointer (some ⟨b, 0, none⟩)]] w (IntC w (nxt n S i k)) := by
  have HN := Lib.hid (compact_image hn hS hi2 hk2 hne)
  have HMS := Lib.hid hS
  obtain ⟨ao, g, off, cap, rfl, hcap, hao, hc⟩ := hv
  have HC := Lib.hid hc
  obtain ⟨hao1, g1, g2⟩ := hao (by omega)
  subst hao1
  obtain ⟨L, hL⟩ : ∃ L, L = S.length := ⟨_, rfl⟩
  have HL := Lib.hid hL
  rw [← hL] at HC hcap h0 hl ⊢
  have HA := Lib.hid ha
  have HB := Lib.hid hb
  have h256 := pow_le_256 n hn
  obtain ⟨W0, hW0⟩ : ∃ W, W = w.alloc (.cells #[] 3) := ⟨_, rfl⟩
  have HO0 : Hid (OwnI W0 w.heap.size W0.heap.size (.slice (some ⟨w.heap.size, 0, none⟩) 0 0) []) := by show OwnI _ _ _ _ _; rw [hW0]; exact Own.mono (ownI_empty w) (Nat.le_refl _) (by simp)
  have HB0 : Hid (Below w.heap.size w W0) := by show Below _ _ _; rw [hW0]; exact (Below.refl _ _).alloc (Nat.le_refl _) _
  have HW := Lib.hid hW0
  obtain ⟨IM, hIM⟩ : ∃ f : Int → Int, f = fun x => ((stp x.toNat i k : Nat) : Int) := ⟨_, rfl⟩
  rw [← hIM] at HN
  have HIM := Lib.hid hIM
  obtain ⟨RES, hRES⟩ : ∃ R, R = nxt n S i k := ⟨_, rfl⟩
  rw [← hRES] at HN ⊢
  clear hc hao hL ha hb hS hW0 hIM hRES
  go_enter Try.func189, Try.ntmps189
  go_wp2_with fail
  try rw [← HW.out]
  go_loopw [5, 11] (fun v t wr => ∃ j : Nat, j ≤ L ∧ t = .int .i64 j ∧ OwnI wr w.heap.size wr.heap.size v ((S.take j).map IM) ∧ Below w.heap.size w wr) (fun _ t _ => L - (intOf t).toNat)
  case atStart => exact ⟨0, Nat.zero_le _, rfl, by simpa using HO0.out, HB0.out⟩
  case round =>
    obtain ⟨j, hj, rfl, ho, hb⟩ := hrel
    have HO := Lib.hid ho
    have HBW := Lib.hid hb
    have hz := hb.size
    have HLN : Hid (((S.take j).map IM).length ≤ 100000000) := by show _ ≤ _; rw [List.length_map, List.length_take]; omega
    by_cases hlt : j < L
    · have hji : (j : Int) < (L : Int) := by omega
      obtain ⟨m, hm, hmn⟩ : ∃ m : Nat, S.getD j 0 = m ∧ m < 2 ^ n := HMS.out _ (by rw [List.getD_eq_getElem?_getD, List.getElem?_eq_getElem (by rw [← HL.out]; exact hlt)]; exact List.getElem_mem _)
      have c1 : wr.cell? ⟨g, off + j, none⟩ = some (.int .i64 m) := by rw [← hm]; exact (hb.cell (p := ⟨g, off + j, none⟩) (by show g < _; omega)).trans (HC.out j hlt)
      obtain ⟨z, hzz⟩ : ∃ z, z = stp m i k := ⟨_, rfl⟩
      have HT : Hid ((S.take (j + 1)).map IM = (S.take j).map IM ++ [(z : Int)]) := by
        show _ = _
        rw [take_snoc_getD 0 (by rw [← HL.out]; exact hlt), List.map_append, List.map_cons, List.map_nil, hm, HIM.out, hzz]
        rfl
      have CC : Hid (Calls Try.prog 190 #[.int .i64 m, .pointer (some ⟨a, 0, none⟩), .pointer (some ⟨b, 0, none⟩)] wr fun e w' => e = .returned (.int .i64 (z : Nat)) ∧ Below wr.heap.size wr w') := by
        rw [hzz]
        exact std_step_c a b m i k wr ((hb.cell (p := ⟨a, 0, none⟩) (by show a < _; exact haw)).trans HA.out) ((hb.cell (p := ⟨b, 0, none⟩) (by show b < _; exact hbw)).trans HB.out) (by omega) (by omega) (by omega)
      clear hm hzz ho hb
      go_wp2_with fail
      refine CC.out.mono ?_
      rintro e wq ⟨rfl, bq⟩
      have zq := bq.size
      have HOq : Hid (OwnI wq w.heap.size wq.heap.size _ ((S.take j).map IM)) := Own.mono (HO.out.later bq) (Nat.le_refl _) zq
      have HBq : Hid (Below w.heap.size w wq) := HBW.out.trans (bq.mono hz)
      clear bq
      have hzq : w.heap.size ≤ wq.heap.size := by omega
      go_wp2_with (at_builtin; refine wpList_app_int rfl (.tmp 15) (.tmp 19) rfl wq (z : Int) w.heap.size wq.heap.size _ ((S.take j).map IM) HOq.out hzq HLN.out rfl rfl ?_; intro ao5 L5 cap5 w5 hL5 o5 b5 z5; have O5 := Lib.hid o5; have B5 : Hid (Below w.heap.size w w5) := HBq.out.trans b5; clear o5 b5)
      go_roundw
      case rel => exact ⟨j + 1, by omega, by go_num, by rw [HT.out]; exact O5.out, B5.out⟩
      case measure => simp [intOf]; omega
    · have hji : ¬ (j : Int) < (L : Int) := by omega
      have HE : Hid ((S.take j).map IM = S.map IM) := by show _ = _; rw [List.take_of_length_le (by rw [← HL.out]; omega)]
      have HLM : Hid ((S.map IM).length = L) := by show _ = _; rw [List.length_map, HL.out]
      have HO2 := HO.out
      rw [HE.out] at HO2
      obtain ⟨ao9, g9, cap9, e9, -, ha9, -⟩ := OwnI.view HO2
      rw [HLM.out] at e9 ha9
      obtain ⟨ha9a, -, -⟩ := ha9 (by omega)
      subst e9
      subst ha9a
      have HS1 := Lib.hid (Sort_c _ _ _ _ _ _ wr HO2 HLM.out (by omega))
      clear ho hb HO2 ha9
      go_wp2_with fail
      refine HS1.out.mono ?_
      rintro e w2 ⟨rfl, o2, b2, -⟩
      have z2 := b2.size
      have HS2 := Lib.hid (Compact_c _ _ _ _ _ _ w2 o2 (by rw [sortI_len, HLM.out]) (by omega))
      have B2 : Hid (Below w.heap.size w w2) := HBW.out.trans b2
      clear o2 b2
      go_wp2_with fail
      refine HS2.out.mono ?_
      rintro e w3 ⟨rfl, o3, b3, -⟩
      rw [HN.out] at o3 ⊢
      have z3 := b3.size
      have O3 : Hid (OwnI w3 w.heap.size w3.heap.size _ RES) := Own.mono o3 (Nat.le_refl _) (by omega)
      have B3 : Hid (Below w.heap.size w w3) := B2.out.trans b3
      clear o3 b3
      go_wp2
      go_ret
      exact ⟨_, rfl, O3.out, B3.out⟩
end Go.Proofs.Ytiodolbgapjmkaa
