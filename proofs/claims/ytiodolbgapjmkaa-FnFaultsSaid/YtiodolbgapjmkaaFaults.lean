/- The faults for which something holds, as pairs of a comparator and a kind: the loops of the program and of the reference. Conditions: at most a thousand comparators. Conditions: none. -/
import Derived.Test.YtiodolbgapjmkaaMaskL
import Derived.Test.YtiodolbgapjmkaaRowApp
namespace Go.Proofs.Ytiodolbgapjmkaa
open Go.RowKit
set_option maxRecDepth 100000
set_option linter.unusedVariables false

/-- The kinds below k for which B holds, at comparator i. -/
def rowF (B : Nat → Nat → Bool) (i k : Nat) : List (List Int) := ((List.range k).filter (B i)).map fun t : Nat => [(i : Int), (t : Int)]
/-- The faults of the comparators below i for which B holds. -/
def faultsL (B : Nat → Nat → Bool) (i : Nat) : List (List Int) := (List.range i).flatMap fun s => rowF B s 3
theorem faultsL_succ (B : Nat → Nat → Bool) (i : Nat) : faultsL B (i + 1) = faultsL B i ++ rowF B i 3 := by simp [faultsL, List.range_succ, List.flatMap_append]
theorem rowF_hit {B : Nat → Nat → Bool} {i k : Nat} (h : B i k = true) : rowF B i (k + 1) = rowF B i k ++ [[(i : Int), (k : Int)]] := by simp [rowF, List.range_succ, List.filter_append, h]
theorem rowF_miss {B : Nat → Nat → Bool} {i k : Nat} (h : B i k = false) : rowF B i (k + 1) = rowF B i k := by simp [rowF, List.range_succ, List.filter_append, h]
theorem rowF_le (B : Nat → Nat → Bool) (i k : Nat) : (rowF B i k).length ≤ k := by
  rw [rowF, List.length_map]
  exact Nat.le_trans (List.length_filter_le _ _) (by simp)
theorem faultsL_le (B : Nat → Nat → Bool) (i : Nat) : (faultsL B i).length ≤ 3 * i := by
  induction i with
  | zero => simp [faultsL]
  | succ i ih => rw [faultsL_succ, List.length_append]; have := rowF_le B i 3; omega
theorem faultsL_two (B : Nat → Nat → Bool) (i : Nat) : ∀ xs ∈ faultsL B i, xs.length = 2 := by
  intro xs hx
  simp only [faultsL, rowF, List.mem_flatMap, List.mem_map] at hx
  obtain ⟨s, -, t, -, rfl⟩ := hx
  rfl
theorem faultsL_congr {B C : Nat → Nat → Bool} {n : Nat} (h : ∀ i k, i < n → k ≤ 2 → B i k = C i k) : faultsL B n = faultsL C n := by
  induction n with
  | zero => rfl
  | succ n ih =>
    rw [faultsL_succ, faultsL_succ, ih fun i k hi hk => h i k (by omega) hk]
    congr 1
    simp only [rowF]
    congr 1
    exact List.filter_congr fun k hk => h n k (by omega) (by have := List.mem_range.1 hk; omega)
set_option maxHeartbeats 2000000 in
theorem faults_hid_c (B : Nat → Nat → Bool) (n : Int) (lo hi : Nat) (v : Value) (vs : List Value) (xss : List (List Int)) (p0 : Nat) (w : World) (hv : OwnR w lo hi v vs xss) (hhi : hi ≤ w.heap.size) (hl : xss.length ≤ 1000)
    (hclo : ∀ w', Below w.heap.size w w' → ∀ i k : Nat, i < xss.length → k ≤ 2 → Calls Try.prog 96 #[.int .i64 i, .int .i64 k, .pointer (some ⟨p0, 0, none⟩)] w' fun e w'' => e = .returned (.bool (B i k)) ∧ Below w'.heap.size w' w'') :
    Calls Try.prog 95 #[.agg #[.int .i64 n, v], .func (.func 96) #[] #[.pointer (some ⟨p0, 0, none⟩)]] w (RowC w (faultsL B xss.length)) := by
  have HCL := Lib.hid hclo
  obtain ⟨ao, g, cap, rfl, -, -, -⟩ := hv.rows
  have HV := Lib.hid hv
  obtain ⟨L, hlen⟩ : ∃ l, l = xss.length := ⟨_, rfl⟩
  rw [← hlen] at HV HCL hl ⊢
  clear hv hlen hclo
  go_enter Try.func95, Try.ntmps95
  obtain ⟨W1, hW1, c0, c1, hsz, hB1, -, -⟩ := box2 w (.int .i64 n) (.slice ao L cap) 30
  go_wp2_with fail
  obtain ⟨w1, hw1, b1⟩ : ∃ W, W = W1 ∧ Below W1.heap.size W1 W := ⟨_, rfl, Below.refl _ _⟩
  try rw [hW1]
  clear hW1
  obtain ⟨d0, d1, z1⟩ := boxC b1 (by omega) c0 c1
  have zz := b1.size
  have HVb := Lib.hid ((HV.out.below hB1 (by omega)).below b1 (by omega))
  have HB1 : Hid (Below w.heap.size w w1) := hB1.trans (b1.mono (by omega))
  rw [← hw1]
  have hs9 : w1.heap.size = w.heap.size + 1 := by rw [hw1]; exact hsz
  rw [← hs9]
  clear hw1 hs9
  have hle1 : hi ≤ w1.heap.size := by omega
  clear c0 c1 HV hB1 b1 hsz zz
  obtain ⟨W0, hW0⟩ : ∃ W, W = w1.alloc (.cells #[] 22) := ⟨_, rfl⟩
  have hi0 : Hid (OwnR W0 w1.heap.size W0.heap.size (.slice (some ⟨w1.heap.size, 0, none⟩) 0 0) [] []) := by show OwnR _ _ _ _ _ _; rw [hW0]; exact (ownR_empty w1).mono (Nat.le_refl _) (by simp)
  have hb0 : Below w1.heap.size w1 W0 := by rw [hW0]; exact (Below.refl _ _).alloc (Nat.le_refl _) _
  try rw [← hW0]
  clear hW0
  have hz0 := hb0.size
  go_loopw [5, 12] (fun v i wr => ∃ k : Nat, k ≤ L ∧ i = .int .i64 k ∧ ∃ vs, OwnR wr w1.heap.size wr.heap.size v vs (faultsL B k) ∧ Below w1.heap.size w1 wr) (fun _ i _ => L - (intOf i).toNat)
  case atStart => exact ⟨0, Nat.zero_le _, rfl, [], by simpa [faultsL] using hi0.out, hb0⟩
  case round =>
    obtain ⟨k, hk, rfl, vk, hR, hb⟩ := hrel
    have HR := Lib.hid hR
    obtain ⟨e0, e1, hzr⟩ := boxC hb z1 d0 d1
    have HBk := Lib.hid hb
    clear hb hR hi0 hb0
    by_cases hlt : k < L
    · obtain ⟨wo, rfl⟩ : ∃ wo : World, wo = wr := ⟨_, rfl⟩
      go_wp2_with fail
      go_loopw [5, 7] (fun v t wr => ∃ j : Nat, j ≤ 3 ∧ t = .int .i64 j ∧ ∃ vs, OwnR wr w1.heap.size wr.heap.size v vs (faultsL B k ++ rowF B k j) ∧ Below w1.heap.size w1 wr) (fun _ t _ => 3 - (intOf t).toNat)
      case atStart => exact ⟨0, by omega, rfl, vk, by simpa [rowF] using HR.out, HBk.out⟩
      case round =>
        obtain ⟨j, hj, rfl, vj, hR, hb⟩ := hrel
        clear e0 e1 hzr HR
        obtain ⟨c0, c1, hzr⟩ := boxC hb z1 d0 d1
        have HR := Lib.hid hR
        have hzz := hb.size
        have hle : hi ≤ wr.heap.size := by omega
        have HVr := Lib.hid (HVb.out.below hb (by omega))
        have HB2 := Lib.hid hb
        have HLN : Hid ((faultsL B k ++ rowF B k j).length ≤ 1000000) := by show _ ≤ _; rw [List.length_append]; have := faultsL_le B k; have := rowF_le B k j; omega
        clear hb hR
        by_cases hj3 : j < 3
        · have hj2 : (j : Int) ≤ 2 := by omega
          have hj2' : (j : Int) < 3 := by omega
          have hj22 : j ≤ 2 := by omega
          cases hq : B k j
          · have HT := Lib.hid (rowF_miss hq)
            have hq2 := HCL.out wr (HB1.out.trans (HB2.out.mono (by have := HB1.out.size; omega))) k j hlt hj22
            rw [hq] at hq2
            have HQ := Lib.hid hq2
            clear hq hq2
            go_wp2_with fail
            refine HQ.out.mono ?_
            rintro e w2 ⟨rfl, b2⟩
            have zw2 := b2.size
            have HR2 := Lib.hid ((HR.out.later b2).mono (Nat.le_refl _) b2.size)
            go_wp2
            go_roundw
            case rel => exact ⟨j + 1, by omega, by go_num, vj, by rw [HT.out]; exact HR2.out, HB2.out.trans (b2.mono (by omega))⟩
            case measure => simp [intOf]; omega
          · have HT := Lib.hid (rowF_hit hq)
            have hq2 := HCL.out wr (HB1.out.trans (HB2.out.mono (by have := HB1.out.size; omega))) k j hlt hj22
            rw [hq] at hq2
            have HQ := Lib.hid hq2
            clear hq hq2
            go_wp2_with fail
            refine HQ.out.mono ?_
            rintro e w2 ⟨rfl, b2⟩
            have zw2 := b2.size
            have zw3 : w1.heap.size ≤ w2.heap.size := by omega
            have HR2 := Lib.hid ((HR.out.later b2).mono (Nat.le_refl _) b2.size)
            go_wp2_with (at_builtin; refine wpList_app_pair rfl (.tmp 23) (.tmp 27) rfl w2 (k : Int) (j : Int) w1.heap.size _ vj (faultsL B k ++ rowF B k j) HR2.out zw3 HLN.out rfl rfl ?_; intro g5 L5 cap5 w5 vs5 hL5 o5 b5 z5; have O5 := Lib.hid o5; clear o5)
            go_roundw
            case rel => exact ⟨j + 1, by omega, by go_num, vs5, by rw [HT.out, ← List.append_assoc]; exact O5.out, HB2.out.trans ((b2.mono (by omega)).trans b5)⟩
            case measure => simp [intOf]; omega
        · have hj2 : ¬ (j : Int) ≤ 2 := by omega
          have hj2' : ¬ (j : Int) < 3 := by omega
          have HE : Hid (j = 3) := by show j = 3; omega
          go_wp2
          go_roundw
          case rel => exact ⟨k + 1, by omega, by go_num, vj, by rw [faultsL_succ, ← HE.out]; exact HR.out, HB2.out⟩
          case measure => simp [intOf]; omega
    · have HE : Hid (k = L) := by show k = L; omega
      go_wp2
      go_ret
      exact ⟨_, vk, rfl, by rw [← HE.out]; exact HR.out.mono (by have := HB1.out.size; omega) (Nat.le_refl _), HB1.out.trans (HBk.out.mono (by have := HB1.out.size; omega))⟩
set_option maxHeartbeats 2000000 in
theorem faults_found_c (B : Nat → Nat → Bool) (n : Int) (lo hi : Nat) (v : Value) (vs : List Value) (xss : List (List Int)) (p0 p1 : Nat) (w : World) (hv : OwnR w lo hi v vs xss) (hhi : hi ≤ w.heap.size) (hl : xss.length ≤ 1000)
    (hclo : ∀ w', Below w.heap.size w w' → ∀ i k : Nat, i < xss.length → k ≤ 2 → Calls Try.prog 101 #[.int .i64 i, .int .i64 k, .pointer (some ⟨p0, 0, none⟩), .pointer (some ⟨p1, 0, none⟩)] w' fun e w'' => e = .returned (.bool (B i k)) ∧ Below w'.heap.size w' w'') :
    Calls Try.prog 95 #[.agg #[.int .i64 n, v], .func (.func 101) #[] #[.pointer (some ⟨p0, 0, none⟩), .pointer (some ⟨p1, 0, none⟩)]] w (RowC w (faultsL B xss.length)) := by
  have HCL := Lib.hid hclo
  obtain ⟨ao, g, cap, rfl, -, -, -⟩ := hv.rows
  have HV := Lib.hid hv
  obtain ⟨L, hlen⟩ : ∃ l, l = xss.length := ⟨_, rfl⟩
  rw [← hlen] at HV HCL hl ⊢
  clear hv hlen hclo
  go_enter Try.func95, Try.ntmps95
  obtain ⟨W1, hW1, c0, c1, hsz, hB1, -, -⟩ := box2 w (.int .i64 n) (.slice ao L cap) 30
  go_wp2_with fail
  obtain ⟨w1, hw1, b1⟩ : ∃ W, W = W1 ∧ Below W1.heap.size W1 W := ⟨_, rfl, Below.refl _ _⟩
  try rw [hW1]
  clear hW1
  obtain ⟨d0, d1, z1⟩ := boxC b1 (by omega) c0 c1
  have zz := b1.size
  have HVb := Lib.hid ((HV.out.below hB1 (by omega)).below b1 (by omega))
  have HB1 : Hid (Below w.heap.size w w1) := hB1.trans (b1.mono (by omega))
  rw [← hw1]
  have hs9 : w1.heap.size = w.heap.size + 1 := by rw [hw1]; exact hsz
  rw [← hs9]
  clear hw1 hs9
  have hle1 : hi ≤ w1.heap.size := by omega
  clear c0 c1 HV hB1 b1 hsz zz
  obtain ⟨W0, hW0⟩ : ∃ W, W = w1.alloc (.cells #[] 22) := ⟨_, rfl⟩
  have hi0 : Hid (OwnR W0 w1.heap.size W0.heap.size (.slice (some ⟨w1.heap.size, 0, none⟩) 0 0) [] []) := by show OwnR _ _ _ _ _ _; rw [hW0]; exact (ownR_empty w1).mono (Nat.le_refl _) (by simp)
  have hb0 : Below w1.heap.size w1 W0 := by rw [hW0]; exact (Below.refl _ _).alloc (Nat.le_refl _) _
  try rw [← hW0]
  clear hW0
  have hz0 := hb0.size
  go_loopw [5, 12] (fun v i wr => ∃ k : Nat, k ≤ L ∧ i = .int .i64 k ∧ ∃ vs, OwnR wr w1.heap.size wr.heap.size v vs (faultsL B k) ∧ Below w1.heap.size w1 wr) (fun _ i _ => L - (intOf i).toNat)
  case atStart => exact ⟨0, Nat.zero_le _, rfl, [], by simpa [faultsL] using hi0.out, hb0⟩
  case round =>
    obtain ⟨k, hk, rfl, vk, hR, hb⟩ := hrel
    have HR := Lib.hid hR
    obtain ⟨e0, e1, hzr⟩ := boxC hb z1 d0 d1
    have HBk := Lib.hid hb
    clear hb hR hi0 hb0
    by_cases hlt : k < L
    · obtain ⟨wo, rfl⟩ : ∃ wo : World, wo = wr := ⟨_, rfl⟩
      go_wp2_with fail
      go_loopw [5, 7] (fun v t wr => ∃ j : Nat, j ≤ 3 ∧ t = .int .i64 j ∧ ∃ vs, OwnR wr w1.heap.size wr.heap.size v vs (faultsL B k ++ rowF B k j) ∧ Below w1.heap.size w1 wr) (fun _ t _ => 3 - (intOf t).toNat)
      case atStart => exact ⟨0, by omega, rfl, vk, by simpa [rowF] using HR.out, HBk.out⟩
      case round =>
        obtain ⟨j, hj, rfl, vj, hR, hb⟩ := hrel
        clear e0 e1 hzr HR
        obtain ⟨c0, c1, hzr⟩ := boxC hb z1 d0 d1
        have HR := Lib.hid hR
        have hzz := hb.size
        have hle : hi ≤ wr.heap.size := by omega
        have HVr := Lib.hid (HVb.out.below hb (by omega))
        have HB2 := Lib.hid hb
        have HLN : Hid ((faultsL B k ++ rowF B k j).length ≤ 1000000) := by show _ ≤ _; rw [List.length_append]; have := faultsL_le B k; have := rowF_le B k j; omega
        clear hb hR
        by_cases hj3 : j < 3
        · have hj2 : (j : Int) ≤ 2 := by omega
          have hj2' : (j : Int) < 3 := by omega
          have hj22 : j ≤ 2 := by omega
          cases hq : B k j
          · have HT := Lib.hid (rowF_miss hq)
            have hq2 := HCL.out wr (HB1.out.trans (HB2.out.mono (by have := HB1.out.size; omega))) k j hlt hj22
            rw [hq] at hq2
            have HQ := Lib.hid hq2
            clear hq hq2
            go_wp2_with fail
            refine HQ.out.mono ?_
            rintro e w2 ⟨rfl, b2⟩
            have zw2 := b2.size
            have HR2 := Lib.hid ((HR.out.later b2).mono (Nat.le_refl _) b2.size)
            go_wp2
            go_roundw
            case rel => exact ⟨j + 1, by omega, by go_num, vj, by rw [HT.out]; exact HR2.out, HB2.out.trans (b2.mono (by omega))⟩
            case measure => simp [intOf]; omega
          · have HT := Lib.hid (rowF_hit hq)
            have hq2 := HCL.out wr (HB1.out.trans (HB2.out.mono (by have := HB1.out.size; omega))) k j hlt hj22
            rw [hq] at hq2
            have HQ := Lib.hid hq2
            clear hq hq2
            go_wp2_with fail
            refine HQ.out.mono ?_
            rintro e w2 ⟨rfl, b2⟩
            have zw2 := b2.size
            have zw3 : w1.heap.size ≤ w2.heap.size := by omega
            have HR2 := Lib.hid ((HR.out.later b2).mono (Nat.le_refl _) b2.size)
            go_wp2_with (at_builtin; refine wpList_app_pair rfl (.tmp 23) (.tmp 27) rfl w2 (k : Int) (j : Int) w1.heap.size _ vj (faultsL B k ++ rowF B k j) HR2.out zw3 HLN.out rfl rfl ?_; intro g5 L5 cap5 w5 vs5 hL5 o5 b5 z5; have O5 := Lib.hid o5; clear o5)
            go_roundw
            case rel => exact ⟨j + 1, by omega, by go_num, vs5, by rw [HT.out, ← List.append_assoc]; exact O5.out, HB2.out.trans ((b2.mono (by omega)).trans b5)⟩
            case measure => simp [intOf]; omega
        · have hj2 : ¬ (j : Int) ≤ 2 := by omega
          have hj2' : ¬ (j : Int) < 3 := by omega
          have HE : Hid (j = 3) := by show j = 3; omega
          go_wp2
          go_roundw
          case rel => exact ⟨k + 1, by omega, by go_num, vj, by rw [faultsL_succ, ← HE.out]; exact HR.out, HB2.out⟩
          case measure => simp [intOf]; omega
    · have HE : Hid (k = L) := by show k = L; omega
      go_wp2
      go_ret
      exact ⟨_, vk, rfl, by rw [← HE.out]; exact HR.out.mono (by have := HB1.out.size; omega) (Nat.le_refl _), HB1.out.trans (HBk.out.mono (by have := HB1.out.size; omega))⟩
end Go.Proofs.Ytiodolbgapjmkaa
