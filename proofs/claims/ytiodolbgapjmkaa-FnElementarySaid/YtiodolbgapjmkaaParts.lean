/- Masks whose two parts are sorted, as the program and as the reference run through them. Conditions: at most eight wires. Conditions: none. -/
import Derived.Test.YtiodolbgapjmkaaBitsC
import Derived.Test.YtiodolbgapjmkaaMaskL
namespace Go.Proofs.Ytiodolbgapjmkaa
open Go.RowKit
set_option maxRecDepth 100000
set_option linter.unusedVariables false

/-- The mask of a ones behind zeros in the first m places and b in the others. -/
def jn (n m a b : Nat) : Nat := srt m (2 ^ a - 1) + srt (n - m) (2 ^ b - 1) * 2 ^ m
/-- A mask is sorted. -/
def sB (n m : Nat) : Bool := decide (m = srt n m)
/-- Both parts of a mask are sorted. -/
def partsB (n m mask : Nat) : Bool := sB m (mask % 2 ^ m) && sB (n - m) (mask / 2 ^ m)
theorem jn_parts (n m a b : Nat) (hn : n ≤ 8) (hm : m ≤ n) (ha : a ≤ m) (hb : b ≤ n - m) : partsB n m (jn n m a b) = true ∧ jn n m a b < 2 ^ n := by
  have : ∀ n ≤ 8, ∀ m ≤ n, ∀ a ≤ m, ∀ b ≤ n - m, partsB n m (jn n m a b) = true ∧ jn n m a b < 2 ^ n := by decide +kernel
  exact this n hn m hm a ha b hb
theorem parts_jn (n m mask : Nat) (hn : n ≤ 8) (hm : m ≤ n) (hk : mask < 2 ^ n) (h : partsB n m mask = true) : mask = jn n m (popc (mask % 2 ^ m)) (popc (mask / 2 ^ m)) ∧ popc (mask % 2 ^ m) ≤ m ∧ popc (mask / 2 ^ m) ≤ n - m := by
  have : ∀ n ≤ 8, ∀ m ≤ n, ∀ mask < 2 ^ n, partsB n m mask = true → mask = jn n m (popc (mask % 2 ^ m)) (popc (mask / 2 ^ m)) ∧ popc (mask % 2 ^ m) ≤ m ∧ popc (mask / 2 ^ m) ≤ n - m := by decide +kernel
  exact this n hn m hm mask hk h
/-- H holds of all masks whose parts are sorted, as the program runs through them. -/
def mwB (n m : Nat) (H : Nat → Bool) : Bool := allB (fun a => allB (fun b => H (jn n m a b)) (n - m + 1)) (m + 1)
theorem allB_iff (f : Nat → Bool) (N : Nat) : allB f N = true ↔ ∀ k, k < N → f k = true := by
  simp [allB, List.all_eq_true]
theorem mwB_eq (n m : Nat) (H : Nat → Bool) (hn : n ≤ 8) (hm : m ≤ n) : allB (fun mask => !partsB n m mask || H mask) (2 ^ n) = mwB n m H := by
  rw [Bool.eq_iff_iff, allB_iff, mwB, allB_iff]
  constructor
  · intro h a ha
    rw [allB_iff]
    intro b hb
    obtain ⟨j1, j2⟩ := jn_parts n m a b hn hm (by omega) (by omega)
    have := h _ j2
    simpa [j1] using this
  · intro h mask hk
    cases hp : partsB n m mask
    · simp
    · obtain ⟨e, h1, h2⟩ := parts_jn n m mask hn hm hk hp
      have h3 := (allB_iff _ _).1 (h (popc (mask % 2 ^ m)) (by omega)) (popc (mask / 2 ^ m)) (by omega)
      rw [e]
      simpa using h3
theorem popc_ones (a : Nat) (h : a ≤ 8) : popc (2 ^ a - 1) = a ∧ 2 ^ a - 1 < 256 := by
  have : ∀ a ≤ 8, popc (2 ^ a - 1) = a ∧ 2 ^ a - 1 < 256 := by decide +kernel
  exact this a h
theorem low_facts (k : Nat) (hk : k ≤ 8) : wrap64 (2 ^ k) = ((2 ^ k : Nat) : Int) ∧ wrap64 (((2 ^ k : Nat) : Int) - 1) = ((2 ^ k - 1 : Nat) : Int) := by
  have : ∀ k ≤ 8, wrap64 (2 ^ k) = ((2 ^ k : Nat) : Int) ∧ wrap64 (((2 ^ k : Nat) : Int) - 1) = ((2 ^ k - 1 : Nat) : Int) := by decide +kernel
  exact this k hk
theorem join_facts (n m a b : Nat) (hn : n ≤ 8) (hm : m ≤ n) (ha : a ≤ m) (hb : b ≤ n - m) : wrap64 (((srt (n - m) (2 ^ b - 1) : Nat) : Int) * 2 ^ m) = ((srt (n - m) (2 ^ b - 1) * 2 ^ m : Nat) : Int) ∧
    bits BinOp.or IntKind.i64 ((srt m (2 ^ a - 1) : Nat) : Int) ((srt (n - m) (2 ^ b - 1) * 2 ^ m : Nat) : Int) = ((jn n m a b : Nat) : Int) := by
  have : ∀ n ≤ 8, ∀ m ≤ n, ∀ a ≤ m, ∀ b ≤ n - m, wrap64 (((srt (n - m) (2 ^ b - 1) : Nat) : Int) * 2 ^ m) = ((srt (n - m) (2 ^ b - 1) * 2 ^ m : Nat) : Int) ∧
    bits BinOp.or IntKind.i64 ((srt m (2 ^ a - 1) : Nat) : Int) ((srt (n - m) (2 ^ b - 1) * 2 ^ m : Nat) : Int) = ((jn n m a b : Nat) : Int) := by decide +kernel
  exact this n hn m hm a ha b hb
theorem and_low (E k : Nat) (hE : E < 256) (hk : k ≤ 8) : bits BinOp.and IntKind.i64 (E : Int) ((2 ^ k - 1 : Nat) : Int) = ((E % 2 ^ k : Nat) : Int) := by
  have : ∀ E < 256, ∀ k ≤ 8, bits BinOp.and IntKind.i64 ((E : Nat) : Int) ((2 ^ k - 1 : Nat) : Int) = ((E % 2 ^ k : Nat) : Int) := by decide +kernel
  exact this E hE k hk
set_option maxHeartbeats 2000000 in
theorem joined_c (n m a b : Nat) (ao : Option Addr) (L cap : Nat) (w : World) (hn : n ≤ 8) (hm : m ≤ n) (ha : a ≤ m) (hb : b ≤ n - m) :
    Calls Try.prog 180 #[.agg #[.int .i64 n, .slice ao L cap], .int .i64 m, .int .i64 a, .int .i64 b] w fun e w' => e = .returned (.int .i64 (jn n m a b)) ∧ Below w.heap.size w w' := by
  obtain ⟨p1, p2⟩ := popc_ones a (by omega)
  obtain ⟨p3, p4⟩ := popc_ones b (by omega)
  obtain ⟨j1, j2⟩ := join_facts n m a b hn hm ha hb
  obtain ⟨l1, l2⟩ := low_facts a (by omega)
  obtain ⟨l3, l4⟩ := low_facts b (by omega)
  have hws := wrap_sub n m hn hm
  obtain ⟨J, hJ⟩ : ∃ x, x = jn n m a b := ⟨_, rfl⟩
  rw [← hJ] at j2 ⊢
  obtain ⟨A1, hA1⟩ : ∃ x, x = 2 ^ a - 1 := ⟨_, rfl⟩
  obtain ⟨B1, hB1⟩ : ∃ x, x = 2 ^ b - 1 := ⟨_, rfl⟩
  rw [← hA1] at l2 j2 p1 p2
  rw [← hB1] at l4 j1 j2 p3 p4
  obtain ⟨s3, hs3⟩ : ∃ x, x = srt (n - m) B1 * 2 ^ m := ⟨_, rfl⟩
  rw [← hs3] at j1 j2
  obtain ⟨TA, hTA⟩ : ∃ x, x = 2 ^ a := ⟨_, rfl⟩
  obtain ⟨TB, hTB⟩ : ∃ x, x = 2 ^ b := ⟨_, rfl⟩
  rw [← hTA] at l1 l2
  rw [← hTB] at l3 l4
  obtain ⟨Z, hZ⟩ : ∃ x, x = n - m := ⟨_, rfl⟩
  have hZ8 : Z ≤ 8 := by omega
  have hsub : (n : Int) - (m : Int) = (Z : Int) := by omega
  have hbZ : b ≤ Z := by omega
  rw [← hZ] at hws j1
  have PA : popc A1 ≤ m := by omega
  have PB : popc B1 ≤ Z := by omega
  have PP := Lib.hid (And.intro (And.intro PA p2) (And.intro PB p4))
  clear p1 p2 p3 p4 hJ hs3 hA1 hB1 hTA hTB hZ PA PB
  go_enter Try.func180, Try.ntmps180
  go_wp2_with fail
  obtain ⟨W1, hW1, c0, c1, hsz, hBB, -, -⟩ := box2 w (.int .i64 n) (.slice ao L cap) 30
  try rw [hW1]
  clear hW1
  have hlt : w.heap.size < W1.heap.size := by omega
  clear hsz
  refine wp_region_later W1.heap.size W1 (by kernel_rfl) (by kernel_rfl) (Below.refl _ _) ?_
  have hLW := LW.cells (B := W1.heap.size) (w0 := W1)
  repeat (go_big_quiet_step ((first | (go_at_call 104; with_reducible refine LW.call_same (sorted_c m A1 _ (by omega) (by have := PP.out; omega) (by have := PP.out; omega))) | (go_at_call 104; with_reducible refine LW.call_same (sorted_c Z B1 _ (by omega) (by have := PP.out; omega) (by have := PP.out; omega))) | fail)))
  refine wpQuiet_nil ?_
  rintro w2 ⟨⟨w2s, hb2⟩, rfl⟩
  clear hLW
  go_wp2
  go_ret
  exact ⟨rfl, hBB.trans (hb2.mono (by omega))⟩
set_option maxHeartbeats 2000000 in
theorem merges_sort_c (H : Nat → Bool) (n m : Nat) (lo hi : Nat) (v : Value) (vs : List Value) (xss : List (List Int)) (p0 : Nat) (w : World) (hv : OwnR w lo hi v vs xss) (hhi : hi ≤ w.heap.size) (hn8 : n ≤ 8) (hm : m ≤ n)
    (hclo : ∀ w', Below w.heap.size w w' → ∀ mask : Nat, mask < 2 ^ n → Calls Try.prog 115 #[.int .i64 mask, .pointer (some ⟨p0, 0, none⟩)] w' fun e w'' => e = .returned (.bool (H mask)) ∧ Below w'.heap.size w' w'') :
    Calls Try.prog 114 #[.agg #[.int .i64 n, v], .int .i64 m, .func (.func 115) #[] #[.pointer (some ⟨p0, 0, none⟩)]] w fun e w' => e = .returned (.bool (mwB n m H)) ∧ Below w.heap.size w w' := by
  obtain ⟨N, hN⟩ : ∃ N, N = 2 ^ n := ⟨_, rfl⟩
  have HN := Lib.hid hN
  rw [← hN] at hclo
  have HCL := Lib.hid hclo
  obtain ⟨ao, g, cap, rfl, -, -, -⟩ := hv.rows
  obtain ⟨L, hlen⟩ : ∃ l, l = xss.length := ⟨_, rfl⟩
  rw [← hlen] at hv ⊢
  have HV := Lib.hid hv
  have hws := wrap_sub n m hn8 hm
  obtain ⟨Z, hZ⟩ : ∃ Z, Z = n - m := ⟨_, rfl⟩
  have HZ := Lib.hid hZ
  have hZ8 : Z ≤ 8 := by omega
  have hsub : (n : Int) - (m : Int) = (Z : Int) := by omega
  rw [← hZ] at hws
  obtain ⟨RES, hRES⟩ : ∃ r, r = mwB n m H := ⟨_, rfl⟩
  have HRES : Hid (RES = allB (fun a => allB (fun b => H (jn n m a b)) (Z + 1)) (m + 1)) := by show _ = _; rw [hRES, mwB, hZ]
  rw [← hRES]
  clear hv hlen hclo hN hZ hRES
  go_enter Try.func114, Try.ntmps114
  obtain ⟨W1, hW1, c0, c1, hsz, hB1, -, -⟩ := box2 w (.int .i64 n) (.slice ao L cap) 30
  go_wp2_with fail
  obtain ⟨w1, hw1, b1⟩ : ∃ W, W = W1 ∧ Below W1.heap.size W1 W := ⟨_, rfl, Below.refl _ _⟩
  try rw [hW1]
  clear hW1
  obtain ⟨d0, d1, z1⟩ := boxC b1 (by omega) c0 c1
  have zz := b1.size
  have HVb := Lib.hid ((HV.out.below hB1 (by omega)).below b1 (by omega))
  have HB1 : Hid (Below w.heap.size w w1) := hB1.trans (b1.mono (by omega))
  rw [← hw1]
  have hs9 : w1.heap.size = w.heap.size + 1 := by rw [hw1]; exact hsz
  try rw [← hs9]
  clear hw1 hs9
  have hle1 : hi ≤ w1.heap.size := by omega
  clear c0 c1 HV hB1 b1 hsz zz
  go_loopw [11] (fun i wr => ∃ k : Nat, k ≤ m + 1 ∧ i = .int .i64 k ∧ Hid (allB (fun a => allB (fun b => H (jn n m a b)) (Z + 1)) k = true) ∧ Below w1.heap.size w1 wr) (fun i _ => m + 1 - (intOf i).toNat)
  case atStart => exact ⟨0, Nat.zero_le _, rfl, allB_zero _, Below.refl _ _⟩
  case round =>
    obtain ⟨k, hk, rfl, HA, hb⟩ := hrel
    obtain ⟨e0, e1, hzr⟩ := boxC hb z1 d0 d1
    have HBk := Lib.hid hb
    clear hb
    by_cases hlt : k < m + 1
    · have hlt2 : (k : Int) < (m : Int) + 1 := by omega
      obtain ⟨wo, rfl⟩ : ∃ wo : World, wo = wr := ⟨_, rfl⟩
      go_wp2_with fail
      try simp only [hws]
      go_loopw [19] (fun t wr => ∃ j : Nat, j ≤ Z + 1 ∧ t = .int .i64 j ∧ Hid (allB (fun b => H (jn n m k b)) j = true) ∧ Below w1.heap.size w1 wr) (fun t _ => Z + 1 - (intOf t).toNat)
      case atStart => exact ⟨0, by omega, rfl, allB_zero _, HBk.out⟩
      case round =>
        obtain ⟨j, hj, rfl, HAj, hb⟩ := hrel
        clear e0 e1 hzr
        obtain ⟨c0, c1, hzr⟩ := boxC hb z1 d0 d1
        have hzz := hb.size
        have HB2 := Lib.hid hb
        clear hb
        by_cases hj3 : j < Z + 1
        · have hj2 : (j : Int) < (Z : Int) + 1 := by omega
          have hjl := (jn_parts n m k j hn8 hm (by omega) (by have := HZ.out; omega)).2
          have hjZ : j ≤ n - m := by have := HZ.out; omega
          cases hq : H (jn n m k j)
          · have HNO : Hid (RES = false) := by
              rw [HRES.out]
              refine allB_no hlt ?_
              refine allB_no hj3 ?_
              exact hq
            go_wp2_with fail
            refine (joined_c n m k j ao L cap wr hn8 hm (by omega) (by omega)).mono ?_
            rintro e w2 ⟨rfl, b2⟩
            have zw2 := b2.size
            have HQ := Lib.hid (HCL.out w2 (HB1.out.trans ((HB2.out.trans (b2.mono (by omega))).mono (by have := HB1.out.size; omega))) (jn n m k j) (by rw [HN.out]; exact hjl))
            rw [hq] at HQ
            clear hq
            go_wp2_with fail
            refine HQ.out.mono ?_
            rintro e w3 ⟨rfl, b3⟩
            go_wp2
            go_ret
            exact ⟨by rw [HNO.out]; rfl, HB1.out.trans ((HB2.out.trans ((b2.trans (b3.mono zw2)).mono (by omega))).mono (by have := HB1.out.size; omega))⟩
          · have HF : Hid ((fun b => H (jn n m k b)) j = true) := hq
            go_wp2_with fail
            refine (joined_c n m k j ao L cap wr hn8 hm (by omega) (by omega)).mono ?_
            rintro e w2 ⟨rfl, b2⟩
            have zw2 := b2.size
            have HQ := Lib.hid (HCL.out w2 (HB1.out.trans ((HB2.out.trans (b2.mono (by omega))).mono (by have := HB1.out.size; omega))) (jn n m k j) (by rw [HN.out]; exact hjl))
            rw [hq] at HQ
            clear hq
            go_wp2_with fail
            refine HQ.out.mono ?_
            rintro e w3 ⟨rfl, b3⟩
            go_wp2
            go_roundw
            case rel => exact ⟨j + 1, by omega, by go_num, allB_snoc HAj.out HF.out, HB2.out.trans ((b2.trans (b3.mono zw2)).mono (by omega))⟩
            case measure => simp [intOf]; omega
        · have hj2 : ¬ (j : Int) < (Z : Int) + 1 := by omega
          have HFk : Hid ((fun a => allB (fun b => H (jn n m a b)) (Z + 1)) k = true) := by
            show allB _ (Z + 1) = true
            rw [show Z + 1 = j by omega]
            exact HAj.out
          go_wp2
          go_roundw
          case rel => exact ⟨k + 1, by omega, by go_num, allB_snoc HA.out HFk.out, HB2.out⟩
          case measure => simp [intOf]; omega
    · have hlt2 : ¬ (k : Int) < (m : Int) + 1 := by omega
      have HE : Hid (RES = true) := by
        show RES = true
        rw [HRES.out, show m + 1 = k by omega]
        exact HA.out
      go_wp2
      go_ret
      exact ⟨by rw [HE.out]; rfl, HB1.out.trans (HBk.out.mono (by have := HB1.out.size; omega))⟩
end Go.Proofs.Ytiodolbgapjmkaa
