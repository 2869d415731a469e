/- Sets of numbers as the bits of an int of 64 bits: and, or, and not; how many bits. Conditions: less than 2^62. -/
import Derived.Test.YtgdkihabphihoaaGreedyP
import Derived.Lib.QuoteBits
namespace Go.Proofs.Ytgdkihabphihoaa
open Go.RowKit Go.Lib
set_option maxRecDepth 100000
set_option linter.unusedVariables false

/-- The numbers below T that f takes, as bits. -/
def setB (f : Nat → Bool) : Nat → Nat
  | 0 => 0
  | T + 1 => setB f T + (if f T = true then 2 ^ T else 0)
theorem setB_lt (f : Nat → Bool) : ∀ T, setB f T < 2 ^ T
  | 0 => by simp [setB]
  | T + 1 => by
    have := setB_lt f T
    rw [setB, Nat.pow_succ]
    split <;> omega
theorem setB_bit (f : Nat → Bool) : ∀ T t, (setB f T).testBit t = (decide (t < T) && f t)
  | 0, t => by simp [setB]
  | T + 1, t => by
    have hl := setB_lt f T
    have ih := setB_bit f T
    rw [setB]
    by_cases hf : f T = true
    · rw [if_pos hf, Nat.add_comm]
      rcases (by omega : t < T ∨ t = T ∨ T < t) with h | h | h
      · rw [Nat.testBit_two_pow_add_gt h, ih]
        simp [h, show t < T + 1 from by omega]
      · subst h
        rw [Nat.testBit_two_pow_add_eq, ih]
        simp [hf]
      · have : 2 ^ T + setB f T < 2 ^ t := by
          have : 2 ^ (T + 1) ≤ 2 ^ t := Nat.pow_le_pow_right (by omega) h
          rw [Nat.pow_succ] at this
          omega
        rw [Nat.testBit_lt_two_pow this]
        simp [show ¬ t < T + 1 from by omega]
    · rw [if_neg hf, Nat.add_zero, ih]
      rcases (by omega : t < T ∨ t = T ∨ T < t) with h | h | h
      · simp [h, show t < T + 1 from by omega]
      · subst h; simp [hf]
      · simp [show ¬ t < T + 1 from by omega, show ¬ t < T from by omega]
theorem setB_and (f g : Nat → Bool) (T : Nat) : setB f T &&& setB g T = setB (fun t => f t && g t) T := by
  apply Nat.eq_of_testBit_eq
  intro t
  rw [Nat.testBit_and, setB_bit, setB_bit, setB_bit]
  cases decide (t < T) <;> simp
theorem setB_hit {f : Nat → Bool} {T : Nat} (h : f T = true) : setB f T ||| 2 ^ T = setB f (T + 1) := by
  apply Nat.eq_of_testBit_eq
  intro t
  rw [Nat.testBit_or, setB_bit, setB_bit, Nat.testBit_two_pow]
  rcases (by omega : t < T ∨ t = T ∨ T < t) with h1 | h1 | h1
  · simp [h1, show t < T + 1 from by omega, show ¬ T = t from by omega]
  · subst h1; simp [h]
  · simp [show ¬ t < T + 1 from by omega, show ¬ t < T from by omega, show ¬ T = t from by omega]
theorem setB_miss {f : Nat → Bool} {T : Nat} (h : f T = false) : setB f (T + 1) = setB f T := by simp [setB, h]
theorem setB_all : ∀ T, setB (fun _ => true) T = 2 ^ T - 1
  | 0 => rfl
  | T + 1 => by
    rw [setB, setB_all T, Nat.pow_succ]
    have := Nat.one_le_two_pow (n := T)
    simp
    omega
theorem setB_congr {f g : Nat → Bool} : ∀ T, (∀ t, t < T → f t = g t) → setB f T = setB g T
  | 0, _ => rfl
  | T + 1, h => by rw [setB, setB, setB_congr T (fun t ht => h t (by omega)), h T (by omega)]
theorem i64_and (a b : Nat) (ha : a < 9223372036854775808) (hb : b < 9223372036854775808) : bits BinOp.and IntKind.i64 (a : Int) (b : Int) = ((a &&& b : Nat) : Int) := by
  show IntKind.i64.wrap ((BitVec.ofInt 64 (a : Int) &&& BitVec.ofInt 64 (b : Int)).toNat : Int) = _
  rw [BitVec.toNat_and, ofInt_u64 a (by omega), ofInt_u64 b (by omega)]
  exact wrap_i64_small _ (Nat.lt_of_le_of_lt Nat.and_le_left ha)
theorem i64_or (a b : Nat) (ha : a < 2 ^ 63) (hb : b < 2 ^ 63) : bits BinOp.or IntKind.i64 (a : Int) (b : Int) = ((a ||| b : Nat) : Int) := by
  show IntKind.i64.wrap ((BitVec.ofInt 64 (a : Int) ||| BitVec.ofInt 64 (b : Int)).toNat : Int) = _
  rw [BitVec.toNat_or, ofInt_u64 a (by omega), ofInt_u64 b (by omega)]
  exact wrap_i64_small _ (Nat.or_lt_two_pow ha hb)
theorem setB_andNot (f g : Nat → Bool) (T : Nat) (hT : T ≤ 62) : bits BinOp.andNot IntKind.i64 (setB f T : Int) (setB g T : Int) = ((setB (fun t => f t && !g t) T : Nat) : Int) := by
  have h1 := setB_lt f T
  have h2 := setB_lt g T
  have h3 := setB_lt (fun t => f t && !g t) T
  have h4 : 2 ^ T ≤ 2 ^ 62 := Nat.pow_le_pow_right (by omega) hT
  have e : (BitVec.ofInt 64 (setB f T : Int) &&& ~~~BitVec.ofInt 64 (setB g T : Int)).toNat = setB (fun t => f t && !g t) T := by
    rw [BitVec.toNat_and, BitVec.toNat_not, ofInt_u64 _ (by omega), ofInt_u64 _ (by omega)]
    apply Nat.eq_of_testBit_eq
    intro t
    rw [Nat.testBit_and, show 2 ^ 64 - 1 - setB g T = 2 ^ 64 - (setB g T + 1) from by omega, Nat.testBit_two_pow_sub_succ (by omega), setB_bit, setB_bit, setB_bit]
    by_cases ht : t < T
    · simp [ht, show t < 64 from by omega]
    · simp [ht]
  show IntKind.i64.wrap ((BitVec.ofInt 64 (setB f T : Int) &&& ~~~BitVec.ofInt 64 (setB g T : Int)).toNat : Int) = _
  rw [e]
  exact wrap_i64_small _ (by omega)
/-- How many bits below j. -/
def cntB (m j : Nat) : Nat := ((List.range j).filter fun t => m.testBit t).length
theorem cntB_succ (m j : Nat) : cntB m (j + 1) = cntB m j + m / 2 ^ j % 2 := by
  rw [cntB, List.range_succ, List.filter_append, List.length_append, cntB]
  congr 1
  have h := Nat.testBit_eq_decide_div_mod_eq (x := m) (i := j)
  rcases Nat.mod_two_eq_zero_or_one (m / 2 ^ j) with h1 | h1
  · rw [h1] at h ⊢
    simp at h
    simp [h]
  · rw [h1] at h ⊢
    simp at h
    simp [h]
theorem cntB_le (m j : Nat) : cntB m j ≤ j := by
  have := List.length_filter_le (fun t => m.testBit t) (List.range j)
  rw [List.length_range] at this
  exact this
theorem cntB_end (m j : Nat) (h : m / 2 ^ j = 0) : ∀ d, cntB m (j + d) = cntB m j
  | 0 => rfl
  | d + 1 => by
    rw [← Nat.add_assoc, cntB_succ, cntB_end m j h d]
    have : m / 2 ^ (j + d) = 0 := by rw [Nat.pow_add, ← Nat.div_div_eq_div_mul, h, Nat.zero_div]
    rw [this]
    simp
theorem cntB_set (f : Nat → Bool) (T : Nat) : cntB (setB f T) T = ((List.range T).filter f).length := by
  rw [cntB]
  congr 1
  refine List.filter_congr fun t ht => ?_
  rw [setB_bit]
  simp [List.mem_range.1 ht]
theorem cnt3 (P : Nat → Nat → Bool) : ∀ L, ((List.range (3 * L)).filter fun t => P (t / 3) (t % 3)).length = (faultsL P L).length
  | 0 => by simp [faultsL]
  | L + 1 => by
    have e : List.range (3 * (L + 1)) = List.range (3 * L) ++ [3 * L, 3 * L + 1, 3 * L + 2] := by
      rw [show 3 * (L + 1) = 3 * L + 1 + 1 + 1 from by omega, List.range_succ, List.range_succ, List.range_succ]
      simp
    rw [e, List.filter_append, List.length_append, cnt3 P L, faultsL_succ, List.length_append]
    congr 1
    have d0 : 3 * L / 3 = L ∧ 3 * L % 3 = 0 := by omega
    have d1 : (3 * L + 1) / 3 = L ∧ (3 * L + 1) % 3 = 1 := by omega
    have d2 : (3 * L + 2) / 3 = L ∧ (3 * L + 2) % 3 = 2 := by omega
    simp only [rowF, List.length_map]
    rw [show List.range 3 = [0, 1, 2] from rfl]
    simp only [List.filter_cons, List.filter_nil, d0.1, d0.2, d1.1, d1.2, d2.1, d2.2]
    split <;> split <;> split <;> rfl
set_option maxHeartbeats 1000000 in
theorem l03Ones_big (m : Nat) (w : World) (h : m < 4611686018427387904) : Calls Try.prog 103 #[.int .i64 m] w fun e w' => e = .returned (.int .i64 (cntB m 62 : Nat)) ∧ w = w' := by
  obtain ⟨pm, hpm⟩ : ∃ pm, pm = cntB m 62 := ⟨_, rfl⟩
  rw [← hpm]
  have HPM := Lib.hid hpm
  have HM := Lib.hid h
  clear hpm h
  go_enter Try.func103, Try.ntmps103
  go_wp2
  go_loop [0, 3] (fun a c => ∃ x k j : Nat, j ≤ 62 ∧ x < 4611686018427387904 ∧ Hid (x = m / 2 ^ j) ∧ Hid (k = cntB m j) ∧ k ≤ 62 ∧ a = .int .i64 x ∧ c = .int .i64 k) (fun a _ => (intOf a).toNat)
  case atStart => exact ⟨m, 0, 0, by omega, HM.out, by show _ = _; simp, by show _ = _; simp [cntB], by omega, rfl, rfl⟩
  case round =>
    obtain ⟨x, k, j, hj, hx, HX, HK, hk, rfl, rfl⟩ := hrel
    by_cases h0 : 0 < x
    · have hj2 : j < 62 := by
        rcases (by omega : j < 62 ∨ j = 62) with h | h
        · exact h
        · exfalso
          have h1 := HX.out
          rw [h, Nat.div_eq_of_lt HM.out] at h1
          omega
      have e1 : bits BinOp.and IntKind.i64 (x : Int) 1 = ((x % 2 : Nat) : Int) := by
        have := i64_and x 1 (by omega) (by omega)
        rwa [Nat.and_one_is_mod] at this
      have hx2 : x % 2 ≤ 1 := by omega
      obtain ⟨y, hy⟩ : ∃ y, y = x % 2 := ⟨_, rfl⟩
      rw [← hy] at e1 hx2
      have HK2 : Hid (k + y = cntB m (j + 1)) := by show _ = _; rw [cntB_succ, ← HX.out, ← HK.out, hy]
      have HX2 : Hid (x / 2 = m / 2 ^ (j + 1)) := by show _ = _; rw [Nat.pow_succ, ← Nat.div_div_eq_div_mul, ← HX.out]
      have hs : k + y ≤ 62 := by have := cntB_le m (j + 1); rw [← HK2.out] at this; omega
      clear hy
      go_wp2
      go_round
      case rel => exact ⟨x / 2, k + y, j + 1, by omega, by omega, HX2, HK2, hs, by go_num, by go_num⟩
      case measure => simp [intOf]; omega
    · have HE : Hid (k = pm) := by
        show k = pm
        have h1 := cntB_end m j (by have := HX.out; omega) (62 - j)
        rw [show j + (62 - j) = 62 from by omega] at h1
        rw [HPM.out, HK.out, h1]
      go_wp2
      go_ret
      exact ⟨ret_int (by rw [HE.out]), rfl⟩
end Go.Proofs.Ytgdkihabphihoaa
