/- What the law FnMerging says, in plain terms: the small networks that merge, by computing; lists by their thresholds. Conditions: the sizes of the law. -/
import Derived.Test.YtiodolbgapjmkaaThrL
import Derived.Test.YtiodolbgapjmkaaWMerging
import Derived.Test.YtiodolbgapjmkaaWMerge
import Derived.Test.YtiodolbgapjmkaaFOddEven
import Derived.Test.YtiodolbgapjmkaaWBitM
import Derived.Test.YtiodolbgapjmkaaWMergesBitonic
import Derived.Test.YtiodolbgapjmkaaWBitonic
import Derived.Test.YtiodolbgapjmkaaLevels
import Derived.Test.YtiodolbgapjmkaaSortC
namespace Go.Proofs.Ytiodolbgapjmkaa
open Go.RowKit
set_option maxRecDepth 100000
set_option linter.unusedVariables false

/-- Both parts of a mask are sorted. -/
def part1 (m k : Nat) : Bool := (m == 0) || (k % 2 ^ m == srt m (k % 2 ^ m))
def part2 (m n k : Nat) : Bool := (n == 0) || (k / 2 ^ m == srt n (k / 2 ^ m))
def cntM (m n : Nat) : Nat → Nat
  | 0 => 0
  | k + 1 => cntM m n k + (if (part1 m k && part2 m n k) = true then 1 else 0)
theorem cntM_le (m n : Nat) : ∀ k, cntM m n k ≤ k
  | 0 => Nat.le_refl _
  | k + 1 => by have := cntM_le m n k; simp only [cntM]; split <;> omega
theorem and_lowM (k m : Nat) (hk : k < 256) (hm : m ≤ 8) : bits BinOp.and IntKind.i64 (k : Int) (wrap64 (wrap64 (2 ^ m) - 1)) = ((k % 2 ^ m : Nat) : Int) := by
  have : ∀ m < 9, ∀ k < 256, bits BinOp.and IntKind.i64 ((k : Nat) : Int) (wrap64 (wrap64 (2 ^ m) - 1)) = ((k % 2 ^ m : Nat) : Int) := by decide +kernel
  exact this m (by omega) k hk
theorem div_low (k m : Nat) : (k : Int) / 2 ^ m = ((k / 2 ^ m : Nat) : Int) ∧ (k : Int) >>> m = ((k / 2 ^ m : Nat) : Int) := by
  have h : (k : Int) / 2 ^ m = ((k / 2 ^ m : Nat) : Int) := by rw [Int.natCast_ediv]; simp
  exact ⟨h, by rw [Int.shiftRight_eq_div_pow, Int.natCast_ediv]⟩
theorem up_lt {k m n : Nat} (h : k < 2 ^ (m + n)) : k / 2 ^ m < 2 ^ n := by
  rw [Nat.div_lt_iff_lt_mul (Nat.two_pow_pos m), Nat.mul_comm, ← Nat.pow_add]
  exact h
def finM (m n : Nat) : Bool :=
  sizesB m n && sizesB n m && netOk (m + n : Nat) (XOddEvenMerge m n) && mergingR ((m : Int) + n) (XOddEvenMerge m n) m && stdB (XOddEvenMerge m n) && (mrgSz m n == (XOddEvenMerge m n).length) && (mrgSz n m == (XOddEvenMerge m n).length) &&
    allB (fun k => !(part1 m k && part2 m n k) || (bitsP (XOddEvenMerge m n) k == srt (m + n) k)) (2 ^ (m + n)) && (cntM m n (2 ^ (m + n)) == (m + 1) * (n + 1))
theorem fin_merg (m n : Nat) (hm : m ≤ 4) (hn : n ≤ 4) (h1 : 1 ≤ m + n) : sizesB m n = true ∧ netOk (m + n : Nat) (XOddEvenMerge m n) = true ∧ mergingR ((m : Int) + n) (XOddEvenMerge m n) m = true ∧ stdB (XOddEvenMerge m n) = true ∧
    mrgSz m n = (XOddEvenMerge m n).length ∧ mrgSz n m = (XOddEvenMerge m n).length ∧ (∀ k, k < 2 ^ (m + n) → part1 m k = true → part2 m n k = true → bitsP (XOddEvenMerge m n) k = srt (m + n) k) ∧ cntM m n (2 ^ (m + n)) = (m + 1) * (n + 1) := by
  have : ∀ m : Nat, m < 5 → ∀ n : Nat, n < 5 → 1 ≤ m + n → finM m n = true := by decide +kernel
  have h := this m (by omega) n (by omega) h1
  simp only [finM, Bool.and_eq_true, beq_iff_eq] at h
  obtain ⟨⟨⟨⟨⟨⟨⟨⟨a, b⟩, c⟩, d⟩, e⟩, f⟩, g⟩, i⟩, j⟩ := h
  refine ⟨a, c, d, e, f, g, fun k hk p1 p2 => ?_, j⟩
  have := (allB_iff _ _).1 i k hk
  simpa [p1, p2] using this
def cntB (s : Nat) : Nat → Nat
  | 0 => 0
  | k + 1 => cntB s k + (if bitB s k = true then 1 else 0)
theorem cntB_le (s : Nat) : ∀ k, cntB s k ≤ k
  | 0 => Nat.le_refl _
  | k + 1 => by have := cntB_le s k; simp only [cntB]; split <;> omega
def finB (s : Nat) : Bool := powB s && netOk s (XBitonicMerge s) && mbR s (XBitonicMerge s) && allB (fun k => !bitB s k || (bitsP (XBitonicMerge s) k == srt s (bitsP (XBitonicMerge s) k))) (2 ^ s) && (cntB s (2 ^ s) == s * (s - 1) + 2) && ((XBitonicMerge s).length == s / 2 * depthP (XBitonicMerge s) (XBitonicMerge s).length)
theorem fin_bitm (p : Nat) (hp : p ≤ 3) : powB (2 ^ p : Nat) = true ∧ netOk (2 ^ p : Nat) (XBitonicMerge (2 ^ p : Nat)) = true ∧ mbR (2 ^ p : Nat) (XBitonicMerge (2 ^ p : Nat)) = true ∧
    (∀ k : Nat, k < 2 ^ 2 ^ p → bitB (2 ^ p : Nat) k = true → (bitsP (XBitonicMerge (2 ^ p : Nat)) k == srt (2 ^ p) (bitsP (XBitonicMerge (2 ^ p : Nat)) k)) = true) ∧ cntB (2 ^ p) (2 ^ 2 ^ p) = 2 ^ p * (2 ^ p - 1) + 2 ∧
    (XBitonicMerge (2 ^ p : Nat)).length = 2 ^ p / 2 * depthP (XBitonicMerge (2 ^ p : Nat)) (XBitonicMerge (2 ^ p : Nat)).length := by
  have : ∀ p : Nat, p < 4 → finB (2 ^ p) = true := by decide +kernel
  have h := this p (by omega)
  simp only [finB, Bool.and_eq_true, beq_iff_eq] at h
  obtain ⟨⟨⟨⟨⟨a, b⟩, c⟩, d⟩, e⟩, f⟩ := h
  refine ⟨a, b, c, fun k hk p1 => ?_, e, f⟩
  have := (allB_iff _ _).1 d k hk
  rw [p1] at this
  simpa only [Bool.not_true, Bool.false_or] using this
/-- Two sorted lists come out merged. -/
theorem merg_list {m n : Nat} (hm : m ≤ 4) (hn : n ≤ 4) (h1 : 1 ≤ m + n) {a b : List Int} (ha : a.length = m) (hb : b.length = n) (ra : risesB a = true) (rb : risesB b = true) : applyP (XOddEvenMerge m n) (a ++ b) = mergeL a b := by
  obtain ⟨-, f2, -, -, -, -, f7, -⟩ := fin_merg m n hm hn h1
  rw [mergeL, if_pos ⟨ra, rb, by omega⟩]
  refine apply_sorted (n := m + n) (netOk_pair f2) (by omega) _ (by rw [List.length_append, ha, hb]) fun t => ?_
  have la := thr_lt t a
  have lb := thr_lt t b
  rw [ha] at la
  rw [hb] at lb
  have e := thr_append t a b
  rw [ha] at e
  have l1 : thr t (a ++ b) < 2 ^ (m + n) := by have := thr_lt t (a ++ b); rwa [List.length_append, ha, hb] at this
  have e1 : thr t (a ++ b) % 2 ^ m = thr t a := by rw [e, Nat.add_mul_mod_self_left, Nat.mod_eq_of_lt la]
  have e2 : thr t (a ++ b) / 2 ^ m = thr t b := by rw [e, Nat.add_mul_div_left _ _ (Nat.two_pow_pos m), Nat.div_eq_of_lt la, Nat.zero_add]
  refine f7 _ l1 ?_ ?_
  · unfold part1
    rw [e1, Bool.or_eq_true, beq_iff_eq, beq_iff_eq]
    right
    have := thr_srt (by omega : a.length ≤ 8) ra t
    rwa [ha] at this
  · unfold part2
    rw [e2, Bool.or_eq_true, beq_iff_eq, beq_iff_eq]
    right
    have := thr_srt (by omega : b.length ≤ 8) rb t
    rwa [hb] at this
/-- Whether a mask is sorted. -/
theorem IsSortedMask_z (n m : Nat) (w : World) (h1 : 1 ≤ n) (h8 : n ≤ 8) (hm : m < 2 ^ n) : Calls Try.prog 26 #[.int .i64 n, .int .i64 m] w fun e w' => e = .returned (.bool (m == srt n m)) ∧ w = w' := by
  have h256 := pow_le_256 n h8
  have hp := popc_lt n m h8 hm
  have CS : Hid (∀ w, Calls Try.prog 104 #[.int .i64 n, .int .i64 m] w fun e w' => e = .returned (.int .i64 (srt n m : Nat)) ∧ w = w') := fun w => sorted_c n m w h8 (by omega) hp
  have CM : Hid (∀ w, Calls Try.prog 100 #[.int .i64 n, .int .i64 m] w fun e w' => e = .returned (.bool true) ∧ w = w') := fun w1 => by
    have := isMask_c n m w1 (by omega)
    rwa [inB_mk (by omega)] at this
  have t0 : inB (n : Int) 1 8 = true := inB_mk (by omega)
  obtain ⟨S, hS⟩ : ∃ S, S = srt n m := ⟨_, rfl⟩
  rw [← hS] at CS ⊢
  clear hS hp h256 hm
  go_enter Try.func26, Try.ntmps26
  go_wp2_with (first | (go_at_call 100; refine (CM.out _).mono ?_; rintro e w' ⟨rfl, rfl⟩) | (go_at_call 105; refine (isWires_c _ _).mono ?_; rintro e w' ⟨rfl, rfl⟩) | (go_at_call 104; refine (CS.out _).mono ?_; rintro e w' ⟨rfl, rfl⟩))
  go_ret
  refine ⟨?_, rfl⟩
  show Ending.returned (.bool ((m : Int) == (S : Int))) = _
  rw [show ((m : Int) == (S : Int)) = (m == S) from by rw [Bool.eq_iff_iff, beq_iff_eq, beq_iff_eq]; omega]
theorem CountMergeMasks_y (m n : Nat) (w : World) (hb : sizesB m n = true) (h8 : m + n ≤ 8) : Calls Try.prog 40 #[.int .i64 m, .int .i64 n] w fun e w' => e = .returned (.int .i64 (((m + 1) * (n + 1) : Nat) : Int)) ∧ w = w' := by
  have hm : m ≤ 8 := by omega
  have hn : n ≤ 8 := by omega
  have hmul : (m + 1) * (n + 1) ≤ 81 := Nat.mul_le_mul (show m + 1 ≤ 9 by omega) (show n + 1 ≤ 9 by omega)
  have hw : IntKind.i64.wrap (((m : Int) + 1) * ((n : Int) + 1)) = (((m + 1) * (n + 1) : Nat) : Int) := by
    rw [show ((m : Int) + 1) * ((n : Int) + 1) = (((m + 1) * (n + 1) : Nat) : Int) by simp]
    exact IntWalk.i64_in _ (by omega)
  have HW : Hid (((m : Int) + 1) * ((n : Int) + 1) = (((m + 1) * (n + 1) : Nat) : Int)) := by show _ = _; simp
  go_enter Try.func40, Try.ntmps40
  go_wp2_with (go_at_call 107; refine (areParts_c _ _ _).mono ?_; rintro e w' ⟨rfl, rfl⟩)
  go_ret
  exact ⟨congrArg (fun z => Ending.returned (.int .i64 z)) HW.out, rfl⟩
end Go.Proofs.Ytiodolbgapjmkaa
