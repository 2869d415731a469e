/- What the law FnSelecting says, in plain terms: selection networks, ranks, live comparators. Conditions: at most six wires. -/
import Derived.Test.YtgdkihabphihoaaWSelecting
import Derived.Test.YtgdkihabphihoaaWRank
import Derived.Test.YtgdkihabphihoaaWRange
import Derived.Test.YtgdkihabphihoaaWToRank
import Derived.Test.YtgdkihabphihoaaFMedian
import Derived.Test.YtgdkihabphihoaaFSelectNetwork
import Derived.Test.YtgdkihabphihoaaWMerge
import Derived.Test.YtgdkihabphihoaaFBatcher
import Derived.Test.YtgdkihabphihoaaIsSorting
import Derived.Test.YtgdkihabphihoaaZero
import Derived.Test.YtgdkihabphihoaaStd2
namespace Go.Proofs.Ytgdkihabphihoaa
open Go.RowKit
set_option maxRecDepth 100000
set_option linter.unusedVariables false

def finSel (n k : Nat) : Bool := VSelectNetwork n k && selR n (XSelectNetwork n k) k && (decide (k + 1 < n) || sortsR n (XSelectNetwork n k)) && allB (fun i => rankR n (XSelectNetwork n k) i && selR n (XSelectNetwork n k) i) k
theorem fin_select (n k : Nat) (h1 : 1 ≤ n) (h6 : n ≤ 6) (hk : k ≤ n) : VSelectNetwork n k = true ∧ selR n (XSelectNetwork n k) k = true ∧ (n ≤ k + 1 → sortsR n (XSelectNetwork n k) = true) ∧ ∀ i : Nat, i < k → rankR n (XSelectNetwork n k) i = true ∧ selR n (XSelectNetwork n k) i = true := by
  have : ∀ n : Nat, n < 7 → ∀ k : Nat, k < n + 1 → 1 ≤ n → finSel n k = true := by decide +kernel
  have h := this n (by omega) k (by omega) h1
  simp only [finSel, Bool.and_eq_true, Bool.or_eq_true, decide_eq_true_eq, allB_iff] at h
  obtain ⟨⟨⟨a, b⟩, c⟩, d⟩ := h
  exact ⟨a, b, fun hn => by rcases c with c | c; omega; exact c, d⟩
theorem fin_median (n : Nat) (h1 : 1 ≤ n) (h6 : n ≤ 6) : medB n = true ∧ medN n = n ∧ rankR n (medX n) ((n : Int) / 2) = true ∧ ((medX n).length : Int) ≤ batSz n := by
  have : ∀ n : Nat, n < 7 → 1 ≤ n → medB n = true ∧ medN n = n ∧ rankR n (medX n) ((n : Int) / 2) = true ∧ ((medX n).length : Int) ≤ batSz n := by decide +kernel
  exact this n (by omega) h1
theorem fin_merge (a : Nat) (h : a ≤ 3) : sizesB a 3 = true ∧ ∀ i : Nat, i < a + 3 → mtrR ((a : Int) + 3) (XOddEvenMerge a 3) a i = true := by
  have : ∀ a : Nat, a < 4 → sizesB a 3 = true ∧ ∀ i : Nat, i < a + 3 → mtrR ((a : Int) + 3) (XOddEvenMerge a 3) a i = true := by decide +kernel
  exact this a (by omega)

theorem lowF_le (n : Nat) (xss : List (List Int)) (K : Nat) (s : Int) : ∀ k m, m < k → bitsP xss m / 2 ^ K % 2 = 0 → lowF n xss K s k ≤ ((n - popc m : Nat) : Int) - 1
  | 0, m, h, _ => by omega
  | k + 1, m, h, hb => by
    rw [lowF_succ]
    unfold lowS
    rcases (by omega : m < k ∨ m = k) with h2 | h2
    · have := lowF_le n xss K s k m h2 hb
      split
      · split <;> omega
      · exact this
    · subst h2
      rw [if_pos hb]
      split <;> omega
theorem lowF_ge (n : Nat) (xss : List (List Int)) (K : Nat) (s c : Int) (hs : c ≤ s) : ∀ k, (∀ m, m < k → bitsP xss m / 2 ^ K % 2 = 0 → c ≤ ((n - popc m : Nat) : Int) - 1) → c ≤ lowF n xss K s k
  | 0, _ => by simpa [lowF] using hs
  | k + 1, h => by
    have ih := lowF_ge n xss K s c hs k (fun m hm => h m (by omega))
    rw [lowF_succ]
    unfold lowS
    split
    · rename_i hb
      have := h k (by omega) hb
      split <;> omega
    · exact ih
theorem highF_ge (n : Nat) (xss : List (List Int)) (K : Nat) (s : Int) : ∀ k m, m < k → ¬ bitsP xss m / 2 ^ K % 2 = 0 → ((n - popc m : Nat) : Int) ≤ highF n xss K s k
  | 0, m, h, _ => by omega
  | k + 1, m, h, hb => by
    rw [highF_succ]
    unfold highS
    rcases (by omega : m < k ∨ m = k) with h2 | h2
    · have := highF_ge n xss K s k m h2 hb
      split
      · exact this
      · split <;> omega
    · subst h2
      rw [if_neg hb]
      split <;> omega
theorem highF_le (n : Nat) (xss : List (List Int)) (K : Nat) (s c : Int) (hs : s ≤ c) : ∀ k, (∀ m, m < k → ¬ bitsP xss m / 2 ^ K % 2 = 0 → ((n - popc m : Nat) : Int) ≤ c) → highF n xss K s k ≤ c
  | 0, _ => by simpa [highF] using hs
  | k + 1, h => by
    have ih := highF_le n xss K s c hs k (fun m hm => h m (by omega))
    rw [highF_succ]
    unfold highS
    split
    · exact ih
    · rename_i hb
      have := h k (by omega) hb
      split <;> omega
/-- The sorted mask with so many zeros. -/
def smask (n z : Nat) : Nat := (2 ^ (n - z) - 1) * 2 ^ z
theorem smask_facts (n z : Nat) (hn : n ≤ 8) (hz : z ≤ n) : smask n z < 2 ^ n ∧ popc (smask n z) = n - z ∧ (∀ k < n, smask n z / 2 ^ k % 2 = if z ≤ k then 1 else 0) ∧ ∀ j < n, ∀ i < j, stp (smask n z) i j = smask n z := by
  have : ∀ n < 9, ∀ z < n + 1, smask n z < 2 ^ n ∧ popc (smask n z) = n - z ∧ (∀ k < n, smask n z / 2 ^ k % 2 = if z ≤ k then 1 else 0) ∧ ∀ j < n, ∀ i < j, stp (smask n z) i j = smask n z := by decide +kernel
  exact this n (by omega) z (by omega)
theorem bitsP_cons (p : List Int) (r : List (List Int)) (m : Nat) : bitsP (p :: r) m = bitsP r (stp m (p.getD 0 0).toNat (p.getD 1 0).toNat) := rfl
theorem bits_smask {n : Nat} (hn : n ≤ 8) {z : Nat} (hz : z ≤ n) : ∀ {xss : List (List Int)}, pairUp n true xss → bitsP xss (smask n z) = smask n z
  | [], _ => rfl
  | p :: r, h => by
    obtain ⟨a, b, rfl, ha, hb, hne, hab⟩ := h p (List.mem_cons_self ..)
    rw [bitsP_cons]
    have e := (smask_facts n z hn hz).2.2.2 b hb a (hab rfl)
    have e2 : stp (smask n z) (([(a : Int), (b : Int)] : List Int).getD 0 0).toNat (([(a : Int), (b : Int)] : List Int).getD 1 0).toNat = smask n z := e
    rw [e2]
    exact bits_smask hn hz fun q hq => h q (List.mem_cons_of_mem _ hq)
theorem full_bits (n x K : Nat) (hn : n ≤ 8) (hx : x < 2 ^ n) (hp : popc x = n) (hK : K < n) : x / 2 ^ K % 2 = 1 := by
  have : ∀ n < 9, ∀ x < 2 ^ n, popc x = n → ∀ K < n, x / 2 ^ K % 2 = 1 := by decide +kernel
  exact this n (by omega) x hx hp K hK
theorem none_bits (n x K : Nat) (hn : n ≤ 8) (hx : x < 2 ^ n) (hp : popc x = 0) : x / 2 ^ K % 2 = 0 := by
  have h256 := pow_le_256 n hn
  rw [popc_none x (by omega) hp]
  simp
/-- The least and the greatest rank on a wire. -/
theorem range_std {n : Nat} {xss : List (List Int)} (hok : netOk n xss = true) (hst : pairUp n true xss) (K : Nat) (hK : K < n) :
    0 ≤ lowF n xss K n (2 ^ n) ∧ lowF n xss K n (2 ^ n) ≤ K ∧ (K : Int) ≤ highF n xss K (-1) (2 ^ n) ∧ highF n xss K (-1) (2 ^ n) < n := by
  have hn8 : n ≤ 8 := by have := netOk_n hok; omega
  refine ⟨lowF_ge n xss K n 0 (by omega) _ fun m hm hb => ?_, ?_, ?_, ?_⟩
  · obtain ⟨h1, h2⟩ := bitsP_lt' hok hm
    have hp := popc_lt n m hn8 hm
    rcases (by omega : popc m = n ∨ popc m < n) with h | h
    · have := full_bits n _ K hn8 h1 (by omega) hK; omega
    · omega
  · obtain ⟨s1, s2, s3, -⟩ := smask_facts n (K + 1) hn8 (by omega)
    have e := bits_smask hn8 (show K + 1 ≤ n by omega) hst
    have := lowF_le n xss K n (2 ^ n) _ s1 (by rw [e, s3 K hK, if_neg (by omega)])
    rw [s2] at this
    omega
  · obtain ⟨s1, s2, s3, -⟩ := smask_facts n K hn8 (by omega)
    have e := bits_smask hn8 (show K ≤ n by omega) hst
    have := highF_ge n xss K (-1) (2 ^ n) _ s1 (by rw [e, s3 K hK, if_pos (Nat.le_refl _)]; omega)
    rw [s2] at this
    omega
  · have : highF n xss K (-1) (2 ^ n) ≤ (n : Int) - 1 := by
      refine highF_le n xss K (-1) _ (by omega) _ fun m hm hb => ?_
      obtain ⟨h1, h2⟩ := bitsP_lt' hok hm
      rcases (by omega : popc m = 0 ∨ 0 < popc m) with h | h
      · exact absurd (none_bits n _ K hn8 h1 (by omega)) hb
      · omega
    omega
/-- A wire has its rank exactly if it can have no other. -/
theorem rank_range {n : Nat} {xss : List (List Int)} (hok : netOk n xss = true) (hst : pairUp n true xss) (K : Nat) (hK : K < n) :
    allB (rankB n xss K) (2 ^ n) = (lowF n xss K n (2 ^ n) == (K : Int) && highF n xss K (-1) (2 ^ n) == (K : Int)) := by
  have hn8 : n ≤ 8 := by have := netOk_n hok; omega
  obtain ⟨r1, r2, r3, r4⟩ := range_std hok hst K hK
  rw [Bool.eq_iff_iff, allB_iff, Bool.and_eq_true, beq_iff_eq, beq_iff_eq]
  constructor
  · intro h
    have hr : ∀ m, m < 2 ^ n → bitsP xss m / 2 ^ K % 2 = if n - popc m ≤ K then 1 else 0 := by
      intro m hm
      have := h m hm
      rw [rankB, beq_iff_eq, srt_bit n m K hn8 (popc_lt n m hn8 hm) hK] at this
      exact this
    constructor
    · have : (K : Int) ≤ lowF n xss K n (2 ^ n) := lowF_ge n xss K n K (by omega) _ fun m hm hb => by
        rw [hr m hm] at hb
        split at hb <;> omega
      omega
    · have : highF n xss K (-1) (2 ^ n) ≤ K := highF_le n xss K (-1) K (by omega) _ fun m hm hb => by
        rw [hr m hm] at hb
        split at hb <;> omega
      omega
  · rintro ⟨h1, h2⟩ m hm
    rw [rankB, beq_iff_eq, srt_bit n m K hn8 (popc_lt n m hn8 hm) hK]
    have hp := popc_lt n m hn8 hm
    by_cases hb : bitsP xss m / 2 ^ K % 2 = 0
    · have := lowF_le n xss K n (2 ^ n) m hm hb
      rw [if_neg (by omega), hb]
    · have := highF_ge n xss K (-1) (2 ^ n) m hm hb
      rw [if_pos (by omega)]
      omega
/-- All wires have their ranks exactly if the network sorts. -/
theorem rank_all {n : Nat} {xss : List (List Int)} (hok : netOk n xss = true) : allB (fun K => allB (rankB n xss K) (2 ^ n)) n = sortsR n xss := by
  have hn8 : n ≤ 8 := by have := netOk_n hok; omega
  rw [Bool.eq_iff_iff, sortsR, hok, Bool.true_and, Int.toNat_natCast, allB_iff, allB_iff]
  constructor
  · intro h m hm
    rw [sortB, beq_iff_eq]
    apply mask_ext
    intro k
    obtain ⟨h1, h2⟩ := bitsP_lt' hok hm
    have hs := srt_lt n m hn8 (popc_lt n m hn8 hm)
    by_cases hk : k < n
    · have := (allB_iff _ _).1 (h k hk) m hm
      rwa [rankB, beq_iff_eq] at this
    · have : 2 ^ n ≤ 2 ^ k := Nat.pow_le_pow_right (by omega) (by omega)
      rw [Nat.div_eq_of_lt (by omega), Nat.div_eq_of_lt (by omega)]
  · intro h K hK
    rw [allB_iff]
    intro m hm
    have := h m hm
    rw [sortB, beq_iff_eq] at this
    rw [rankB, beq_iff_eq, this]
/-- Masks that agree on the wanted wires still do behind the live comparators. -/
theorem live_agree {n : Nat} (hn : n ≤ 8) (W : Nat → Bool) : ∀ (xss : List (List Int)), pairUp n false xss → ∀ m m', m < 2 ^ n → m' < 2 ^ n → (∀ j, liveW W xss j = true → m / 2 ^ j % 2 = m' / 2 ^ j % 2) →
    ∀ j, W j = true → bitsP xss m / 2 ^ j % 2 = bitsP (liveP W xss) m' / 2 ^ j % 2
  | [], _, m, m', _, _, h => h
  | p :: r, hpu, m, m', hm, hm', h => by
    have h256 := pow_le_256 n hn
    obtain ⟨a, b, rfl, ha, hb, hne, -⟩ := hpu p (List.mem_cons_self ..)
    have hpr : pairUp n false r := fun q hq => hpu q (List.mem_cons_of_mem _ hq)
    have ea : rowA [(a : Int), (b : Int)] = a := rfl
    have eb : rowB [(a : Int), (b : Int)] = b := rfl
    have es : ∀ x, bitsP ([(a : Int), (b : Int)] :: r) x = bitsP r (stp x a b) := fun x => rfl
    have l1 := stp_lt2 n m a b hn hm ha hb hne
    have l2 := stp_lt2 n m' a b hn hm' ha hb hne
    have q1 := fun k => stp_bits m a b k (by omega) (by omega) (by omega) hne
    have q2 := fun k => stp_bits m' a b k (by omega) (by omega) (by omega) hne
    rw [es]
    by_cases hw : (liveW W r a || liveW W r b) = true
    · have e1 : liveP W ([(a : Int), (b : Int)] :: r) = [(a : Int), (b : Int)] :: liveP W r := by rw [show liveP W ([(a : Int), (b : Int)] :: r) = if liveW W r a || liveW W r b then [(a : Int), (b : Int)] :: liveP W r else liveP W r from rfl, if_pos hw]
      have e2 : liveW W ([(a : Int), (b : Int)] :: r) = upB (upB (liveW W r) a) b := by rw [show liveW W ([(a : Int), (b : Int)] :: r) = if liveW W r a || liveW W r b then upB (upB (liveW W r) a) b else liveW W r from rfl, if_pos hw]
      rw [e1]
      show ∀ j, W j = true → _ = bitsP (liveP W r) (stp m' a b) / 2 ^ j % 2
      refine live_agree hn W r hpr _ _ l1 l2 fun j hj => ?_
      have hA := h a (by rw [e2]; simp [upB])
      have hB := h b (by rw [e2]; simp [upB])
      rw [q1, q2, hA, hB]
      by_cases h1 : j = a
      · rw [if_pos h1, if_pos h1]
      · rw [if_neg h1, if_neg h1]
        by_cases h2 : j = b
        · rw [if_pos h2, if_pos h2]
        · rw [if_neg h2, if_neg h2]
          exact h j (by rw [e2]; simp [upB, hj])
    · have e1 : liveP W ([(a : Int), (b : Int)] :: r) = liveP W r := by rw [show liveP W ([(a : Int), (b : Int)] :: r) = if liveW W r a || liveW W r b then [(a : Int), (b : Int)] :: liveP W r else liveP W r from rfl, if_neg hw]
      have e2 : liveW W ([(a : Int), (b : Int)] :: r) = liveW W r := by rw [show liveW W ([(a : Int), (b : Int)] :: r) = if liveW W r a || liveW W r b then upB (upB (liveW W r) a) b else liveW W r from rfl, if_neg hw]
      rw [e1]
      refine live_agree hn W r hpr _ _ l1 hm' fun j hj => ?_
      rw [q1, if_neg (by rintro rfl; simp [hj] at hw), if_neg (by rintro rfl; simp [hj] at hw)]
      exact h j (by rw [e2]; exact hj)
theorem wantB_one (K : Nat) : wantB [(K : Int)] 1 K = true := by simp [wantB]
theorem live_bits {n : Nat} {xss : List (List Int)} (hok : netOk n xss = true) (K m : Nat) (hm : m < 2 ^ n) : bitsP (liveP (wantB [(K : Int)] 1) xss) m / 2 ^ K % 2 = bitsP xss m / 2 ^ K % 2 :=
  (live_agree (by have := netOk_n hok; omega) _ xss (pairUp_of_netOk hok) m m hm hm (fun _ _ => rfl) K (wantB_one K)).symm
theorem lowF_congr (n : Nat) (xss yss : List (List Int)) (K : Nat) (s : Int) : ∀ k, (∀ m, m < k → bitsP xss m / 2 ^ K % 2 = bitsP yss m / 2 ^ K % 2) → lowF n xss K s k = lowF n yss K s k ∧ ∀ t, highF n xss K t k = highF n yss K t k
  | 0, _ => by simp [lowF, highF]
  | k + 1, h => by
    obtain ⟨i1, i2⟩ := lowF_congr n xss yss K s k fun m hm => h m (by omega)
    refine ⟨?_, fun t => ?_⟩
    · rw [lowF_succ, lowF_succ, i1, lowS, lowS, h k (by omega)]
    · rw [highF_succ, highF_succ, i2, highS, highS, h k (by omega)]
theorem wiresOk_one (n K : Nat) (h : K < n) : wiresOk n [(K : Int)] = true := by
  simp [wiresOk, inB]
  omega
/-- The live comparators of one wire: the same ranks, no more comparators. -/
theorem live_one {n : Nat} {xss : List (List Int)} (hok : netOk n xss = true) (K : Nat) (hK : K < n) :
    liveB n xss [(K : Int)] = true ∧ liveX n xss [(K : Int)] = liveP (wantB [(K : Int)] 1) xss ∧ netOk n (liveX n xss [(K : Int)]) = true ∧ (liveX n xss [(K : Int)]).length ≤ xss.length ∧
      lowF n (liveX n xss [(K : Int)]) K n (2 ^ n) = lowF n xss K n (2 ^ n) ∧ highF n (liveX n xss [(K : Int)]) K (-1) (2 ^ n) = highF n xss K (-1) (2 ^ n) := by
  have h1 : liveB n xss [(K : Int)] = true := by unfold liveB; rw [hok, Int.toNat_natCast, wiresOk_one n K hK]; rfl
  have h2 : liveX n xss [(K : Int)] = liveP (wantB [(K : Int)] 1) xss := by unfold liveX; rw [if_pos h1]; rfl
  have hle := liveP_le (wantB [(K : Int)] 1) xss
  have hn := netOk_n hok
  have h60 := netOk_len hok
  rw [h2]
  have c := lowF_congr n (liveP (wantB [(K : Int)] 1) xss) xss K n (2 ^ n) fun m hm => live_bits hok K m hm
  refine ⟨h1, rfl, netOk_of_pairUp (up := false) (fun r hr => pairUp_of_netOk hok r (liveP_mem _ _ _ hr)) (by omega) (by omega) (by omega), by omega, c.1, c.2 _⟩
theorem sel_ends {n : Nat} {xss : List (List Int)} (hok : netOk n xss = true) : selR n xss 0 = true ∧ selR n xss n = true := by
  have hn := netOk_n hok
  have hn8 : n ≤ 8 := by omega
  constructor
  · rw [show (0 : Int) = ((0 : Nat) : Int) from rfl, selR_yes hok (Nat.zero_le _), allB_iff]
    intro m hm
    unfold selB
    rw [if_pos (Nat.zero_le _)]
    simp [Nat.mod_one]
  · rw [selR_yes hok (Nat.le_refl _), allB_iff]
    intro m hm
    obtain ⟨h1, h2⟩ := bitsP_lt' hok hm
    have h256 := pow_le_256 n hn8
    unfold selB
    split
    · rename_i h
      have hp0 : popc m = 0 := by omega
      rw [hp0] at h2
      rw [popc_none _ (by omega) h2]
      simp
    · rw [Nat.div_eq_of_lt h1]
      simp
theorem allB_succ (f : Nat → Bool) (k : Nat) : allB f (k + 1) = (allB f k && f k) := by simp [allB, List.range_succ]
theorem SelectNetwork_y (n k : Nat) (h1 : 1 ≤ n) (h8 : n ≤ 8) (hk : k ≤ n) (w : World) : Calls Try.prog 37 #[.int .i64 n, .int .i64 k] w (NetC w n (XSelectNetwork n k) true) := by
  have h : VSelectNetwork n k = true := by unfold VSelectNetwork; rw [inB_mk ⟨by omega, by omega⟩, inB_mk ⟨by omega, by omega⟩]; rfl
  have := SelectNetwork_i_c n k w
  rwa [if_pos h, h] at this
theorem MedianNetwork_y (n : Nat) (h1 : 1 ≤ n) (h6 : n ≤ 6) (w : World) : Calls Try.prog 41 #[.int .i64 n] w (NetC w n (medX n) true) := by
  have h := fin_median n h1 h6
  have := MedianNetwork_i_c n w
  rwa [h.1, h.2.1] at this
theorem OddEvenMerge_y (a : Nat) (h : a ≤ 3) (w : World) : Calls Try.prog 46 #[.int .i64 a, .int .i64 3] w (NetC w ((a : Int) + 3) (XOddEvenMerge a 3) true) := by
  have h := (fin_merge a h).1
  have := OddEvenMerge_i_c a 3 w
  rwa [if_pos h, h] at this
theorem LiveNetwork_y (n : Nat) (lo hi lo2 hi2 : Nat) (v : Value) (vs : List Value) (xss : List (List Int)) (u : Value) (K : Nat) (w : World) (hv : OwnR w lo hi v vs xss) (hhi : hi ≤ w.heap.size) (hu : IntsV w lo2 hi2 u [(K : Int)]) (hh2 : hi2 ≤ w.heap.size) (hok : netOk n xss = true) (hK : K < n) :
    Calls Try.prog 45 #[.agg #[.int .i64 n, v], u] w (NetC w n (liveX n xss [(K : Int)]) true) := by
  have h := (live_one hok K hK).1
  have := LiveNetwork_i_c n lo hi lo2 hi2 v vs xss u [(K : Int)] w hv hhi hu hh2 (by simp)
  rwa [h, show liveN n xss [(K : Int)] = n from if_pos h] at this
end Go.Proofs.Ytgdkihabphihoaa
