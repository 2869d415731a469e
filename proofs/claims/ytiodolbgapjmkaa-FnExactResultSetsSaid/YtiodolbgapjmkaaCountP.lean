/- The number of sorting networks of a given number of comparators, as plain recursion. Conditions: none. -/
import Derived.Test.YtiodolbgapjmkaaCountS
namespace Go.Proofs.Ytiodolbgapjmkaa
open Go.RowKit Go.Sort

/-- How many networks of p comparators lead from the set S to the sorted masks. -/
def cntL (n : Nat) : Nat → List Int → Nat
  | 0, S => if S.length = n + 1 then 1 else 0
  | p + 1, S => ((prs n).map fun r => cntL n p (nxt n S (r.getD 0 0).toNat (r.getD 1 0).toNat)).sum
theorem sum_le_mul {α : Type} (l : List α) (f : α → Nat) (b : Nat) (h : ∀ x ∈ l, f x ≤ b) : (l.map f).sum ≤ l.length * b := by
  induction l with
  | nil => simp
  | cons a l ih =>
    have h1 := h a (by simp)
    have h2 := ih fun x hx => h x (by simp [hx])
    rw [List.map_cons, List.sum_cons, List.length_cons, Nat.add_mul, Nat.one_mul]
    omega
theorem cntL_le (n : Nat) : ∀ (p : Nat) (S : List Int), cntL n p S ≤ (prs n).length ^ p
  | 0, S => by unfold cntL; split <;> simp
  | p + 1, S => by
    unfold cntL
    rw [Nat.pow_succ, Nat.mul_comm]
    exact sum_le_mul _ _ _ fun x _ => cntL_le n p _
theorem nxt_pos {n : Nat} {S : List Int} {i k : Nat} (hS : masksP n S) (h0 : 0 < S.length) (hlt : ∀ m, m < 2 ^ n → stp m i k < 2 ^ n) : 0 < (nxt n S i k).length := by
  cases S with
  | nil => simp at h0
  | cons x S =>
    obtain ⟨m, hm, hmn⟩ := hS x (by simp)
    refine List.length_pos_of_mem (a := ((stp m i k : Nat) : Int)) (mem_setI.2 ⟨_, rfl, hlt m hmn, ?_⟩)
    subst hm
    simp
theorem nxt_len {n : Nat} (hn : n ≤ 8) (S : List Int) (i k : Nat) : (nxt n S i k).length ≤ 256 := Nat.le_trans (setI_len n _) (pow_le_256 n hn)
theorem nxt_masks (n : Nat) (S : List Int) (i k : Nat) : masksP n (nxt n S i k) := setI_masks n _
theorem prs_len {n : Nat} (hn : n ≤ 8) : (prs n).length ≤ 64 := Nat.le_trans (net2_len _ _ (by intro s; show n - 1 - s ≤ 8; omega) n) (by omega)
theorem prs_pair {n j : Nat} (hj : j < (prs n).length) : ∃ a b : Nat, (prs n).getD j [] = [(a : Int), (b : Int)] ∧ a < b ∧ b < n := by
  have hm : (prs n).getD j [] ∈ prs n := by rw [List.getD_eq_getElem?_getD, List.getElem?_eq_getElem hj]; exact List.getElem_mem hj
  obtain ⟨s, hs, hr⟩ := List.mem_flatMap.1 hm
  obtain ⟨k, hk, hr⟩ := List.mem_map.1 hr
  rw [List.mem_range] at hs hk
  replace hk : k < n - 1 - s := hk
  exact ⟨s, s + 1 + k, hr.symm, by omega, by omega⟩
end Go.Proofs.Ytiodolbgapjmkaa
