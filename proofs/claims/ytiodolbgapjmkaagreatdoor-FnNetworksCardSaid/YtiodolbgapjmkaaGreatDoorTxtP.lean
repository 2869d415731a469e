/- A network's text: the plain law of its words and digits. Conditions: one digit each. -/
import Derived.Test.YtiodolbgapjmkaaGreatDoorShelf
import Derived.Test.YtiodolbgapjmkaaGreatDoorDraw
namespace Go.Proofs.YtiodolbgapjmkaaGreatDoor
open Go.RowKit Go.Lib
set_option linter.unusedVariables false

def strB (l : List UInt8) : ByteArray := ⟨l.toArray⟩
theorem strB_data (l : List UInt8) : (strB l).data.toList = l := by simp [strB]
theorem strB_size (l : List UInt8) : (strB l).size = l.length := by simp [strB, ByteArray.size]
theorem strB_eta (s : ByteArray) : strB s.data.toList = s := by
  obtain ⟨⟨l⟩⟩ := s
  rfl
theorem strB_append (a b : List UInt8) : strB a ++ strB b = strB (a ++ b) := by
  have h : (strB a ++ strB b).data = (strB (a ++ b)).data := by simp [strB]
  cases hx : strB a ++ strB b
  cases hy : strB (a ++ b)
  rw [hx, hy] at h
  simpa using h
theorem strB_extract (l : List UInt8) (a b : Nat) : (strB l).extract a b = strB ((l.drop a).take (b - a)) := by
  have h := extract_data (strB l) a b
  rw [strB_data] at h
  rw [← h, strB_eta]
def digB (k : Nat) : UInt8 := UInt8.ofNat (48 + k)
theorem decDigits_one {k : Nat} (h : k < 10) : decDigits k = [digB k] := by
  unfold decDigits
  rw [dif_pos h]
  rfl
theorem atoi_one : ∀ k, k < 10 → atoi [digB k] = some (k : Int) := by decide +kernel
theorem digB_ne : ∀ k, k < 10 → digB k ≠ 32 ∧ digB k ≠ 45 ∧ digB k ≠ 58 := by decide +kernel
def wordT (r : List Int) : List UInt8 := [digB (r.getD 0 0).toNat, 45, digB (r.getD 1 0).toNat]
def tailT (ws : List (List UInt8)) : List UInt8 := ws.flatMap fun x => 32 :: x
def fmtT (n : Nat) (xss : List (List Int)) : List UInt8 := [digB n, 58] ++ tailT (xss.map wordT)
theorem fmtT_snoc (n : Nat) (xss : List (List Int)) (r : List Int) : fmtT n (xss ++ [r]) = fmtT n xss ++ (32 :: wordT r) := by simp [fmtT, tailT]
theorem fmtT_len (n : Nat) : ∀ xss : List (List Int), (fmtT n xss).length = 2 + 4 * xss.length
  | [] => rfl
  | r :: xss => by
    have := fmtT_len n xss
    simp [fmtT, tailT, wordT] at this ⊢
    omega
theorem index_sp : ∀ (p q : List UInt8), (∀ b ∈ p, b ≠ 32) → index (p ++ 32 :: q) [32] = (p.length : Int)
  | [], q, _ => by simp [index, List.isPrefixOf]
  | b :: p, q, h => by
    have hb : (b == (32 : UInt8)) = false := by simpa using h b (by simp)
    have hb2 : ((32 : UInt8) == b) = false := by
      cases e : (32 : UInt8) == b
      · rfl
      · rw [eq_of_beq e] at hb; simp at hb
    have ih := index_sp p q fun x hx => h x (by simp [hx])
    show (if List.isPrefixOf [32] (b :: (p ++ 32 :: q)) then (0 : Int) else if index (p ++ 32 :: q) [32] == -1 then -1 else index (p ++ 32 :: q) [32] + 1) = _
    rw [ih]
    have e1 : List.isPrefixOf [(32 : UInt8)] (b :: (p ++ 32 :: q)) = false := by simp [List.isPrefixOf, hb2]
    have e2 : ((p.length : Int) == -1) = false := by simp
    rw [e1, e2]
    simp
theorem index_no : ∀ (p : List UInt8), (∀ b ∈ p, b ≠ 32) → index p [32] = -1
  | [], _ => rfl
  | b :: p, h => by
    have hb2 : ((32 : UInt8) == b) = false := by
      cases e : (32 : UInt8) == b
      · rfl
      · exact absurd (eq_of_beq e).symm (h b (by simp))
    have ih := index_no p fun x hx => h x (by simp [hx])
    show (if List.isPrefixOf [32] (b :: p) then (0 : Int) else if index p [32] == -1 then -1 else index p [32] + 1) = _
    have e1 : List.isPrefixOf [(32 : UInt8)] (b :: p) = false := by simp [List.isPrefixOf, hb2]
    rw [ih, e1]
    rfl
theorem split_words : ∀ (ws : List (List UInt8)) (p : List UInt8), (∀ b ∈ p, b ≠ 32) → (∀ x ∈ ws, ∀ b ∈ x, b ≠ 32) →
    countB (strB (p ++ tailT ws)) (strB [32]) = ws.length ∧ splitB (strB [32]) 0 ws.length (strB (p ++ tailT ws)) = strB p :: ws.map strB
  | [], p, hp, _ => by
    have e : p ++ tailT [] = p := by simp [tailT]
    rw [e]
    refine ⟨countB_miss _ _ ?_, by simp [splitB]⟩
    show index _ _ = _
    rw [strB_data, strB_data]
    exact index_no p hp
  | x :: ws, p, hp, hw => by
    have e : p ++ tailT (x :: ws) = p ++ 32 :: (x ++ tailT ws) := by simp [tailT]
    have hi : indexB (strB (p ++ 32 :: (x ++ tailT ws))) (strB [32]) = (p.length : Int) := by
      show index _ _ = _
      rw [strB_data, strB_data]
      exact index_sp p _ hp
    have he : (strB (p ++ 32 :: (x ++ tailT ws))).extract (p.length + (strB [32]).size) (strB (p ++ 32 :: (x ++ tailT ws))).size = strB (x ++ tailT ws) := by
      rw [strB_extract, strB_size, strB_size]
      congr 1
      have d : (p ++ 32 :: (x ++ tailT ws)).drop (p.length + [(32 : UInt8)].length) = x ++ tailT ws := by
        rw [List.drop_append, List.drop_of_length_le (by simp)]
        simp
      rw [d, List.take_of_length_le (by simp; omega)]
    obtain ⟨i1, i2⟩ := split_words ws x (hw x (by simp)) fun y hy => hw y (by simp [hy])
    rw [e]
    refine ⟨?_, ?_⟩
    · rw [countB_hit _ _ p.length (by rw [strB_size]; simp) hi, he, i1]
      simp; omega
    · show splitB (strB [32]) 0 (ws.length + 1) _ = _
      rw [splitB_hit _ _ _ _ p.length hi, he, i2, strB_extract]
      simp
theorem trim_colon : ∀ n, n < 10 → trimSuffix [digB n, 58] [58] = [digB n] := by decide +kernel
theorem cut_dash' : ∀ a, a < 10 → ∀ b, b < 10 → cut [digB a, 45, digB b] [45] = ([digB a], [digB b], true) := by decide +kernel
theorem words_ok {n : Nat} {xss : List (List Int)} (h8 : n ≤ 8) (hX : pairUp n false xss) : ∀ x ∈ xss.map wordT, ∀ b ∈ x, b ≠ (32 : UInt8) := by
  intro x hx b hb
  obtain ⟨r, hr, rfl⟩ := List.mem_map.1 hx
  obtain ⟨i, k, rfl, hi, hk, -⟩ := hX r hr
  simp [wordT] at hb
  rcases hb with rfl | rfl | rfl
  · exact (digB_ne i (by omega)).1
  · decide
  · exact (digB_ne k (by omega)).1
end Go.Proofs.YtiodolbgapjmkaaGreatDoor
