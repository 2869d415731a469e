/- Sets of masks as numbers, and a map of such numbers: the plain law. Conditions: none. -/
import Derived.Test.YtiodolbgapjmkaaSetsP
import Derived.Maps.OwnSet
import Derived.Lib.QuoteBits
namespace Go.Proofs.Ytiodolbgapjmkaa
open Go.RowKit Go.Maps Go.Lib
set_option linter.unusedVariables false

/-- The number that has the bits of a set. -/
def keyA (a : Nat) (S : List Int) : Nat := S.foldl (fun a m => a ||| 1 <<< m.toNat) a
def keyN (S : List Int) : Nat := keyA 0 S
theorem keyA_bit (k : Nat) : ∀ (S : List Int) (a : Nat), (keyA a S).testBit k = (a.testBit k || S.any fun m => m.toNat == k)
  | [], a => by simp [keyA]
  | m :: S, a => by
    show (keyA (a ||| 1 <<< m.toNat) S).testBit k = _
    rw [keyA_bit k S, Nat.testBit_or, List.any_cons, Nat.one_shiftLeft, Nat.testBit_two_pow, Bool.or_assoc]
    rfl
theorem keyN_set (n : Nat) (P : Nat → Bool) (k : Nat) (hk : k < 2 ^ n) : (keyN (setI n P)).testBit k = P k := by
  unfold keyN
  rw [keyA_bit, Nat.zero_testBit, Bool.false_or, Bool.eq_iff_iff, List.any_eq_true]
  constructor
  · rintro ⟨m, hm, e⟩
    obtain ⟨q, rfl, hq, hp⟩ := mem_setI.1 hm
    have : q = k := by simpa using e
    rw [← this]; exact hp
  · intro h
    exact ⟨(k : Int), mem_setN.2 ⟨hk, h⟩, by simp⟩
theorem keyN_inj {n : Nat} {P Q : Nat → Bool} (h : keyN (setI n P) = keyN (setI n Q)) : setI n P = setI n Q :=
  setI_congr fun m hm => by rw [← keyN_set n P m hm, ← keyN_set n Q m hm, h]
theorem keyA_lt {b : Nat} : ∀ (S : List Int) (a : Nat), a < 2 ^ b → (∀ m ∈ S, m.toNat < b) → keyA a S < 2 ^ b
  | [], a, h, _ => h
  | m :: S, a, h, hm => by
    refine keyA_lt S _ ?_ fun x hx => hm x (by simp [hx])
    exact Nat.or_lt_two_pow h (by rw [Nat.one_shiftLeft]; exact Nat.pow_lt_pow_right (by omega) (hm m (by simp)))
theorem keyN_snoc (S : List Int) (j : Nat) (hj : j < S.length) : keyN (S.take (j + 1)) = keyN (S.take j) ||| 1 <<< (S.getD j 0).toNat := by
  unfold keyN keyA
  rw [List.take_succ_eq_append_getElem hj, List.foldl_append, List.getD_eq_getElem?_getD, List.getElem?_eq_getElem hj]
  rfl
/-- The map tells which sets the list has. -/
def SeenI (n : Nat) (D : DataW Unit) (s : List (List Int)) : Prop :=
  ∀ P : Nat → Bool, D.atKey (.int .i64 (keyN (setI n P) : Nat)) (.lit (.bool false)) = .lit (.bool (decide (setI n P ∈ s)))
theorem SeenI.start (n : Nat) : SeenI n (.map []) [] := fun P => by simp [DataW.atKey]
theorem SeenI.put {n : Nat} {D : DataW Unit} {s : List (List Int)} (h : SeenI n D s) (hD : IsMap D) (P : Nat → Bool) :
    SeenI n (D.put (.int .i64 (keyN (setI n P) : Nat)) (.lit (.bool true))) (s ++ [setI n P]) := fun Q => by
  by_cases e : keyN (setI n Q) = keyN (setI n P)
  · have hS := keyN_inj e
    rw [hS]
    rw [atKey_put_same (k := .int .i64 (keyN (setI n P) : Nat)) hD trivial]
    simp
  · rw [atKey_put_other (by intro h; injection h with _ h2; omega), h Q]
    have : setI n Q ≠ setI n P := fun h => e (by rw [h])
    simp [this]
theorem or_i64 (a b : Nat) (ha : a < 2 ^ 63) (hb : b < 2 ^ 63) : bits BinOp.or IntKind.i64 (a : Int) (b : Int) = ((a ||| b : Nat) : Int) := by
  show IntKind.i64.wrap ((BitVec.ofInt 64 (a : Int) ||| BitVec.ofInt 64 (b : Int)).toNat : Int) = _
  rw [BitVec.toNat_or, ofInt_u64 a (by omega), ofInt_u64 b (by omega)]
  exact wrap_i64_small _ (Nat.or_lt_two_pow ha hb)
/-- There are not more than 65536 sets of masks of four wires. -/
theorem sets_le {n : Nat} (hn : n ≤ 4) {s : List (List Int)} (hs : s.Nodup) (hP : ∀ x ∈ s, ∃ P, x = setI n P) : s.length ≤ 65536 := by
  have h1 : (s.map keyN).Nodup := by
    rw [List.nodup_iff_pairwise_ne, List.pairwise_map]
    refine (List.nodup_iff_pairwise_ne.1 hs).imp_of_mem fun {a b} ha hb hne e => hne ?_
    obtain ⟨P, rfl⟩ := hP a ha
    obtain ⟨Q, rfl⟩ := hP b hb
    exact keyN_inj e
  have h2 := nodup_le (s.map keyN) (List.range 65536) h1 fun k hk => by
    obtain ⟨x, hx, rfl⟩ := List.mem_map.1 hk
    obtain ⟨P, rfl⟩ := hP x hx
    rw [List.mem_range]
    refine Nat.lt_of_lt_of_le (keyA_lt (b := 2 ^ n) _ 0 (Nat.pow_pos (by omega)) fun m hm => ?_) (show 2 ^ 2 ^ n ≤ 2 ^ 16 from Nat.pow_le_pow_right (by omega) (show 2 ^ n ≤ 2 ^ 4 from Nat.pow_le_pow_right (by omega) hn))
    obtain ⟨q, rfl, hq, -⟩ := mem_setI.1 hm
    simpa using hq
  simpa using h2
end Go.Proofs.Ytiodolbgapjmkaa
