/- The laws' sum of noughts; parts of a list; a list of noughts. Conditions: lengths. -/
import Derived.Test.YtiodolbgapjmkaaGreatDoorLater
import Derived.Test.YtiodolbgapjmkaaGreatDoorRowApp
namespace Go.Proofs.YtiodolbgapjmkaaGreatDoor
open Go.RowKit
set_option maxRecDepth 100000
set_option linter.unusedVariables false
set_option linter.unusedSimpArgs false

theorem ownI_madeN (w : World) (n : Nat) (hn : n ≤ 1000) : OwnI (w.alloc (.cells (madeCells #[Value.int .i64 0] n) 3)) w.heap.size (w.heap.size + 1) (.slice (some ⟨w.heap.size, 0, none⟩) n n) (List.replicate n 0) := by
  have hl : (ivs (List.replicate n 0)).length = n := by rw [ivs_length, List.length_replicate]
  have hb := blk_new w (.cells (madeCells #[Value.int .i64 0] n) 3)
  refine ⟨?_, fun k hk => by simp [Value.ownBlock] at hk; omega⟩
  rw [hl]
  refine ⟨by omega, .inr ⟨w.heap.size, n, madeCells #[Value.int .i64 0] n, rfl, Nat.le_refl _, hb, Nat.le_refl _, by unfold maxLen; omega, by simp [madeCells], ?_⟩⟩
  apply List.ext_getElem?
  intro i
  simp [madeCells, ivs, List.getElem?_map, List.getElem?_replicate]
  by_cases hi : i < n
  · simp [hi, Nat.mod_one]
  · simp [hi]
theorem intsV_part {w : World} {lo hi g L cap : Nat} {xs : List Int} (h : OwnI w lo hi (.slice (some ⟨g, 0, none⟩) L cap) xs) (hL : xs.length = L) (d : Nat) (hd : d < L) : IntsV w lo hi (.slice (some ⟨g, d, none⟩) (L - d) (cap - d)) (xs.drop d) ∧ IntsV w lo hi (.slice (some ⟨g, 0, none⟩) d cap) (xs.take d) := by
  obtain ⟨ao, g2, cap2, e, h1, h2, h3⟩ := OwnI.view h
  injection e with e1 e2 e3
  obtain ⟨q1, q2, q3⟩ := h2 (by omega)
  rw [q1] at e1
  injection e1 with e1
  injection e1 with e1
  subst e1
  refine ⟨⟨_, g, d, cap - d, by rw [List.length_drop, hL], by rw [List.length_drop]; omega, fun _ => ⟨rfl, q2, q3⟩, fun i hi => ?_⟩, ⟨_, g, 0, cap, by rw [List.length_take, hL, Nat.min_eq_left (by omega)], by rw [List.length_take]; omega, fun _ => ⟨rfl, q2, q3⟩, fun i hi => ?_⟩⟩
  · rw [List.length_drop] at hi
    rw [(h3 (d + i) (by omega)).1]
    simp [List.getD, List.getElem?_drop]
  · rw [List.length_take] at hi
    rw [Nat.zero_add, (h3 i (by omega)).1]
    simp [List.getD, List.getElem?_take, show i < d by omega]
theorem intsX {w : World} {lo hi L cap : Nat} {ao : Option Addr} {xs : List Int} (h : OwnI w lo hi (.slice ao L cap) xs) (hL : L = xs.length) :
    ∃ g, (0 < L → ao = some ⟨g, 0, none⟩ ∧ g < hi) ∧ L ≤ cap ∧ ∀ k, k < L → w.cell? ⟨g, k, none⟩ = some (.int .i64 (xs.getD k 0)) := by
  obtain ⟨ao2, g, cap2, e, h1, h2, h3⟩ := OwnI.view h
  injection e with e1 e2 e3
  subst e1 e3
  exact ⟨g, fun h0 => ⟨(h2 (by omega)).1, (h2 (by omega)).2.2⟩, by omega, fun k hk => (h3 k (by omega)).1⟩
theorem rowsX {w : World} {n lo hi L cap : Nat} {ao : Option Addr} {vs : List Value} {xss : List (List Int)} (h : OwnR w lo hi (.slice ao L cap) vs xss) (hL : L = xss.length) (hX : ∀ r ∈ xss, ∃ a b : Nat, r = [(a : Int), (b : Int)] ∧ a < n ∧ b < n ∧ a ≠ b ∧ (false = true → a < b)) :
    ∃ g, (0 < L → ao = some ⟨g, 0, none⟩ ∧ g < hi) ∧ L ≤ cap ∧ ∀ k, k < L → ∃ a b G C : Nat, xss.getD k [] = [(a : Int), (b : Int)] ∧ w.cell? ⟨g, k, none⟩ = some (.slice (some ⟨G, 0, none⟩) 2 C) ∧ G < hi ∧ w.cell? ⟨G, 0, none⟩ = some (.int .i64 a) ∧ w.cell? ⟨G, 1, none⟩ = some (.int .i64 b) := by
  obtain ⟨ao2, g, cap2, A, G, C, e, h1, h2, h3⟩ := h.view
  injection e with e1 e2 e3
  subst e1 e3
  refine ⟨g, fun h0 => ⟨(h2 (by omega)).1, (h2 (by omega)).2.2⟩, by omega, fun k hk => ?_⟩
  have hm : xss.getD k [] ∈ xss := by rw [List.getD_eq_getElem?_getD, List.getElem?_eq_getElem (by omega)]; exact List.getElem_mem _
  obtain ⟨a, b, er, -⟩ := hX _ hm
  obtain ⟨q1, q2, q3, q4⟩ := h3 k (by omega)
  rw [er] at q1 q3 q4
  obtain ⟨hA, -, hG⟩ := q3 (by simp)
  rw [hA] at q1
  exact ⟨a, b, G k, C k, er, q1, hG, q4 0 (by simp), q4 1 (by simp)⟩
set_option maxHeartbeats 1000000 in
theorem sum0_c (lo hi : Nat) (v : Value) (xs : List Int) (w : World) (hv : IntsV w lo hi v xs) (hx : ∀ x ∈ xs, x = 0) (hl : xs.length ≤ 100000) :
    Calls Tryz.prog 18 #[v] w fun e w' => e = .returned (.int .i64 0) ∧ Below w.heap.size w w' := by
  obtain ⟨ao, b, off, cap, rfl, hcap, hao, hc⟩ := hv
  have HC : Hid (∀ i, i < xs.length → w.cell? ⟨b, off + i, none⟩ = some (.int .i64 0)) := fun i hi => by
    rw [hc i hi, List.getD_eq_getElem?_getD, List.getElem?_eq_getElem hi]
    rw [hx xs[i] (List.getElem_mem hi)]
    simp [hx xs[i] (List.getElem_mem hi)]
  have HAO := Lib.hid hao
  obtain ⟨L, hL⟩ : ∃ L, L = xs.length := ⟨_, rfl⟩
  rw [← hL] at HC hcap hl ⊢
  clear hL hc hao
  go_enter Tryz.func18, Tryz.ntmps18
  go_wp2_with fail
  go_loopw [3, 8] (fun t i wr => ∃ k : Nat, k ≤ L ∧ i = .int .i64 k ∧ t = .int .i64 0 ∧ w = wr) (fun _ i _ => L - (intOf i).toNat)
  case atStart => exact ⟨0, Nat.zero_le _, rfl, rfl, rfl⟩
  case round =>
    obtain ⟨k, hk, rfl, rfl, rfl⟩ := hrel
    by_cases hlt : k < L
    · have hki : (k : Int) < (L : Int) := by omega
      have hAo := (HAO.out (by omega)).1
      subst hAo
      have c1 := HC.out k hlt
      go_wp2_with fail
      go_roundw
      case rel => exact ⟨k + 1, by omega, by go_num, by go_num, trivial⟩
      case measure => simp [intOf]; omega
    · have hki : ¬ (k : Int) < (L : Int) := by omega
      go_wp2
      go_ret
      exact ⟨rfl, Below.refl _ _⟩
end Go.Proofs.YtiodolbgapjmkaaGreatDoor
