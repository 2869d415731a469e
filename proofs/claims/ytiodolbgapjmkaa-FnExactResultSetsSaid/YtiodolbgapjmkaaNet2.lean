/- Lists of pairs that two loops build, one inside the other. Conditions: none. -/
import Derived.Test.YtiodolbgapjmkaaApp
import Derived.Test.YtiodolbgapjmkaaNetC
import Derived.Test.YtiodolbgapjmkaaSmall
namespace Go.Proofs.Ytiodolbgapjmkaa
open Go.RowKit
/-- Of each s below t the pairs 'P s k', k below 'cnt s'. -/
def net2 (cnt : Nat → Nat) (P : Nat → Nat → List Int) (t : Nat) : List (List Int) := (List.range t).flatMap fun s => (List.range (cnt s)).map (P s)
theorem net2_succ (cnt : Nat → Nat) (P : Nat → Nat → List Int) (t : Nat) : net2 cnt P (t + 1) = net2 cnt P t ++ (List.range (cnt t)).map (P t) := by simp [net2, List.range_succ, List.flatMap_append]
theorem row_succ (f : Nat → List Int) (k : Nat) (B : List (List Int)) : B ++ (List.range (k + 1)).map f = (B ++ (List.range k).map f) ++ [f k] := by simp [List.range_succ]
theorem net2_len (cnt : Nat → Nat) (P : Nat → Nat → List Int) (h : ∀ s, cnt s ≤ 8) (t : Nat) : (net2 cnt P t).length ≤ 8 * t := by
  induction t with
  | zero => simp [net2]
  | succ t ih => rw [net2_succ, List.length_append, List.length_map, List.length_range]; have := h t; omega
theorem net2_two (cnt : Nat → Nat) (P : Nat → Nat → List Int) (h : ∀ s k, (P s k).length = 2) (t : Nat) : ∀ xs ∈ net2 cnt P t, xs.length = 2 := by
  intro xs hx
  simp only [net2, List.mem_flatMap, List.mem_map] at hx
  obtain ⟨s, -, k, -, rfl⟩ := hx
  exact h s k
theorem net2_small (cnt : Nat → Nat) (P : Nat → Nat → List Int) (h : ∀ s, cnt s ≤ 8) (h2 : ∀ s k, (P s k).length = 2) (t : Nat) (ht : t ≤ 100) : smallR (net2 cnt P t) :=
  smallR_pairs (by have := net2_len cnt P h t; omega) (fun xs hx => by have := net2_two cnt P h2 t xs hx; omega)
theorem net2_congr {c1 c2 : Nat → Nat} {P1 P2 : Nat → Nat → List Int} {t : Nat} (h : ∀ s, s < t → c1 s = c2 s) (h2 : ∀ s k, s < t → k < c1 s → P1 s k = P2 s k) : net2 c1 P1 t = net2 c2 P2 t := by
  induction t with
  | zero => rfl
  | succ t ih =>
    rw [net2_succ, net2_succ, ih (fun s hs => h s (by omega)) (fun s k hs hk => h2 s k (by omega) hk), h t (by omega)]
    congr 1
    exact List.map_congr_left fun k hk => h2 t k (by omega) (by have := List.mem_range.1 hk; rw [h t (by omega)]; exact this)

theorem net2_pairs (cnt : Nat → Nat) (P : Nat → Nat → List Int) (t : Nat) (ht : t ≤ 100) (h : ∀ s, s < t → cnt s ≤ 8) (h2 : ∀ s k, (P s k).length = 2) : smallR (net2 cnt P t) := by
  have e : net2 cnt P t = net2 (fun s => min (cnt s) 8) P t := net2_congr (fun s hs => by have := h s hs; show cnt s = min (cnt s) 8; omega) (fun _ _ _ _ => rfl)
  rw [e]
  exact net2_small _ P (fun s => Nat.min_le_right _ _) h2 t ht

/-- No network. -/
theorem netNone (w : World) : ∃ W, (w.alloc (.cells #[.int .i64 0, .slice none 0 0] 30)) = W ∧ W.cell? ⟨w.heap.size, 0, none⟩ = some (.int .i64 0) ∧ W.cell? ⟨w.heap.size, 1, none⟩ = some (.slice none 0 0) ∧
    W.frozen? ⟨w.heap.size, 0, none⟩ = false ∧ W.frozen? ⟨w.heap.size, 1, none⟩ = false ∧ Below w.heap.size w ((W.setCell ⟨w.heap.size, 0, none⟩ (.int .i64 0)).setCell ⟨w.heap.size, 1, none⟩ (.slice none 0 0)) := by
  have h1 := blk_new w (.cells #[.int .i64 0, .slice none 0 0] 30)
  exact ⟨_, rfl, blk_cell h1 0, blk_cell h1 1, blk_free h1 0, blk_free h1 1, (((Below.refl _ _).alloc (Nat.le_refl _) _).setCell (Nat.le_refl _) _).setCell (Nat.le_refl _) _⟩
end Go.Proofs.Ytiodolbgapjmkaa
