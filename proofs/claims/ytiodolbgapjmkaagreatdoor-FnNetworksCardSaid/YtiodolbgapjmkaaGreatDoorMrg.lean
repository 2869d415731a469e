/- Batcher's merge of two lists of wires, the program's and the reference's: the same recursion. Conditions: at most eight wires together. -/
import Derived.Test.YtiodolbgapjmkaaGreatDoorWires
import Derived.Test.YtiodolbgapjmkaaGreatDoorConcat
import Derived.Test.YtiodolbgapjmkaaGreatDoorRowApp
import Derived.Test.YtiodolbgapjmkaaGreatDoorLater
import Derived.StillTailTactics
import Derived.Deep.RegionLaw
import Derived.Deep.RegionWith
import Derived.Deep.RegionHeld3
namespace Go.Proofs.YtiodolbgapjmkaaGreatDoor
open Go.RowKit
set_option maxRecDepth 100000

theorem halfK_len (xs : List Int) (k : Nat) : (halfK 0 xs k).length = (k + 1) / 2 ∧ (halfK 1 xs k).length = k / 2 := by
  induction k with
  | zero => simp [halfK]
  | succ k ih =>
    rcases Nat.mod_two_eq_zero_or_one k with hm | hm
    · rw [halfK_hit 0 xs k hm, halfK_miss 1 xs k (by omega), List.length_append]
      simp only [List.length_cons, List.length_nil]
      omega
    · rw [halfK_hit 1 xs k hm, halfK_miss 0 xs k (by omega), List.length_append]
      simp only [List.length_cons, List.length_nil]
      omega
theorem halfI_len0 (xs : List Int) : (halfI 0 xs).length = (xs.length + 1) / 2 := (halfK_len xs _).1
theorem halfI_len1 (xs : List Int) : (halfI 1 xs).length = xs.length / 2 := (halfK_len xs _).2

/-- One comparator behind the merged halves. -/
def cmpP (v w : List Int) (i : Nat) : List Int := [min (w.getD i 0) (v.getD (i + 1) 0), max (w.getD i 0) (v.getD (i + 1) 0)]
theorem cmpP_eq {v w : List Int} {i : Nat} {x y : Int} (hx : x = w.getD i 0) (hy : y = v.getD (i + 1) 0) : cmpP v w i = [if y < x then y else x, if x < y then y else x] := by
  show [min _ _, max _ _] = _
  rw [← hx, ← hy]
  congr 1
  · split <;> omega
  · congr 1
    split <;> omega
/-- The comparators behind the merged halves. -/
def cmpW (v w : List Int) (k : Nat) : List (List Int) := (List.range k).map (cmpP v w)
theorem cmpW_succ (v w : List Int) (k : Nat) : cmpW v w (k + 1) = cmpW v w k ++ [cmpP v w k] := by simp [cmpW, List.range_succ]
theorem cmpW_len (v w : List Int) (k : Nat) : (cmpW v w k).length = k := by simp [cmpW]
/-- Batcher's merge. -/
def mrg : Nat → List Int → List Int → List (List Int)
  | 0, _, _ => []
  | f + 1, a, b => if a.length = 0 ∨ b.length = 0 then [] else if a.length = 1 ∧ b.length = 1 then [[a.getD 0 0, b.getD 0 0]] else
      mrg f (halfI 0 a) (halfI 0 b) ++ mrg f (halfI 1 a) (halfI 1 b) ++
        cmpW (halfI 0 a ++ halfI 0 b) (halfI 1 a ++ halfI 1 b) (min (halfI 1 a ++ halfI 1 b).length ((halfI 0 a ++ halfI 0 b).length - 1))
theorem mrg_len (f : Nat) : ∀ a b : List Int, a.length + b.length ≤ 8 → (mrg f a b).length + 8 ≤ 8 * 2 ^ f := by
  induction f with
  | zero => intro a b _; simp [mrg]
  | succ f ih =>
    intro a b h
    have hp : 1 ≤ 2 ^ f := Nat.one_le_two_pow
    rw [Nat.pow_succ]
    unfold mrg
    by_cases h0 : a.length = 0 ∨ b.length = 0
    · rw [if_pos h0]; simp only [List.length_nil]; omega
    · rw [if_neg h0]
      by_cases h1 : a.length = 1 ∧ b.length = 1
      · rw [if_pos h1]; simp only [List.length_cons, List.length_nil]; omega
      · rw [if_neg h1]
        have a0 := halfI_len0 a
        have a1 := halfI_len1 a
        have b0 := halfI_len0 b
        have b1 := halfI_len1 b
        have i0 := ih (halfI 0 a) (halfI 0 b) (by omega)
        have i1 := ih (halfI 1 a) (halfI 1 b) (by omega)
        rw [List.length_append, List.length_append, cmpW_len, List.length_append, List.length_append]
        omega

/-- 'return [][]int{{x, y}}': the list of one pair. -/
theorem ownR_pair (w : World) (x y : Int) : OwnR ((w.alloc (.cells #[.int .i64 x, .int .i64 y] 3)).alloc (.cells #[.slice (some ⟨w.heap.size, 0, none⟩) 2 2] 27)) w.heap.size (w.heap.size + 2)
    (.slice (some ⟨w.heap.size + 1, 0, none⟩) 1 1) [.slice (some ⟨w.heap.size, 0, none⟩) 2 2] [[x, y]] := by
  have hblk := blk_new (w.alloc (.cells #[.int .i64 x, .int .i64 y] 3)) (.cells #[.slice (some ⟨w.heap.size, 0, none⟩) 2 2] 27)
  rw [show (w.alloc (.cells #[.int .i64 x, .int .i64 y] 3)).heap.size = w.heap.size + 1 from by simp] at hblk
  refine ⟨⟨⟨rfl, .inr ⟨w.heap.size + 1, 1, _, rfl, by omega, hblk, Nat.le_refl _, by unfold maxLen; omega, rfl, rfl⟩⟩, fun k hk => ?_⟩, rfl, fun i u xs a b => ?_, .cons (by simp) .nil⟩
  · simp [Value.ownBlock] at hk
    omega
  · match i, a, b with
    | 0, a, b =>
      simp at a b
      subst a b
      exact Own.mono (Own.alloc (ownI_pair w x y) _) (Nat.le_refl _) (by omega)

/-- The blocks from 'lo' up to 'hi' are as in 'w0', and v lies in none of them. -/
def keptB (lo hi : Nat) (w0 wr : World) (v : Value) : Prop := ∀ k, lo ≤ k → k < hi → wr.heap[k]? = w0.heap[k]? ∧ v.ownBlock ≠ some k
theorem keptB.cell {lo hi : Nat} {w0 wr : World} {v : Value} (h : keptB lo hi w0 wr v) (b o : Nat) (h1 : lo ≤ b) (h2 : b < hi) : wr.cell? ⟨b, o, none⟩ = w0.cell? ⟨b, o, none⟩ := by
  have := (h b h1 h2).1
  unfold World.cell?
  simp only [this]

/-- 'out = append(out, []int{p, q})' beside other memory that stays as it is. -/
theorem wp_app_pair2 {o : Oper} {a : Act} {K : Act → World → Prop} {Q : Exit → Act → World → Prop} (s x : Operand)
    (ho : o.op = .call { callee := .builtin .append, args := #[s, x], argTypes := #[23, 23] })
    (wr : World) (p q : Int) (lo : Nat) (v : Value) (vs : List Value) (xss : List (List Int)) (l1 h1 : Nat) (w0 : World) (hR : OwnR wr lo wr.heap.size v vs xss) (hlo : lo ≤ wr.heap.size) (hKB : keptB l1 h1 w0 wr v) (hh1 : h1 ≤ wr.heap.size) (hlen : xss.length ≤ 1000000)
    (hs : a.eval s = v) (hx : a.eval x = .slice (some ⟨wr.heap.size + 1, 0, none⟩) 1 1)
    (h : ∀ g L cap w' vs', Hid (L = xss.length + 1) → OwnR w' lo w'.heap.size (.slice (some ⟨g, 0, none⟩) L cap) vs' (xss ++ [[p, q]]) → Below lo wr w' → lo ≤ w'.heap.size → keptB l1 h1 w0 w' (.slice (some ⟨g, 0, none⟩) L cap) → wr.heap.size ≤ w'.heap.size →
      K (a.put o.dst (.slice (some ⟨g, 0, none⟩) L cap)) w') :
    o.wp Tryz.prog a ((wr.alloc (.cells #[.int .i64 p, .int .i64 q] 3)).alloc (.cells #[.slice (some ⟨wr.heap.size, 0, none⟩) 2 2] 27)) K Q := by
  obtain ⟨i0, hi, hz0, hz1, hz2⟩ := info_parts Tryz.infoS
  have hR2 := (hR.alloc (.cells #[.int .i64 p, .int .i64 q] 3)).alloc (.cells #[.slice (some ⟨wr.heap.size, 0, none⟩) 2 2] 27)
  have hU : OwnI ((wr.alloc (.cells #[.int .i64 p, .int .i64 q] 3)).alloc (.cells #[.slice (some ⟨wr.heap.size, 0, none⟩) 2 2] 27)) wr.heap.size ((wr.alloc (.cells #[.int .i64 p, .int .i64 q] 3)).alloc (.cells #[.slice (some ⟨wr.heap.size, 0, none⟩) 2 2] 27)).heap.size (.slice (some ⟨wr.heap.size, 0, none⟩) 2 2) [p, q] :=
    Own.mono (Own.alloc (ownI_pair wr p q) _) (Nat.le_refl _) (by simp)
  have hblk : ((wr.alloc (.cells #[.int .i64 p, .int .i64 q] 3)).alloc (.cells #[.slice (some ⟨wr.heap.size, 0, none⟩) 2 2] 27)).heap[wr.heap.size + 1]? = some (.cells #[.slice (some ⟨wr.heap.size, 0, none⟩) 2 2] 27) := by
    have := blk_new (wr.alloc (.cells #[.int .i64 p, .int .i64 q] 3)) (.cells #[.slice (some ⟨wr.heap.size, 0, none⟩) 2 2] 27)
    rwa [show (wr.alloc (.cells #[.int .i64 p, .int .i64 q] 3)).heap.size = wr.heap.size + 1 from by simp] at this
  have hbel : Below lo wr ((wr.alloc (.cells #[.int .i64 p, .int .i64 q] 3)).alloc (.cells #[.slice (some ⟨wr.heap.size, 0, none⟩) 2 2] 27)) := ((Below.refl _ _).alloc hlo _).alloc (by simp; omega) _
  have hbw : Below wr.heap.size wr ((wr.alloc (.cells #[.int .i64 p, .int .i64 q] 3)).alloc (.cells #[.slice (some ⟨wr.heap.size, 0, none⟩) 2 2] 27)) := ((Below.refl _ _).alloc (Nat.le_refl _) _).alloc (by simp) _
  generalize ((wr.alloc (.cells #[.int .i64 p, .int .i64 q] 3)).alloc (.cells #[.slice (some ⟨wr.heap.size, 0, none⟩) 2 2] 27)) = W at *
  obtain ⟨v', w', hr, hown, hg, hlies⟩ := run_append_own2 (P := Tryz.prog) W lo 23 o.type 27 i0 (.slice none 0 0) 24 Tryz.underlying23 hi hz0 hz1 hz2 rfl v vs.length vs hR2.top.row ⟨wr.heap.size + 1, 0, none⟩ 1 1 [.slice (some ⟨wr.heap.size, 0, none⟩) 2 2] rfl
    (fun j u hj => by
      match j, hj with
      | 0, hj => simp at hj; subst hj; exact blk_cell hblk 0) (fun u hu => by simp at hu; subst hu; rfl) (by omega) (by have := hR.len; unfold maxLen; omega) (by have := hR.len; omega) (by have := hbel.size; omega)
  have ho2 : OwnR w' lo w'.heap.size v' (vs ++ [.slice (some ⟨wr.heap.size, 0, none⟩) 2 2]) (xss ++ [[p, q]]) :=
    hR2.app hlo rfl (fun i u xs a b => by
      match i, a, b with
      | 0, a, b => simp at a b; subst a b; exact hU) (.cons (by simp) .nil) hown hg
  have hsh : ∃ g cap, v' = .slice (some ⟨g, 0, none⟩) (xss.length + 1) cap := by
    rcases hown.2 with ⟨_, h0⟩ | ⟨g, cap, cur, e, _⟩
    · simp at h0
    · exact ⟨g, cap, by rw [e]; simp [hR.len]⟩
  obtain ⟨g, cap, rfl⟩ := hsh
  have hsz := hg.size
  have hbs := hbw.size
  have hfin := (h g _ cap w' _ rfl ho2 (hbel.grown hg (by have := hbel.size; omega) fun k hk => (hR2.top.row.lt k hk).1) (by have := hbel.size; omega)
    (fun k k1 k2 => by
      have hne := (hKB k k1 k2).2
      refine ⟨(hg.block k (by omega) (fun e => hne e.symm)).trans ((hbw.block k (by omega)).trans (hKB k k1 k2).1), fun e => ?_⟩
      rcases hlies with hl | hl
      · exact hne (hl.symm.trans e)
      · have := Option.some.inj (hl.symm.trans e)
        omega) (by omega))
  unfold Oper.wp
  simp [execOp, ho, resolve, invoke, builtin, hs, hx, hr, Result.andThen]
  exact hfin

/-- 'out = append(out, []int{p, q})' beside other memory that stays as it is. -/
theorem wpList_app_pair2 {ops : Array Oper} {rest : List Oper} {o : Oper} {a : Act} {Q : Exit → Act → World → Prop} (hgd : o.guard = none) (s x : Operand)
    (ho : o.op = .call { callee := .builtin .append, args := #[s, x], argTypes := #[23, 23] })
    (wr : World) (p q : Int) (lo : Nat) (v : Value) (vs : List Value) (xss : List (List Int)) (l1 h1 : Nat) (w0 : World) (hR : OwnR wr lo wr.heap.size v vs xss) (hlo : lo ≤ wr.heap.size) (hK : keptB l1 h1 w0 wr v) (hh1 : h1 ≤ wr.heap.size) (hlen : xss.length ≤ 1000000)
    (hs : a.eval s = v) (hx : a.eval x = .slice (some ⟨wr.heap.size + 1, 0, none⟩) 1 1)
    (h : ∀ g L cap w' vs', Hid (L = xss.length + 1) → OwnR w' lo w'.heap.size (.slice (some ⟨g, 0, none⟩) L cap) vs' (xss ++ [[p, q]]) → Below lo wr w' → lo ≤ w'.heap.size → keptB l1 h1 w0 w' (.slice (some ⟨g, 0, none⟩) L cap) → wr.heap.size ≤ w'.heap.size →
      wpList Tryz.prog ops Q rest (a.put o.dst (.slice (some ⟨g, 0, none⟩) L cap)) w') :
    wpList Tryz.prog ops Q (o :: rest) a ((wr.alloc (.cells #[.int .i64 p, .int .i64 q] 3)).alloc (.cells #[.slice (some ⟨wr.heap.size, 0, none⟩) 2 2] 27)) :=
  wpList_plain hgd fun _ hK2 => wp_app_pair2 s x ho wr p q lo v vs xss l1 h1 w0 hR hlo hK hh1 hlen hs hx fun g L cap w' vs' e1 e2 e3 e4 e5 e6 => hK2 _ _ (h g L cap w' vs' e1 e2 e3 e4 e5 e6)

theorem IntsV.shape {w : World} {lo hi : Nat} {v : Value} {xs : List Int} (h : IntsV w lo hi v xs) : ∃ ao n cap, v = .slice ao n cap := by
  obtain ⟨ao, b, off, cap, rfl, -⟩ := h
  exact ⟨ao, _, cap, rfl⟩

/-- The two lists that the last comparators are made of lie behind the comparators so far. -/
theorem IntsV.cellK {w : World} {lo hi : Nat} {v : Value} {xs : List Int} (h : IntsV w lo hi v xs) : ∃ ao b off cap, v = .slice ao xs.length cap ∧ (0 < xs.length → ao = some ⟨b, off, none⟩ ∧ lo ≤ b ∧ b < hi) ∧ xs.length ≤ cap ∧
    ∀ (w' : World) (u : Value), keptB lo hi w w' u → ∀ i, i < xs.length → w'.cell? ⟨b, off + i, none⟩ = some (.int .i64 (xs.getD i 0)) := by
  obtain ⟨ao, b, off, cap, rfl, hcap, hao, hc⟩ := h
  exact ⟨ao, b, off, cap, rfl, fun hp => hao (by omega), hcap, fun w' u hk i hi => (hk.cell b (off + i) (hao (by omega)).2.1 (hao (by omega)).2.2).trans (hc i hi)⟩

end Go.Proofs.YtiodolbgapjmkaaGreatDoor
