/- Batcher's merge of two lists of wires, the program's and the reference's: the same recursion. Conditions: at most eight wires together. -/
import Derived.Test.YtiodolbgapjmkaaWires
import Derived.Test.YtiodolbgapjmkaaConcat
import Derived.Test.YtiodolbgapjmkaaRowApp
import Derived.Test.YtiodolbgapjmkaaLater
import Derived.StillTailTactics
import Derived.Deep.RegionLaw
import Derived.Deep.RegionWith
import Derived.Deep.RegionHeld3
namespace Go.Proofs.Ytiodolbgapjmkaa
open Go.RowKit
set_option maxRecDepth 100000

theorem halfK_len (xs : List Int) (k : Nat) : (halfK 0 xs k).length = (k + 1) / 2 ∧ (halfK 1 xs k).length = k / 2 := by
  induction k with
  | zero => simp [halfK]
  | succ k ih =>
    rcases Nat.mod_two_eq_zero_or_one k with hm | hm
    · rw [halfK_hit 0 xs k hm, halfK_miss 1 xs k (by omega), List.length_append]
      simp only [List.length_cons, List.length_nil]
      omega
    · rw [halfK_hit 1 xs k hm, halfK_miss 0 xs k (by omega), List.length_append]
      simp only [List.length_cons, List.length_nil]
      omega
theorem halfI_len0 (xs : List Int) : (halfI 0 xs).length = (xs.length + 1) / 2 := (halfK_len xs _).1
theorem halfI_len1 (xs : List Int) : (halfI 1 xs).length = xs.length / 2 := (halfK_len xs _).2

/-- One comparator behind the merged halves. -/
def cmpP (v w : List Int) (i : Nat) : List Int := [min (w.getD i 0) (v.getD (i + 1) 0), max (w.getD i 0) (v.getD (i + 1) 0)]
theorem cmpP_eq {v w : List Int} {i : Nat} {x y : Int} (hx : x = w.getD i 0) (hy : y = v.getD (i + 1) 0) : cmpP v w i = [if y < x then y else x, if x < y then y else x] := by
  show [min _ _, max _ _] = _
  rw [← hx, ← hy]
  congr 1
  · split <;> omega
  · congr 1
    split <;> omega
/-- The comparators behind the merged halves. -/
def cmpW (v w : List Int) (k : Nat) : List (List Int) := (List.range k).map (cmpP v w)
theorem cmpW_succ (v w : List Int) (k : Nat) : cmpW v w (k + 1) = cmpW v w k ++ [cmpP v w k] := by simp [cmpW, List.range_succ]
theorem cmpW_len (v w : List Int) (k : Nat) : (cmpW v w k).length = k := by simp [cmpW]
/-- Batcher's merge. -/
def mrg : Nat → List Int → List Int → List (List Int)
  | 0, _, _ => []
  | f + 1, a, b => if a.length = 0 ∨ b.length = 0 then [] else if a.length = 1 ∧ b.length = 1 then [[a.getD 0 0, b.getD 0 0]] else
      mrg f (halfI 0 a) (halfI 0 b) ++ mrg f (halfI 1 a) (halfI 1 b) ++
        cmpW (halfI 0 a ++ halfI 0 b) (halfI 1 a ++ halfI 1 b) (min (halfI 1 a ++ halfI 1 b).length ((halfI 0 a ++ halfI 0 b).length - 1))
theorem mrg_len (f : Nat) : ∀ a b : List Int, a.length + b.length ≤ 8 → (mrg f a b).length + 8 ≤ 8 * 2 ^ f := by
  induction f with
  | zero => intro a b _; simp [mrg]
  | succ f ih =>
    intro a b h
    have hp : 1 ≤ 2 ^ f := Nat.one_le_two_pow
    rw [Nat.pow_succ]
    unfold mrg
    by_cases h0 : a.length = 0 ∨ b.length = 0
    · rw [if_pos h0]; simp only [List.length_nil]; omega
    · rw [if_neg h0]
      by_cases h1 : a.length = 1 ∧ b.length = 1
      · rw [if_pos h1]; simp only [List.length_cons, List.length_nil]; omega
      · rw [if_neg h1]
        have a0 := halfI_len0 a
        have a1 := halfI_len1 a
        have b0 := halfI_len0 b
        have b1 := halfI_len1 b
        have i0 := ih (halfI 0 a) (halfI 0 b) (by omega)
        have i1 := ih (halfI 1 a) (halfI 1 b) (by omega)
        rw [List.length_append, List.length_append, cmpW_len, List.length_append, List.length_append]
        omega

/-- 'return [][]int{{x, y}}': the list of one pair. -/
theorem ownR_pair (w : World) (x y : Int) : OwnR ((w.alloc (.cells #[.int .i64 x, .int .i64 y] 3)).alloc (.cells #[.slice (some ⟨w.heap.size, 0, none⟩) 2 2] 22)) w.heap.size (w.heap.size + 2)
    (.slice (some ⟨w.heap.size + 1, 0, none⟩) 1 1) [.slice (some ⟨w.heap.size, 0, none⟩) 2 2] [[x, y]] := by
  have hblk := blk_new (w.alloc (.cells #[.int .i64 x, .int .i64 y] 3)) (.cells #[.slice (some ⟨w.heap.size, 0, none⟩) 2 2] 22)
  rw [show (w.alloc (.cells #[.int .i64 x, .int .i64 y] 3)).heap.size = w.heap.size + 1 from by simp] at hblk
  refine ⟨⟨⟨rfl, .inr ⟨w.heap.size + 1, 1, _, rfl, by omega, hblk, Nat.le_refl _, by unfold maxLen; omega, rfl, rfl⟩⟩, fun k hk => ?_⟩, rfl, fun i u xs a b => ?_, .cons (by simp) .nil⟩
  · simp [Value.ownBlock] at hk
    omega
  · match i, a, b with
    | 0, a, b =>
      simp at a b
      subst a b
      exact Own.mono (Own.alloc (ownI_pair w x y) _) (Nat.le_refl _) (by omega)

/-- The blocks from 'lo' up to 'hi' are as in 'w0', and v lies in none of them. -/
def keptB (lo hi : Nat) (w0 wr : World) (v : Value) : Prop := ∀ k, lo ≤ k → k < hi → wr.heap[k]? = w0.heap[k]? ∧ v.ownBlock ≠ some k
theorem keptB.cell {lo hi : Nat} {w0 wr : World} {v : Value} (h : keptB lo hi w0 wr v) (b o : Nat) (h1 : lo ≤ b) (h2 : b < hi) : wr.cell? ⟨b, o, none⟩ = w0.cell? ⟨b, o, none⟩ := by
  have := (h b h1 h2).1
  unfold World.cell?
  simp only [this]

/-- 'out = append(out, []int{p, q})' beside other memory that stays as it is. -/
theorem wp_app_pair2 {o : Oper} {a : Act} {K : Act → World → Prop} {Q : Exit → Act → World → Prop} (s x : Operand)
    (ho : o.op = .call { callee := .builtin .append, args := #[s, x], argTypes := #[28, 28] })
    (wr : World) (p q : Int) (lo : Nat) (v : Value) (vs : List Value) (xss : List (List Int)) (l1 h1 : Nat) (w0 : World) (hR : OwnR wr lo wr.heap.size v vs xss) (hlo : lo ≤ wr.heap.size) (hKB : keptB l1 h1 w0 wr v) (hh1 : h1 ≤ wr.heap.size) (hlen : xss.length ≤ 1000000)
    (hs : a.eval s = v) (hx : a.eval x = .slice (some ⟨wr.heap.size + 1, 0, none⟩) 1 1)
    (h : ∀ g L cap w' vs', Hid (L = xss.length + 1) → OwnR w' lo w'.heap.size (.slice (some ⟨g, 0, none⟩) L cap) vs' (xss ++ [[p, q]]) → Below lo wr w' → lo ≤ w'.heap.size → keptB l1 h1 w0 w' (.slice (some ⟨g, 0, none⟩) L cap) → wr.heap.size ≤ w'.heap.size →
      K (a.put o.dst (.slice (some ⟨g, 0, none⟩) L cap)) w') :
    o.wp Try.prog a ((wr.alloc (.cells #[.int .i64 p, .int .i64 q] 3)).alloc (.cells #[.slice (some ⟨wr.heap.size, 0, none⟩) 2 2] 22)) K Q := by
  obtain ⟨i0, hi, hz0, hz1, hz2⟩ := info_parts Try.infoS
  have hR2 := (hR.alloc (.cells #[.int .i64 p, .int .i64 q] 3)).alloc (.cells #[.slice (some ⟨wr.heap.size, 0, none⟩) 2 2] 22)
  have hU : OwnI ((wr.alloc (.cells #[.int .i64 p, .int .i64 q] 3)).alloc (.cells #[.slice (some ⟨wr.heap.size, 0, none⟩) 2 2] 22)) wr.heap.size ((wr.alloc (.cells #[.int .i64 p, .int .i64 q] 3)).alloc (.cells #[.slice (some ⟨wr.heap.size, 0, none⟩) 2 2] 22)).heap.size (.slice (some ⟨wr.heap.size, 0, none⟩) 2 2) [p, q] :=
    Own.mono (Own.alloc (ownI_pair wr p q) _) (Nat.le_refl _) (by simp)
  have hblk : ((wr.alloc (.cells #[.int .i64 p, .int .i64 q] 3)).alloc (.cells #[.slice (some ⟨wr.heap.size, 0, none⟩) 2 2] 22)).heap[wr.heap.size + 1]? = some (.cells #[.slice (some ⟨wr.heap.size, 0, none⟩) 2 2] 22) := by
    have := blk_new (wr.alloc (.cells #[.int .i64 p, .int .i64 q] 3)) (.cells #[.slice (some ⟨wr.heap.size, 0, none⟩) 2 2] 22)
    rwa [show (wr.alloc (.cells #[.int .i64 p, .int .i64 q] 3)).heap.size = wr.heap.size + 1 from by simp] at this
  have hbel : Below lo wr ((wr.alloc (.cells #[.int .i64 p, .int .i64 q] 3)).alloc (.cells #[.slice (some ⟨wr.heap.size, 0, none⟩) 2 2] 22)) := ((Below.refl _ _).alloc hlo _).alloc (by simp; omega) _
  have hbw : Below wr.heap.size wr ((wr.alloc (.cells #[.int .i64 p, .int .i64 q] 3)).alloc (.cells #[.slice (some ⟨wr.heap.size, 0, none⟩) 2 2] 22)) := ((Below.refl _ _).alloc (Nat.le_refl _) _).alloc (by simp) _
  generalize ((wr.alloc (.cells #[.int .i64 p, .int .i64 q] 3)).alloc (.cells #[.slice (some ⟨wr.heap.size, 0, none⟩) 2 2] 22)) = W at *
  obtain ⟨v', w', hr, hown, hg, hlies⟩ := run_append_own2 (P := Try.prog) W lo 28 o.type 22 i0 (.slice none 0 0) 24 Try.underlying28 hi hz0 hz1 hz2 rfl v vs.length vs hR2.top.row ⟨wr.heap.size + 1, 0, none⟩ 1 1 [.slice (some ⟨wr.heap.size, 0, none⟩) 2 2] rfl
    (fun j u hj => by
      match j, hj with
      | 0, hj => simp at hj; subst hj; exact blk_cell hblk 0) (fun u hu => by simp at hu; subst hu; rfl) (by omega) (by have := hR.len; unfold maxLen; omega) (by have := hR.len; omega) (by have := hbel.size; omega)
  have ho2 : OwnR w' lo w'.heap.size v' (vs ++ [.slice (some ⟨wr.heap.size, 0, none⟩) 2 2]) (xss ++ [[p, q]]) :=
    hR2.app hlo rfl (fun i u xs a b => by
      match i, a, b with
      | 0, a, b => simp at a b; subst a b; exact hU) (.cons (by simp) .nil) hown hg
  have hsh : ∃ g cap, v' = .slice (some ⟨g, 0, none⟩) (xss.length + 1) cap := by
    rcases hown.2 with ⟨_, h0⟩ | ⟨g, cap, cur, e, _⟩
    · simp at h0
    · exact ⟨g, cap, by rw [e]; simp [hR.len]⟩
  obtain ⟨g, cap, rfl⟩ := hsh
  have hsz := hg.size
  have hbs := hbw.size
  have hfin := (h g _ cap w' _ rfl ho2 (hbel.grown hg (by have := hbel.size; omega) fun k hk => (hR2.top.row.lt k hk).1) (by have := hbel.size; omega)
    (fun k k1 k2 => by
      have hne := (hKB k k1 k2).2
      refine ⟨(hg.block k (by omega) (fun e => hne e.symm)).trans ((hbw.block k (by omega)).trans (hKB k k1 k2).1), fun e => ?_⟩
      rcases hlies with hl | hl
      · exact hne (hl.symm.trans e)
      · have := Option.some.inj (hl.symm.trans e)
        omega) (by omega))
  unfold Oper.wp
  simp [execOp, ho, resolve, invoke, builtin, hs, hx, hr, Result.andThen]
  exact hfin

/-- 'out = append(out, []int{p, q})' beside other memory that stays as it is. -/
theorem wpList_app_pair2 {ops : Array Oper} {rest : List Oper} {o : Oper} {a : Act} {Q : Exit → Act → World → Prop} (hgd : o.guard = none) (s x : Operand)
    (ho : o.op = .call { callee := .builtin .append, args := #[s, x], argTypes := #[28, 28] })
    (wr : World) (p q : Int) (lo : Nat) (v : Value) (vs : List Value) (xss : List (List Int)) (l1 h1 : Nat) (w0 : World) (hR : OwnR wr lo wr.heap.size v vs xss) (hlo : lo ≤ wr.heap.size) (hK : keptB l1 h1 w0 wr v) (hh1 : h1 ≤ wr.heap.size) (hlen : xss.length ≤ 1000000)
    (hs : a.eval s = v) (hx : a.eval x = .slice (some ⟨wr.heap.size + 1, 0, none⟩) 1 1)
    (h : ∀ g L cap w' vs', Hid (L = xss.length + 1) → OwnR w' lo w'.heap.size (.slice (some ⟨g, 0, none⟩) L cap) vs' (xss ++ [[p, q]]) → Below lo wr w' → lo ≤ w'.heap.size → keptB l1 h1 w0 w' (.slice (some ⟨g, 0, none⟩) L cap) → wr.heap.size ≤ w'.heap.size →
      wpList Try.prog ops Q rest (a.put o.dst (.slice (some ⟨g, 0, none⟩) L cap)) w') :
    wpList Try.prog ops Q (o :: rest) a ((wr.alloc (.cells #[.int .i64 p, .int .i64 q] 3)).alloc (.cells #[.slice (some ⟨wr.heap.size, 0, none⟩) 2 2] 22)) :=
  wpList_plain hgd fun _ hK2 => wp_app_pair2 s x ho wr p q lo v vs xss l1 h1 w0 hR hlo hK hh1 hlen hs hx fun g L cap w' vs' e1 e2 e3 e4 e5 e6 => hK2 _ _ (h g L cap w' vs' e1 e2 e3 e4 e5 e6)

/-- 'slices.Concat(u, v)'. -/
theorem concat2_c (lo hi : Nat) (u v : Value) (xs ys : List Int) (w : World) (hx : IntsV w lo hi u xs) (hy : IntsV w lo hi v ys) (hh : hi ≤ w.heap.size) (hl : xs.length ≤ 1000) (hl2 : ys.length ≤ 1000) :
    Calls Try.prog 85 #[.slice (some ⟨w.heap.size, 0, none⟩) 2 2] (w.alloc (.cells #[u, v] 22)) fun e w' => ∃ r, e = .returned r ∧ OwnI w' w.heap.size w'.heap.size r (xs ++ ys) ∧ Below w.heap.size w w' := by
  have hb : Below w.heap.size w (w.alloc (.cells #[u, v] 22)) := (Below.refl _ _).alloc (Nat.le_refl _) _
  have hk := blk_new w (.cells #[u, v] 22)
  refine (Concat_c lo hi w.heap.size u v xs ys _ (hx.below hb hh) (hy.below hb hh) (by simp; omega) (by simp) (blk_cell hk 0) (blk_cell hk 1) hl hl2).mono ?_
  rintro e w' ⟨r, rfl, o, b⟩
  exact ⟨r, rfl, Own.mono o (by simp) (Nat.le_refl _), hb.trans (b.mono (by simp))⟩

theorem IntsV.shape {w : World} {lo hi : Nat} {v : Value} {xs : List Int} (h : IntsV w lo hi v xs) : ∃ ao n cap, v = .slice ao n cap := by
  obtain ⟨ao, b, off, cap, rfl, -⟩ := h
  exact ⟨ao, _, cap, rfl⟩

/-- The two lists that the last comparators are made of lie behind the comparators so far. -/
theorem IntsV.cellK {w : World} {lo hi : Nat} {v : Value} {xs : List Int} (h : IntsV w lo hi v xs) : ∃ ao b off cap, v = .slice ao xs.length cap ∧ (0 < xs.length → ao = some ⟨b, off, none⟩ ∧ lo ≤ b ∧ b < hi) ∧ xs.length ≤ cap ∧
    ∀ (w' : World) (u : Value), keptB lo hi w w' u → ∀ i, i < xs.length → w'.cell? ⟨b, off + i, none⟩ = some (.int .i64 (xs.getD i 0)) := by
  obtain ⟨ao, b, off, cap, rfl, hcap, hao, hc⟩ := h
  exact ⟨ao, b, off, cap, rfl, fun hp => hao (by omega), hcap, fun w' u hk i hi => (hk.cell b (off + i) (hao (by omega)).2.1 (hao (by omega)).2.2).trans (hc i hi)⟩

set_option maxHeartbeats 4000000 in
theorem oddEven_c (f : Nat) : ∀ (a b : List Int) (lo hi : Nat) (u v : Value) (w : World), a.length + b.length ≤ f → f ≤ 8 → IntsV w lo hi u a → IntsV w lo hi v b → hi ≤ w.heap.size →
    Calls Try.prog 108 #[u, v] w (RowC w (mrg f a b)) := by
  induction f with
  | zero =>
    intro a b lo hi u v w hf h8 hu hv hh
    obtain ⟨ao, g, off, cap, rfl, hcap, hao, hc⟩ := hu
    obtain ⟨ao2, g2, off2, cap2, rfl, hcap2, hao2, hc2⟩ := hv
    have hl : a.length = 0 := by omega
    rw [hl] at *
    clear hao hao2 hc hc2
    go_enter Try.func108, Try.ntmps108
    go_wp2
    go_ret
    exact ⟨_, [], rfl, OwnR.nil _ _ _, Below.refl _ _⟩
  | succ f ih =>
    intro a b lo hi u v w hf h8 hu hv hh
    obtain ⟨ao, g, off, cap, rfl, hcap, hao, hc⟩ := hu
    obtain ⟨ao2, g2, off2, cap2, rfl, hcap2, hao2, hc2⟩ := hv
    obtain ⟨la, hla⟩ : ∃ la, la = a.length := ⟨_, rfl⟩
    obtain ⟨lb, hlb⟩ : ∃ lb, lb = b.length := ⟨_, rfl⟩
    have IH := Lib.hid ih
    have HC := Lib.hid hc
    have HC2 := Lib.hid hc2
    have HAO := Lib.hid hao
    have HAO2 := Lib.hid hao2
    clear ih hc hc2 hao hao2
    by_cases h0 : la = 0 ∨ lb = 0
    · rw [show mrg (f + 1) a b = [] from by unfold mrg; rw [if_pos (by rw [← hla, ← hlb]; exact h0)], ← hla, ← hlb]
      clear hla hlb HAO HAO2 HC HC2
      by_cases h00 : la = 0
      · subst h00
        go_enter Try.func108, Try.ntmps108
        go_wp2
        go_ret
        exact ⟨_, [], rfl, OwnR.nil _ _ _, Below.refl _ _⟩
      · obtain rfl : lb = 0 := by omega
        have hne : ((la : Int) == 0) = false := by rw [beq_eq_false_iff_ne]; omega
        go_enter Try.func108, Try.ntmps108
        go_wp2
        go_ret
        exact ⟨_, [], rfl, OwnR.nil _ _ _, Below.refl _ _⟩
    · have hne : ((la : Int) == 0) = false := by rw [beq_eq_false_iff_ne]; omega
      have hne2 : ((lb : Int) == 0) = false := by rw [beq_eq_false_iff_ne]; omega
      by_cases h1 : la = 1 ∧ lb = 1
      · obtain ⟨rfl, rfl⟩ := h1
        obtain ⟨rfl, q1, q2⟩ := HAO.out (by omega)
        obtain ⟨rfl, q3, q4⟩ := HAO2.out (by omega)
        obtain ⟨x, hx⟩ : ∃ x, x = a.getD 0 0 := ⟨_, rfl⟩
        obtain ⟨y, hy⟩ : ∃ y, y = b.getD 0 0 := ⟨_, rfl⟩
        rw [show mrg (f + 1) a b = [[x, y]] from by unfold mrg; rw [if_neg (by omega), if_pos (by omega), hx, hy], ← hla, ← hlb]
        have c1 : w.cell? ⟨g, off, none⟩ = some (.int .i64 x) := by rw [hx]; exact HC.out 0 (by omega)
        have c2 : w.cell? ⟨g2, off2, none⟩ = some (.int .i64 y) := by rw [hy]; exact HC2.out 0 (by omega)
        clear hla hlb hx hy
        go_enter Try.func108, Try.ntmps108
        go_wp2_with fail
        go_still_tail 6, (by kernel_rfl)
        change wpList _ _ _ _ _ w.drew
        have hsz : w.drew.heap.size = w.heap.size := rfl
        have hb2 : Below w.heap.size w w.drew := (Below.refl _ _).drew
        have hp := ownR_pair w.drew x y
        generalize w.drew = w2 at *
        rw [hsz] at hp
        have HP := Lib.hid hp
        have HB2 := Lib.hid hb2
        clear hp hb2
        go_wp2
        go_ret
        exact ⟨_, _, rfl, HP.out.mono (Nat.le_refl _) (by simp; omega), (HB2.out.alloc (by omega) _).alloc (by simp; omega) _⟩
      · have HU : Hid (IntsV w lo hi (.slice ao la cap) a) := ⟨ao, g, off, cap, by rw [hla], hcap, HAO.out, HC.out⟩
        have HV : Hid (IntsV w lo hi (.slice ao2 lb cap2) b) := ⟨ao2, g2, off2, cap2, by rw [hlb], hcap2, HAO2.out, HC2.out⟩
        have e0 := halfI_len0 a
        have e1 := halfI_len1 a
        have e2 := halfI_len0 b
        have e3 := halfI_len1 b
        obtain ⟨a0, ha0⟩ : ∃ x, x = halfI 0 a := ⟨_, rfl⟩
        obtain ⟨a1, ha1⟩ : ∃ x, x = halfI 1 a := ⟨_, rfl⟩
        obtain ⟨b0, hb0⟩ : ∃ x, x = halfI 0 b := ⟨_, rfl⟩
        obtain ⟨b1, hb1⟩ : ∃ x, x = halfI 1 b := ⟨_, rfl⟩
        obtain ⟨lw, hlw⟩ : ∃ x, x = (a1 ++ b1).length := ⟨_, rfl⟩
        obtain ⟨lv, hlv⟩ : ∃ x, x = (a0 ++ b0).length := ⟨_, rfl⟩
        rw [show mrg (f + 1) a b = mrg f a0 b0 ++ mrg f a1 b1 ++ cmpW (a0 ++ b0) (a1 ++ b1) (min lw (lv - 1)) from by
          show (if a.length = 0 ∨ b.length = 0 then _ else _) = _
          rw [if_neg (by omega), if_neg (by omega), ← ha0, ← ha1, ← hb0, ← hb1, ← hlw, ← hlv]]
        have h256 : 2 ^ f ≤ 2 ^ 8 := Nat.pow_le_pow_right (by omega) (by omega)
        rw [← ha0] at e0
        rw [← ha1] at e1
        rw [← hb0] at e2
        rw [← hb1] at e3
        have m0 := mrg_len f a0 b0 (by omega)
        have m1 := mrg_len f a1 b1 (by omega)
        have hlv2 : lv = a0.length + b0.length := by rw [hlv, List.length_append]
        have hlw2 : lw = a1.length + b1.length := by rw [hlw, List.length_append]
        have hcallA : Calls Try.prog 178 #[.slice ao la cap] w fun e w' => ∃ u0 u1, e = .returned (.tuple #[u0, u1]) ∧ OwnI w' w.heap.size w'.heap.size u0 a0 ∧ OwnI w' w.heap.size w'.heap.size u1 a1 ∧ Below w.heap.size w w' := by
          rw [ha0, ha1]; exact halves_c lo hi _ a w HU.out hh (by omega)
        have hcallB : ∀ w1, Below w.heap.size w w1 → Calls Try.prog 178 #[.slice ao2 lb cap2] w1 fun e w' => ∃ u0 u1, e = .returned (.tuple #[u0, u1]) ∧ OwnI w' w1.heap.size w'.heap.size u0 b0 ∧ OwnI w' w1.heap.size w'.heap.size u1 b1 ∧ Below w1.heap.size w1 w' := by
          intro w1 hb
          rw [hb0, hb1]
          exact halves_c lo hi _ b w1 (HV.out.below hb hh) (by have := hb.size; omega) (by omega)
        have hne3 : ((la : Int) == 1) = true → ((lb : Int) == 1) = false := by
          intro h
          rw [beq_iff_eq] at h
          rw [beq_eq_false_iff_ne]
          omega
        have CA := Lib.hid hcallA
        have CB := Lib.hid hcallB
        have HLW := Lib.hid hlw
        have HLV := Lib.hid hlv
        have hla8 : la + lb ≤ 8 := by omega
        have hvpos : 0 < lv := by omega
        have hlv8 : lv ≤ 8 := by omega
        have hlw8 : lw ≤ 8 := by omega
        have hs1 : a0.length + b0.length ≤ f := by omega
        have hs2 : a1.length + b1.length ≤ f := by omega
        have hs3 : a0.length ≤ 8 ∧ a1.length ≤ 8 ∧ b0.length ≤ 8 ∧ b1.length ≤ 8 := by omega
        obtain ⟨RES, hRES⟩ : ∃ x, x = mrg f a0 b0 ++ mrg f a1 b1 ++ cmpW (a0 ++ b0) (a1 ++ b1) (min lw (lv - 1)) := ⟨_, rfl⟩
        rw [← hRES]
        have HRES := Lib.hid hRES
        have HLM : Hid ((mrg f a0 b0).length + (mrg f a1 b1).length ≤ 5000) := by show _ ≤ _; omega
        have HS : Hid (a0.length + b0.length ≤ f ∧ a1.length + b1.length ≤ f ∧ a0.length ≤ 8 ∧ a1.length ≤ 8 ∧ b0.length ≤ 8 ∧ b1.length ≤ 8) := ⟨hs1, hs2, hs3⟩
        rw [← hla, ← hlb]
        clear m0 m1 h256 hlv2 hlw2 hs1 hs2 hs3 hcap hcap2
        clear hRES hcallA hcallB ha0 ha1 hb0 hb1 hlw hlv HAO HAO2 HC HC2 HU HV hla hlb e0 e1 e2 e3
        have hfirst : ((la : Int) == 1) = false ∨ (((la : Int) == 1) = true ∧ ((lb : Int) == 1) = false) := by
          cases h : ((la : Int) == 1)
          · exact .inl rfl
          · exact .inr ⟨rfl, hne3 h⟩
        clear hne3
        rcases hfirst with hx1 | ⟨hx1, hx2⟩
        all_goals
          go_enter Try.func108, Try.ntmps108
          go_wp2_with fail
          refine CA.out.mono ?_
          rintro e w1 ⟨u0, u1, rfl, p0, p1, q1⟩
          obtain ⟨x0, n0, y0, rfl⟩ := p0.ints.shape
          obtain ⟨x1, n1, y1, rfl⟩ := p1.ints.shape
          have P0 := Lib.hid p0.ints
          have P1 := Lib.hid p1.ints
          have Q1 := Lib.hid q1
          have z1 := q1.size
          clear p0 p1
          go_wp2_with fail
          refine (CB.out w1 q1).mono ?_
          rintro e w2 ⟨v0, v1, rfl, p2, p3, q2⟩
          obtain ⟨x2, n2, y2, rfl⟩ := p2.ints.shape
          obtain ⟨x3, n3, y3, rfl⟩ := p3.ints.shape
          have P2 := Lib.hid (p2.ints.mono (Nat.zero_le _) (Nat.le_refl _))
          have P3 := Lib.hid (p3.ints.mono (Nat.zero_le _) (Nat.le_refl _))
          have z2 := q2.size
          have P0' := Lib.hid ((P0.out.below q2 (Nat.le_refl _)).mono (Nat.zero_le _) z2)
          have P1' := Lib.hid ((P1.out.below q2 (Nat.le_refl _)).mono (Nat.zero_le _) z2)
          have Q2 : Hid (Below w.heap.size w w2) := q1.trans (q2.mono z1)
          clear P0 P1 p2 p3 q1 q2 Q1
          go_wp2_with fail
          refine (IH.out a0 b0 0 w2.heap.size _ _ w2 HS.out.1 (by omega) P0'.out P2.out (Nat.le_refl _)).mono ?_
          rintro e w3 ⟨r0, rs0, rfl, o0, q3⟩
          have O0 := Lib.hid o0
          have z3 := q3.size
          have P1b := Lib.hid ((P1'.out.below q3 (Nat.le_refl _)).mono (Nat.zero_le _) z3)
          have P3b := Lib.hid ((P3.out.below q3 (Nat.le_refl _)).mono (Nat.zero_le _) z3)
          have P0b := Lib.hid ((P0'.out.below q3 (Nat.le_refl _)))
          have P1d := Lib.hid ((P1'.out.below q3 (Nat.le_refl _)))
          have P3d := Lib.hid ((P3.out.below q3 (Nat.le_refl _)))
          have P2b := Lib.hid ((P2.out.below q3 (Nat.le_refl _)))
          have Q3 : Hid (Below w.heap.size w w3) := Q2.out.trans (q3.mono (by omega))
          clear o0 q3 P0' P1' P2 P3 Q2
          go_wp2_with fail
          refine (IH.out a1 b1 0 w3.heap.size _ _ w3 HS.out.2.1 (by omega) P1b.out P3b.out (Nat.le_refl _)).mono ?_
          rintro e w4 ⟨r1, rs1, rfl, o1, q4⟩
          have O1 := Lib.hid o1
          have O0' := Lib.hid (O0.out.later q4)
          have z4 := q4.size
          have P0c := Lib.hid (P0b.out.below q4 z3)
          have P2c := Lib.hid (P2b.out.below q4 z3)
          have P1c := Lib.hid (P1d.out.below q4 z3)
          have P3c := Lib.hid (P3d.out.below q4 z3)
          have Q4 : Hid (Below w.heap.size w w4) := Q3.out.trans (q4.mono (by omega))
          have HL5 : Hid ((mrg f a0 b0).length + (mrg f a1 b1).length ≤ 1000000) := by show _ ≤ _; have := HLM.out; omega
          clear o1 q4 O0 P1b P3b P0b P2b P1d P3d Q3
          go_wp2_with (at_builtin; refine wpList_app_rows rfl (.tmp 51) (.tmp 54) rfl w4 w2.heap.size w3.heap.size r0 r1 rs0 rs1 _ _ O0'.out O1.out z3 z4 HL5.out rfl rfl ?_; intro ao5 L5 cap5 w5 vs5 hL5 o5 q5 z5; have O5 := Lib.hid o5; have P0e := Lib.hid (P0c.out.below q5 (Nat.le_refl _)); have P1e := Lib.hid (P1c.out.below q5 (Nat.le_refl _)); have P2e := Lib.hid (P2c.out.below q5 (Nat.le_refl _)); have P3e := Lib.hid (P3c.out.below q5 (Nat.le_refl _)); have Q5 : Hid (Below w.heap.size w w5) := Q4.out.trans (q5.mono (by omega)); clear o5 q5 P0c P1c P2c P3c Q4 O0' O1)
          refine (concat2_c 0 w2.heap.size _ _ a0 b0 w5 P0e.out P2e.out z5 (by have := HS.out; omega) (by have := HS.out; omega)).mono ?_
          rintro e w6 ⟨V, rfl, o6, q6⟩
          have z6 := q6.size
          have P1f := Lib.hid (P1e.out.below q6 z5)
          have P3f := Lib.hid (P3e.out.below q6 z5)
          have O6 := Lib.hid o6.ints
          have O5f := Lib.hid (O5.out.below q6 (Nat.le_refl _))
          have Q6 : Hid (Below w.heap.size w w6) := Q5.out.trans (q6.mono (by omega))
          clear o6 q6 P0e P1e P2e P3e Q5 O5
          go_wp2_with fail
          refine (concat2_c 0 w2.heap.size _ _ a1 b1 w6 P1f.out P3f.out (by omega) (by have := HS.out; omega) (by have := HS.out; omega)).mono ?_
          rintro e w7 ⟨W, rfl, o7, q7⟩
          have z7 := q7.size
          obtain ⟨aoV, bV, offV, capV, eV, hV1, hV2, hV3⟩ := ((O6.out.below q7 (Nat.le_refl _)).mono (Nat.le_refl _) z7).cellK
          obtain ⟨aoW, bW, offW, capW, eW, hW1, hW2, hW3⟩ := (o7.ints.mono z6 (Nat.le_refl _)).cellK
          have O7 := Lib.hid (O5f.out.below q7 z6)
          have Q7 : Hid (Below w.heap.size w w7) := Q6.out.trans (q7.mono (by omega))
          have HV3 := Lib.hid hV3
          have HW3 := Lib.hid hW3
          have hk7 : keptB w5.heap.size w7.heap.size w7 w7 (.slice ao5 L5 cap5) := fun k k1 k2 => ⟨rfl, fun e => by have := O7.out.top.lt k e; omega⟩
          have HK7 := Lib.hid hk7
          rw [← HLV.out] at eV hV1 hV2
          rw [← HLW.out] at eW hW1 hW2
          subst eV eW
          obtain ⟨hV1, hVlo, hVhi⟩ := hV1 (by omega)
          subst hV1
          obtain ⟨m, hm⟩ : ∃ m, m = min lw (lv - 1) := ⟨_, rfl⟩
          rw [← hm] at HRES
          have HB7 : Hid ((mrg f a0 b0 ++ mrg f a1 b1).length ≤ 5000) := by show _ ≤ _; rw [List.length_append]; exact HLM.out
          obtain ⟨base, hbase⟩ : ∃ base, base = mrg f a0 b0 ++ mrg f a1 b1 := ⟨_, rfl⟩
          rw [← hbase] at HB7 O7 HRES
          obtain ⟨VV, hVV⟩ : ∃ VV, VV = a0 ++ b0 := ⟨_, rfl⟩
          obtain ⟨WW, hWW⟩ : ∃ WW, WW = a1 ++ b1 := ⟨_, rfl⟩
          rw [← hVV] at HV3 HLV
          rw [← hWW] at HW3 HLW
          rw [← hVV, ← hWW] at HRES
          clear hV3 hW3 o7 q7 hk7 hbase hVV hWW O6 Q6 O5f P1f P3f
          go_wp2_with fail
          go_loopw [9, 12] (fun v i wr => ∃ k : Nat, k ≤ m ∧ i = .int .i64 k ∧ ∃ vs, OwnR wr w2.heap.size wr.heap.size v vs (base ++ cmpW VV WW k) ∧ Below w.heap.size w wr ∧ keptB w5.heap.size w7.heap.size w7 wr v ∧ w7.heap.size ≤ wr.heap.size) (fun _ i _ => m - (intOf i).toNat)
          case atStart => exact ⟨0, by omega, rfl, vs5, by simpa [cmpW] using O7.out.mono (Nat.le_refl _) (by omega), Q7.out, HK7.out, Nat.le_refl _⟩
          case round =>
            obtain ⟨k, hk, rfl, vs, hR, hB, hK, hzr⟩ := hrel
            have HR := Lib.hid hR
            have HB := Lib.hid hB
            have HK := Lib.hid hK
            have HL : Hid ((base ++ cmpW VV WW k).length ≤ 1000000) := by show _ ≤ _; rw [List.length_append, cmpW_len]; have := HB7.out; omega
            by_cases hlt : k < m
            · have hi1 : (k : Int) < (lw : Int) := by omega
              have hi2 : (k : Int) + 1 < (lv : Int) := by omega
              have hwpos : 0 < lw := by omega
              obtain ⟨hW1', hWlo, hWhi⟩ := hW1 hwpos
              subst hW1'
              obtain ⟨x, hx⟩ : ∃ x, x = WW.getD k 0 := ⟨_, rfl⟩
              obtain ⟨y, hy⟩ : ∃ y, y = VV.getD (k + 1) 0 := ⟨_, rfl⟩
              have c1 : wr.cell? ⟨bW, offW + k, none⟩ = some (.int .i64 x) := by rw [hx]; exact HW3.out wr _ HK.out k (by rw [← HLW.out]; omega)
              have c2 : wr.cell? ⟨bV, offV + (k + 1), none⟩ = some (.int .i64 y) := by rw [hy]; exact HV3.out wr _ HK.out (k + 1) (by rw [← HLV.out]; omega)
              have HXY : Hid (cmpP VV WW k = [if y < x then y else x, if x < y then y else x]) := cmpP_eq hx hy
              clear hR hB hK hx hy
              have HRd := Lib.hid (HR.out.kept (w' := wr.drew) fun _ _ _ _ => rfl)
              have hz2 : w2.heap.size ≤ wr.drew.heap.size := by show _ ≤ wr.heap.size; omega
              have hz7 : w7.heap.size ≤ wr.drew.heap.size := hzr
              have h0k : (0 : Int) ≤ (k : Int) + 1 := by omega
              have htn : ((k : Int) + 1).toNat = k + 1 := by omega
              have hwr : IntKind.i64.wrap ((k : Int) + 1) = (k : Int) + 1 := IntWalk.i64_in _ (by omega)
              go_wp2_with fail
              have hbW : bW < wr.heap.size := by omega
              have hbV : bV < wr.heap.size := by omega
              have hS : ∀ (X Y : Obj), (((wr.drew.alloc X).alloc Y).cell? ⟨bW, offW + k, none⟩ = some (.int .i64 x) ∧ ((wr.drew.alloc X).alloc Y).cell? ⟨bV, offV + (k + 1), none⟩ = some (.int .i64 y)) ∧
                  ((wr.drew.alloc X).cell? ⟨bW, offW + k, none⟩ = some (.int .i64 x) ∧ (wr.drew.alloc X).cell? ⟨bV, offV + (k + 1), none⟩ = some (.int .i64 y)) := fun X Y => by
                have hb1 : Below wr.heap.size wr (wr.drew.alloc X) := (Below.refl _ _).drew.alloc (Nat.le_refl _) _
                have hb2 : Below wr.heap.size wr ((wr.drew.alloc X).alloc Y) := hb1.alloc (by simp) _
                exact ⟨⟨(hb2.cell (p := ⟨bW, offW + k, none⟩) hbW).trans c1, (hb2.cell (p := ⟨bV, offV + (k + 1), none⟩) hbV).trans c2⟩, (hb1.cell (p := ⟨bW, offW + k, none⟩) hbW).trans c1, (hb1.cell (p := ⟨bV, offV + (k + 1), none⟩) hbV).trans c2⟩
              have HSS := Lib.hid hS
              clear hS
              go_region_held3 (fun W' => W'.cell? ⟨bW, offW + k, none⟩ = some (.int .i64 x) ∧ W'.cell? ⟨bV, offV + (k + 1), none⟩ = some (.int .i64 y)) (first | exact ⟨c1, c2⟩ | exact (HSS.out _ default).2 | exact (HSS.out _ _).1 | exact ⟨cc1, cc2⟩) (first | (refine wp_app_pair2 (.tmp 77) (.tmp 99) rfl wr.drew (if y < x then y else x) (if x < y then y else x) w2.heap.size _ vs (base ++ cmpW VV WW k) w5.heap.size w7.heap.size w7 HRd.out hz2 HK.out hz7 HL.out rfl rfl ?_; intro g' L' cap' w8 vs8 hL8 o8 q8 z8 k8 y8; have cc1 := (k8.cell bW (offW + k) hWlo hWhi).trans ((HK.out.cell bW (offW + k) hWlo hWhi).symm.trans c1); have cc2 := (k8.cell bV (offV + (k + 1)) hVlo hVhi).trans ((HK.out.cell bV (offV + (k + 1)) hVlo hVhi).symm.trans c2); have O8 := Lib.hid o8; have Q8 := Lib.hid (undrew q8); have K8 := Lib.hid k8; clear o8 q8 k8) | fail)
              all_goals
                clear hwr htn
                go_wp2
                go_roundw
                case rel => exact ⟨k + 1, by omega, by go_num, vs8, by rw [cmpW_succ, HXY.out, ← List.append_assoc]; exact O8.out, HB.out.trans (Q8.out.mono (by omega)), K8.out, by omega⟩
                case measure => simp [intOf]; omega
            · have HE : Hid (k = m) := by show k = m; omega
              have hend : ((k : Int) < (lw : Int)) = False ∨ (((k : Int) < (lw : Int)) = True ∧ ((k : Int) + 1 < (lv : Int)) = False) := by
                by_cases h : (k : Int) < (lw : Int)
                · right
                  exact ⟨eq_true h, eq_false (by omega)⟩
                · exact .inl (eq_false h)
              clear hR hB hK
              rcases hend with hx3 | ⟨hx3, hx4⟩
              all_goals
                go_wp2
                go_ret
                exact ⟨_, vs, rfl, by rw [HRES.out, ← HE.out]; exact HR.out.mono (by omega) (Nat.le_refl _), HB.out⟩
end Go.Proofs.Ytiodolbgapjmkaa
