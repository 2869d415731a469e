/- A list of pairs turned around in place, and the program's turned network, by their contracts. Conditions: the network is valid. -/
import Derived.Test.YtiodolbgapjmkaaPStd
import Derived.Test.YtiodolbgapjmkaaCopy
import Derived.Test.YtiodolbgapjmkaaCopy2
import Derived.Test.YtiodolbgapjmkaaPast
import Derived.Test.YtiodolbgapjmkaaNetC
import Derived.Shelf.SlicesE.Reverse
import Derived.Ground.SlgnProg
import Derived.Lib.OwnBridge
import Derived.Test.YtiodolbgapjmkaaRenamed
import Derived.Test.YtiodolbgapjmkaaShelf
import Derived.Test.YtiodolbgapjmkaaPStd2
import Derived.Test.YtiodolbgapjmkaaStd2
import Derived.Test.YtiodolbgapjmkaaApplyN
import Derived.Test.YtiodolbgapjmkaaRises
import Derived.Test.YtiodolbgapjmkaaWalkV
import Derived.Test.YtiodolbgapjmkaaPairC
import Derived.Deep.OwnRows
import Derived.Test.YtiodolbgapjmkaaNetOk
import Derived.Test.YtiodolbgapjmkaaNetBits
import Derived.Test.YtiodolbgapjmkaaMaskL
import Derived.Test.YtiodolbgapjmkaaLater
import Derived.Test.YtiodolbgapjmkaaMkSort
import Derived.Test.YtiodolbgapjmkaaMake
import Derived.Deep.DeepCutAuto
import Derived.Deep.RegionHeld3
namespace Go.Proofs.Ytiodolbgapjmkaa
open Go.RowKit Go.Lib Go.Sort Go.Shelf
set_option maxRecDepth 100000
set_option linter.unusedVariables false
set_option linter.unusedSimpArgs false

def revS_ren : Go.Shelf.Ren := ⟨fun | 35 => 147 | n => n, fun | 22 => 28 | 23 => 22 | 3 => 3 | 4 => 4 | n => n, fun | n => n⟩
theorem revS : Go.Proofs.SlLaysE.n35 Try.prog revS_ren := {
  mixed := by kernel_rfl
  f35 := ⟨Try.f147.name, by decide, Try.func147.trans (congrArg some (by kernel_rfl))⟩
  t0 := by kernel_rfl
  a0 := fun w => by kernel_rfl
  z0 := fun w => by kernel_rfl
  v0 := fun w => by kernel_rfl
  t3 := Try.underlying3
  a3 := Try.isAgg3
  z3 := Try.sizeOf3
  v3 := Try.zeroValue3
  t4 := Try.underlying4
  a4 := Try.isAgg4
  z4 := Try.sizeOf4
  v4 := Try.zeroValue4
  t22 := Try.underlying28
  a22 := Try.isAgg28
  z22 := Try.sizeOf28
  v22 := Try.zeroValue28
  a23 := Try.isAgg22
  z23 := Try.sizeOf22 }
/-- A slice's value out of its three parts. -/
def encT (x : Option Addr × Nat × Nat) : Value := .slice x.1 x.2.1 x.2.2
theorem oneT : OneCell encT := fun _ => rfl
def decT : Value → Option Addr × Nat × Nat
  | .slice a l c => (a, l, c)
  | _ => (none, 0, 0)
theorem decT_own {e : TypeId} {w : World} {lo hi : Nat} {v : Value} {xs : List Value} (h : Own e w lo hi v xs) : encT (decT v) = v := by
  obtain ⟨ao, g, cap, rfl, -⟩ := h.view
  rfl
theorem decT_all {w : World} {lo hi : Nat} {v : Value} {vs : List Value} {xss : List (List Int)} (h : OwnR w lo hi v vs xss) : (vs.map decT).map encT = vs := by
  rw [List.map_map]
  apply List.ext_getElem?
  intro i
  rw [List.getElem?_map]
  cases hv : vs[i]? with
  | none => rfl
  | some u =>
    have hi := (List.getElem?_eq_some_iff.1 hv).1
    have hx : xss[i]? = some (xss[i]'(by rw [← h.len]; exact hi)) := List.getElem?_eq_getElem _
    show some (encT (decT u)) = some u
    rw [decT_own (h.row i u _ hv hx)]
theorem putRow_blockT {α : Type} [Inhabited α] (enc : α → Value) (w : World) (q g o : Nat) (d : Array α) (b : Nat) (h : b ≠ g) : (putRow enc (Sort.ahead w q) g o d).heap[b]? = w.heap[b]? := by
  simp [putRow, mapBlock, Sort.ahead, Array.getElem?_modify, Ne.symm h]
theorem top_block {w : World} {lo hi g L cap : Nat} {vs : List Value} {xss : List (List Int)} (h : OwnR w lo hi (.slice (some ⟨g, 0, none⟩) L cap) vs xss) : ∃ c, w.heap[g]? = some (.cells c 22 (0, 0)) := by
  rcases h.top.row.2 with ⟨e, _⟩ | ⟨g', cap', cur, e, -, hh, -⟩
  · simp at e
  · simp only [Value.slice.injEq, Option.some.injEq, Addr.mk.injEq] at e
    obtain ⟨⟨rfl, -⟩, -, -⟩ := e
    exact ⟨_, hh⟩
theorem row_not_top {w : World} {lo hi g L cap : Nat} {vs : List Value} {xss : List (List Int)} (h : OwnR w lo hi (.slice (some ⟨g, 0, none⟩) L cap) vs xss) {u : Value} (hu : u ∈ vs) {k : Nat} (hk : u.ownBlock = some k) : k ≠ g := by
  rcases h.top_apart u hu with e | e
  · rw [hk] at e; cases e
  · intro q
    exact e (by rw [hk, q]; rfl)
/-- slices.Reverse of a list of pairs. -/
theorem ReverseR_c (lo hi : Nat) (v : Value) (vs : List Value) (xss : List (List Int)) (w : World) (hv : OwnR w lo hi v vs xss) (hl : xss.length ≤ 1000000) :
    Calls Try.prog 147 #[v] w fun e w' => e = .returned (.tuple #[]) ∧ OwnR w' lo hi v vs.reverse xss.reverse ∧ Below lo w w' ∧ (∀ b, v.ownBlock ≠ some b → w'.heap[b]? = w.heap[b]?) ∧ w'.heap.size = w.heap.size := by
  rcases hv.top.row.2 with ⟨rfl, hn⟩ | ⟨g, cap, cur, rfl, hg, hh, hnc, hm, hs, ht⟩
  · refine (AnyE.slices_Reverse_empty revS none 0 w).mono ?_
    rintro e w' ⟨rfl, rfl⟩
    have h0 : vs = [] := List.length_eq_zero_iff.1 hn
    have h1 : xss = [] := List.length_eq_zero_iff.1 (by rw [← hv.len, hn])
    subst h0
    subst h1
    exact ⟨rfl, hv, Below.refl _ _, fun _ _ => rfl, rfl⟩
  · have htop := hv.top.row
    have hgl : lo ≤ g := (htop.lt g rfl).1
    have hall := decT_all hv
    obtain ⟨ds, hds⟩ : ∃ ds, ds = vs.map decT := ⟨_, rfl⟩
    rw [← hds] at hall
    have hdl : ds.length = vs.length := by rw [hds, List.length_map]
    have hvl := hv.len
    have hH : Holds encT w g 0 ds.toArray := by
      intro j hj
      have hj' : j < ds.length := by simpa using hj
      have h1 := htop.cellAt j (by omega)
      refine ⟨?_, htop.frozenAt (0 + j)⟩
      rw [show 0 + j = j by omega]
      refine (by simpa using h1 : w.cell? ⟨g, j, none⟩ = vs[j]?).trans ?_
      rw [← hall, List.getElem?_map, List.getElem?_eq_getElem hj']
      simp [hj']
    have hraw := AnyE.slices_Reverse revS encT oneT g 0 cap ds w hH (by omega)
    rw [hdl] at hraw
    refine hraw.mono ?_
    rintro e w' ⟨rfl, q, rfl⟩
    have hrn : ∀ u ∈ vs, ∀ k, u.ownBlock = some k → k ≠ g := fun u hu k hk => row_not_top hv hu hk
    rw [← hall] at htop
    have hrow := ownsRow_putRow (q := q) (k := vs.length) (ys := ds.reverse) (by rw [List.length_map, hdl] at htop; exact htop) (by simp [hdl]) (Nat.le_refl _)
    rw [List.take_of_length_le (by simp [hdl]), List.map_reverse, hall] at hrow
    refine ⟨rfl, ⟨⟨?_, hv.top.lt⟩, ?_, ?_, ?_⟩, below_putRow (Below.refl _ _) hgl, fun b hb => putRow_blockT _ _ _ _ _ _ _ (fun e => hb (by rw [e]; rfl)), by simp [putRow, mapBlock, Sort.ahead]⟩
    · rw [List.length_reverse]; exact hrow
    · simp [hvl]
    · intro i u xs a b
      rw [List.getElem?_reverse (by have := (List.getElem?_eq_some_iff.1 a).1; simpa using this)] at a
      rw [List.getElem?_reverse (by have := (List.getElem?_eq_some_iff.1 b).1; simpa using this), ← hvl] at b
      have hr := hv.row _ u xs a b
      exact ⟨ownsRow_of_block hr.row fun k hk => putRow_blockT _ _ _ _ _ _ _ (hrn u (List.mem_of_getElem? a) k hk), hr.lt⟩
    · rw [List.pairwise_reverse]
      exact hv.sep.imp fun {a b} h => by
        rcases h with h | h
        · by_cases hb : b.ownBlock = none
          · exact .inl hb
          · exact .inr (by rw [h]; exact hb)
        · exact .inr (Ne.symm h)
set_option maxHeartbeats 1000000 in
theorem TurnNetwork_y (n : Nat) (lo hi : Nat) (v : Value) (vs : List Value) (xss : List (List Int)) (w : World) (hv : OwnR w lo hi v vs xss) (hhi : hi ≤ w.heap.size) (hok : netOk n xss = true) :
    Calls Try.prog 70 #[.agg #[.int .i64 n, v]] w (NetC w n xss.reverse true) := by
  have HC : Hid (∀ w1, Below w.heap.size w w1 → Calls Try.prog 94 #[.agg #[.int .i64 n, v]] w1 fun e w' => e = .returned (.bool true) ∧ Below w1.heap.size w1 w') := fun w1 h1 => by
    have := NetworkOk_c n lo hi v vs xss w1 (hv.below h1 hhi) (by have := h1.size; omega)
    rwa [hok] at this
  have HO := Lib.hid (fun w1 (h1 : Below w.heap.size w w1) => own_c n lo hi v vs xss w1 (hv.below h1 hhi) (by have := h1.size; omega) hok)
  have hl60 := netOk_len hok
  obtain ⟨ao, g, cap, rfl, -, -, -⟩ := hv.rows
  obtain ⟨L, hL⟩ : ∃ L, L = xss.length := ⟨_, rfl⟩
  have HL := Lib.hid hL
  rw [← hL] at HC HO ⊢
  clear hv hL
  go_enter Try.func70, Try.ntmps70
  go_wp2_with fail
  obtain ⟨W1, hW1, c0, c1, hsz, hB1, -, -⟩ := box2 w (.int .i64 n) (.slice ao L cap) 30
  rw [hW1]
  clear hW1
  have hb9 := blk_new W1 (.cells #[.int .i64 0, .slice none 0 0] 30)
  obtain ⟨W2, hW2⟩ : ∃ W, W = W1.alloc (.cells #[.int .i64 0, .slice none 0 0] 30) := ⟨_, rfl⟩
  have hBa : Below W1.heap.size W1 W2 := by rw [hW2]; exact (Below.refl _ _).alloc (Nat.le_refl _) _
  have hs2 : W2.heap.size = W1.heap.size + 1 := by rw [hW2]; simp
  rw [← hW2] at hb9
  rw [← hW2]
  clear hW2
  obtain ⟨c0, c1, hz0⟩ := boxC hBa (by omega) c0 c1
  rw [hsz] at hb9
  have hB2 : Below w.heap.size w W2 := hB1.trans (hBa.mono (by omega))
  refine (HC.out W2 hB2).mono ?_
  rintro e w3 ⟨rfl, b3⟩
  obtain ⟨c0, c1, hz0⟩ := boxC b3 (by omega) c0 c1
  have HR3 := Lib.hid (blk_below hb9 b3 (by omega))
  have HB3 := Lib.hid (hB2.trans (b3.mono (by omega)))
  have hz3 := b3.size
  clear b3 hb9 hBa hB2
  go_wp2_with fail
  refine (HO.out w3 HB3.out).mono ?_
  rintro e w4 ⟨u4, us4, rfl, o4, b4⟩
  obtain ⟨ao4, g4, cap4, e4, -, -, -⟩ := o4.rows
  have HB4 := Lib.hid (HB3.out.trans (b4.mono HB3.out.size))
  have hz4 := b4.size
  have HR4 := Lib.hid (blk_below HR3.out b4 (by omega))
  have O4 := Lib.hid o4
  rw [← HL.out] at e4
  subst e4
  clear b4 o4
  go_wp2_with fail
  have hb5 := blk_new w4 (.cells #[.int .i64 n, .slice ao4 L cap4] 30)
  obtain ⟨W5, hW5⟩ : ∃ W, W = w4.alloc (.cells #[.int .i64 n, .slice ao4 L cap4] 30) := ⟨_, rfl⟩
  have hB5 : Below w4.heap.size w4 W5 := by rw [hW5]; exact (Below.refl _ _).alloc (Nat.le_refl _) _
  have hs5 : W5.heap.size = w4.heap.size + 1 := by rw [hW5]; simp
  rw [← hW5] at hb5
  rw [← hW5]
  clear hW5
  have d0 := blk_cell hb5 0
  have d1 := blk_cell hb5 1
  have O5 := Lib.hid (O4.out.below hB5 (Nat.le_refl _))
  have HB5 := Lib.hid (HB4.out.trans (hB5.mono HB4.out.size))
  have HR5 := Lib.hid (blk_below HR4.out hB5 (by omega))
  have HBX5 := Lib.hid hb5
  have hov : ∀ k, (Value.slice ao4 L cap4).ownBlock = some k → w3.heap.size ≤ k ∧ k < w4.heap.size := fun k hk => ⟨(O4.out.top.row.lt k hk).1, O4.out.top.lt k hk⟩
  have HOV := Lib.hid hov
  have HREV := Lib.hid (ReverseR_c w3.heap.size w4.heap.size (.slice ao4 L cap4) us4 xss W5 O5.out (by omega))
  clear hb5 hB5 hov
  go_wp2_with fail
  refine HREV.out.mono ?_
  rintro e w6 ⟨rfl, o6, b6, k6, z6⟩
  have hb6 := (k6 w4.heap.size (fun e => by have := HOV.out _ e; omega)).trans HBX5.out
  have hr6 := (k6 (w.heap.size + 1) (fun e => by have := HOV.out _ e; omega)).trans HR5.out
  have x0 := blk_cell hb6 0
  have x1 := blk_cell hb6 1
  have r0 := blk_cell hr6 0
  have r1 := blk_cell hr6 1
  have y0 := blk_free hr6 0
  have y1 := blk_free hr6 1
  have HFN : Hid (NetC w n xss.reverse true (.returned (.tuple #[.agg #[.int .i64 n, .slice ao4 L cap4], .bool true])) ((w6.setCell ⟨w.heap.size + 1, 0, none⟩ (.int .i64 n)).setCell ⟨w.heap.size + 1, 1, none⟩ (.slice ao4 L cap4))) := by
    refine ⟨_, us4.reverse, rfl, ?_, ((HB5.out.trans (b6.mono (by omega))).setCell (by show w.heap.size ≤ w.heap.size + 1; omega) _).setCell (by show w.heap.size ≤ w.heap.size + 1; omega) _⟩
    exact (o6.kept fun k h1 _ _ => by rw [Below.heap_setCell _ _ _ _ (by show k ≠ w.heap.size + 1; omega), Below.heap_setCell _ _ _ _ (by show k ≠ w.heap.size + 1; omega)]).mono (by omega) (by simp [World.setCell]; omega)
  have z0 := blk_cell (box_set1 (y := .slice ao4 L cap4) (box_set0 (y := .int .i64 n) hr6)) 0
  have z1 := blk_cell (box_set1 (y := .slice ao4 L cap4) (box_set0 (y := .int .i64 n) hr6)) 1
  clear o6 b6 k6 hb6 hr6
  go_wp2
  exact bodyPost_ret (v := .tuple #[.agg #[.int .i64 n, .slice ao4 L cap4], .bool true]) (by simp [results, Try.results70, go_sem, z0, z1]) rfl HFN.out
end Go.Proofs.Ytiodolbgapjmkaa

namespace Go.Proofs.Ytiodolbgapjmkaa
open Go.RowKit Go.Lib Go.Sort
set_option maxRecDepth 100000
set_option linter.unusedVariables false
set_option linter.unusedSimpArgs false

theorem ReverseI_c (lo hi g L cap : Nat) (xs : List Int) (w : World) (hv : OwnI w lo hi (.slice (some ⟨g, 0, none⟩) L cap) xs) (hL : xs.length = L) (hl : L ≤ 1000000) :
    Calls Try.prog 146 #[.slice (some ⟨g, 0, none⟩) L cap] w fun e w' =>
      e = .returned (.tuple #[]) ∧ OwnI w' lo hi (.slice (some ⟨g, 0, none⟩) L cap) xs.reverse ∧ Below lo w w' ∧ (∀ b, b ≠ g → w'.heap[b]? = w.heap[b]?) ∧ w'.heap.size = w.heap.size := by
  subst hL
  have htop := hv.row
  rw [ivs_length] at htop
  have hg := htop.lt g rfl
  have hH : Holds (Value.int .i64) w g 0 xs.toArray := by
    intro j hj
    have hj' : j < xs.length := by simpa using hj
    have h1 := htop.cellAt j (by omega)
    refine ⟨?_, htop.frozenAt (0 + j)⟩
    rw [show 0 + j = j by omega]
    refine (by simpa using h1 : w.cell? ⟨g, j, none⟩ = (ivs xs)[j]?).trans ?_
    rw [ivs_getElem?, List.getElem?_eq_getElem hj']
    simp [hj']
  refine (Try.slices_Reverse_int g 0 cap xs w hH (by omega)).mono ?_
  rintro e w' ⟨rfl, q, rfl⟩
  have hrow := Go.Lib.ownsRow_putRow (q := q) (k := xs.length) (ys := xs.reverse) (enc := Value.int .i64) htop (by simp) (Nat.le_refl _)
  rw [List.take_of_length_le (by simp)] at hrow
  refine ⟨rfl, ⟨?_, hv.lt⟩, Go.Lib.below_putRow (Below.refl _ _) hg.1, fun b hb => putRow_blockT _ _ _ _ _ _ _ hb, by simp [putRow, mapBlock, Sort.ahead]⟩
  rw [ivs_length, List.length_reverse]
  exact hrow
theorem OwnR.setRow {w w' : World} {lo hi : Nat} {v : Value} {vs : List Value} {xss : List (List Int)} (h : OwnR w lo hi v vs xss) {k gk : Nat} {u : Value} {ys : List Int} (hk : vs[k]? = some u) (hu : u.ownBlock = some gk) (hy : OwnI w' lo hi u ys)
    (hkeep : ∀ b, b ≠ gk → w'.heap[b]? = w.heap[b]?) : OwnR w' lo hi v vs (xss.set k ys) := by
  have hkl := (List.getElem?_eq_some_iff.1 hk).1
  refine ⟨⟨ownsRow_of_block h.top.row fun b hb => hkeep b fun e => ?_, h.top.lt⟩, by rw [List.length_set, h.len], fun i t xs a b => ?_, h.sep⟩
  · rcases h.top_apart u (List.mem_of_getElem? hk) with q | q
    · rw [hu] at q; cases q
    · exact q (by rw [hu, hb, e])
  · by_cases hik : i = k
    · subst hik
      rw [hk] at a
      cases a
      rw [List.getElem?_set_self (by rw [← h.len]; exact hkl)] at b
      cases b
      exact hy
    · rw [List.getElem?_set_ne (Ne.symm hik)] at b
      have hr := h.row i t xs a b
      refine ⟨ownsRow_of_block hr.row fun c hc => hkeep c fun e => ?_, hr.lt⟩
      have hil := (List.getElem?_eq_some_iff.1 a).1
      have e1 : vs[i] = t := (List.getElem?_eq_some_iff.1 a).2
      have e2 : vs[k] = u := (List.getElem?_eq_some_iff.1 hk).2
      have hs := List.pairwise_iff_getElem.1 h.sep
      rcases Nat.lt_or_gt_of_ne hik with q | q
      · have := hs i k hil hkl q
        rw [e1, e2] at this
        rcases this with p | p
        · rw [hc] at p; cases p
        · exact p (by rw [hc, hu, e])
      · have := hs k i hkl hil q
        rw [e1, e2] at this
        rcases this with p | p
        · rw [hu] at p; cases p
        · exact p (by rw [hc, hu, e])
theorem mir1_c (n i b : Nat) (hn : n ≤ 8) (hi : i < n) (w : World) (hc : w.cell? ⟨b, 0, none⟩ = some (.int .i64 n)) : Calls Try.prog 145 (#[.int .i64 i] ++ #[.pointer (some ⟨b, 0, none⟩)]) w fun e w' => e = .returned (.int .i64 ((n : Int) - 1 - i)) ∧ w = w' := by
  show Calls Try.prog 145 #[.int .i64 i, .pointer (some ⟨b, 0, none⟩)] w _
  go_enter Try.func145, Try.ntmps145
  go_wp2
  go_ret
  exact ⟨rfl, rfl⟩
/-- The first k comparators are turned, the others not yet. -/
def mirK (n : Nat) (xss : List (List Int)) (k : Nat) : List (List Int) := (mirP n xss).take k ++ (renP (fun x => (n : Int) - 1 - x) xss).drop k
theorem mirK_len (n : Nat) (xss : List (List Int)) (k : Nat) (hk : k ≤ xss.length) : (mirK n xss k).length = xss.length := by
  unfold mirK
  rw [List.length_append, List.length_take, List.length_drop, mirP_len, renP_len]
  omega
theorem mirK_zero (n : Nat) (xss : List (List Int)) : mirK n xss 0 = renP (fun x => (n : Int) - 1 - x) xss := by simp [mirK]
theorem mirK_all (n : Nat) (xss : List (List Int)) : mirK n xss xss.length = mirP n xss := by
  unfold mirK
  rw [List.take_of_length_le (by rw [mirP_len]; exact Nat.le_refl _), List.drop_of_length_le (by rw [renP_len]; exact Nat.le_refl _), List.append_nil]
theorem mirK_getD {n : Nat} {xss : List (List Int)} {k : Nat} (hk : k < xss.length) {i j : Nat} (hr : xss.getD k [] = [(i : Int), (j : Int)]) : (mirK n xss k).getD k [] = [(n : Int) - 1 - i, (n : Int) - 1 - j] := by
  have e : xss[k] = [(i : Int), (j : Int)] := by simpa [List.getD, hk] using hr
  unfold mirK
  rw [List.getD_eq_getElem?_getD, List.getElem?_append_right (by rw [List.length_take, mirP_len]; omega), List.length_take, mirP_len, List.getElem?_drop, show k + (k - min k xss.length) = k by omega]
  simp [renP, hk, e]
theorem mirK_succ {n : Nat} {xss : List (List Int)} {k : Nat} (hk : k < xss.length) {i j : Nat} (hr : xss.getD k [] = [(i : Int), (j : Int)]) : mirK n xss (k + 1) = (mirK n xss k).set k [(n : Int) - 1 - j, (n : Int) - 1 - i] := by
  have e : xss[k] = [(i : Int), (j : Int)] := by simpa [List.getD, hk] using hr
  have hl1 : ((mirP n xss).take k).length = k := by rw [List.length_take, mirP_len]; omega
  unfold mirK
  rw [List.set_append_right _ _ (by omega), hl1, Nat.sub_self]
  have hdrop : (renP (fun x => (n : Int) - 1 - x) xss).drop k = [(n : Int) - 1 - i, (n : Int) - 1 - j] :: (renP (fun x => (n : Int) - 1 - x) xss).drop (k + 1) := by
    rw [List.drop_eq_getElem_cons (by rw [renP_len]; exact hk)]
    congr 1
    simp [renP, e]
  rw [hdrop, List.set_cons_zero, take_snoc_getD [] (by rw [mirP_len]; exact hk), List.append_assoc]
  congr 1
  show [_] ++ _ = _
  congr 1
  simp [mirP, hk, e]
set_option maxHeartbeats 2000000 in
theorem MirrorNetwork_y (n : Nat) (lo hi : Nat) (v : Value) (vs : List Value) (xss : List (List Int)) (w : World) (hv : OwnR w lo hi v vs xss) (hhi : hi ≤ w.heap.size) (hok : netOk n xss = true) :
    Calls Try.prog 69 #[.agg #[.int .i64 n, v]] w (NetC w n (mirP n xss) true) := by
  have HC : Hid (∀ w1, Below w.heap.size w w1 → Calls Try.prog 94 #[.agg #[.int .i64 n, v]] w1 fun e w' => e = .returned (.bool true) ∧ Below w1.heap.size w1 w') := fun w1 h1 => by
    have := NetworkOk_c n lo hi v vs xss w1 (hv.below h1 hhi) (by have := h1.size; omega)
    rwa [hok] at this
  have hn8 : n ≤ 8 := by have := (netOk_n hok).2; omega
  have HO : Hid (∀ w1 b, Below w.heap.size w w1 → b < w1.heap.size → w1.cell? ⟨b, 0, none⟩ = some (.int .i64 n) → Calls Try.prog 130 #[.agg #[.int .i64 n, v], .int .i64 n, .func (.func 145) #[] #[.pointer (some ⟨b, 0, none⟩)]] w1 fun e w' => ∃ u us, e = .returned (.agg #[.int .i64 n, u]) ∧ OwnR w' w1.heap.size w'.heap.size u us (renP (fun x => (n : Int) - 1 - x) xss) ∧ Below w1.heap.size w1 w') := fun w1 b h1 hb hc =>
    renamed_MirrorNetwork n lo hi v vs xss w1 (hv.below h1 hhi) (by have := h1.size; omega) hok n #[.pointer (some ⟨b, 0, none⟩)] (fun x => (n : Int) - 1 - x) fun wr h2 i hi => mir1_c n i b hn8 hi wr ((h2.cell (p := ⟨b, 0, none⟩) hb).trans hc)
  have HP := Lib.hid (netOk_pair hok)
  have hl60 := netOk_len hok
  obtain ⟨ao, g, cap, rfl, -, -, -⟩ := hv.rows
  obtain ⟨L, hL⟩ : ∃ L, L = xss.length := ⟨_, rfl⟩
  have HL := Lib.hid hL
  rw [← hL] at HC HO HP hl60 ⊢
  clear hv hL
  go_enter Try.func69, Try.ntmps69
  go_wp2_with fail
  obtain ⟨W1, hW1, c0, c1, hsz, hB1, -, -⟩ := box2 w (.int .i64 n) (.slice ao L cap) 30
  rw [hW1]
  clear hW1
  have hb9 := blk_new W1 (.cells #[.int .i64 0, .slice none 0 0] 30)
  obtain ⟨W2, hW2⟩ : ∃ W, W = W1.alloc (.cells #[.int .i64 0, .slice none 0 0] 30) := ⟨_, rfl⟩
  have hBa : Below W1.heap.size W1 W2 := by rw [hW2]; exact (Below.refl _ _).alloc (Nat.le_refl _) _
  have hs2 : W2.heap.size = W1.heap.size + 1 := by rw [hW2]; simp
  rw [← hW2] at hb9
  rw [← hW2]
  clear hW2
  obtain ⟨c0, c1, hz0⟩ := boxC hBa (by omega) c0 c1
  rw [hsz] at hb9
  have hB2 : Below w.heap.size w W2 := hB1.trans (hBa.mono (by omega))
  refine (HC.out W2 hB2).mono ?_
  rintro e w3 ⟨rfl, b3⟩
  obtain ⟨c0, c1, hz0⟩ := boxC b3 (by omega) c0 c1
  have HR3 := Lib.hid (blk_below hb9 b3 (by omega))
  have HB3 := Lib.hid (hB2.trans (b3.mono (by omega)))
  have hz3 := b3.size
  clear b3 hb9 hBa hB2
  go_wp2_with fail
  refine (HO.out w3 w.heap.size HB3.out hz0 c0).mono ?_
  rintro e w4 ⟨u4, us4, rfl, o4, b4⟩
  obtain ⟨ao4, g4, cap4, e4, -, -, -⟩ := o4.rows
  have HB4 := Lib.hid (HB3.out.trans (b4.mono HB3.out.size))
  have hz4 := b4.size
  have HR4 := Lib.hid (blk_below HR3.out b4 (by omega))
  rw [← mirK_zero] at o4
  have O4 := Lib.hid o4
  rw [renP_len, ← HL.out] at e4
  subst e4
  clear b4 o4
  go_wp2_with fail
  have hb5 := blk_new w4 (.cells #[.int .i64 n, .slice ao4 L cap4] 30)
  obtain ⟨W5, hW5⟩ : ∃ W, W = w4.alloc (.cells #[.int .i64 n, .slice ao4 L cap4] 30) := ⟨_, rfl⟩
  have hB5 : Below w4.heap.size w4 W5 := by rw [hW5]; exact (Below.refl _ _).alloc (Nat.le_refl _) _
  have hs5 : W5.heap.size = w4.heap.size + 1 := by rw [hW5]; simp
  rw [← hW5] at hb5
  rw [← hW5]
  clear hW5
  have d0 := blk_cell hb5 0
  have d1 := blk_cell hb5 1
  have O5 := Lib.hid (O4.out.below hB5 (Nat.le_refl _))
  have HB5 := Lib.hid (HB4.out.trans (hB5.mono HB4.out.size))
  have HR5 := Lib.hid (blk_below HR4.out hB5 (by omega))
  have HBX5 := Lib.hid hb5
  have hr5 := HR5.out
  have hov : ∀ k, (Value.slice ao4 L cap4).ownBlock = some k → w3.heap.size ≤ k ∧ k < w4.heap.size := fun k hk => ⟨(O4.out.top.row.lt k hk).1, O4.out.top.lt k hk⟩
  have HOV := Lib.hid hov
  clear hb5 hB5 hov
  go_wp2_with fail
  go_loopw [19] (fun t wr => ∃ k : Nat, k ≤ L ∧ t = .int .i64 k ∧ OwnR wr w3.heap.size w4.heap.size (.slice ao4 L cap4) us4 (mirK n xss k) ∧ Below w3.heap.size W5 wr ∧ wr.heap[w4.heap.size]? = some (.cells #[.int .i64 n, .slice ao4 L cap4] 30 (0, 0)) ∧ wr.heap.size = W5.heap.size) (fun t _ => L - (intOf t).toNat)
  case atStart => exact ⟨0, Nat.zero_le _, rfl, O5.out, Below.refl _ _, HBX5.out, rfl⟩
  case round =>
    obtain ⟨k, hk, rfl, ho, hb, hbx, hzr⟩ := hrel
    have HO2 := Lib.hid ho
    have HB := Lib.hid hb
    have HBX := Lib.hid hbx
    clear hbx
    by_cases hlt : k < L
    · have hki : (k : Int) < (L : Int) := by omega
      obtain ⟨i, j, hr, hi1, hj1, -⟩ := HP.out k hlt
      have hkx : k < xss.length := by rw [← HL.out]; exact hlt
      have hml := mirK_len n xss k (by omega)
      obtain ⟨ao5, g5, cap5, e5, -, h5, hrow⟩ := ho.rows
      rw [hml, ← HL.out] at e5 h5 hrow
      obtain ⟨e6, q1, q2⟩ := h5 (by omega)
      simp only [Value.slice.injEq] at e5
      obtain ⟨e7, -, -⟩ := e5
      rw [e6] at e7
      subst e7
      obtain ⟨r1, r2⟩ := hrow k hlt
      rw [mirK_getD hkx hr] at r2
      obtain ⟨ao6, g6, cap6, e8, -, h6, -⟩ := OwnI.view r2
      obtain ⟨e9, p1, p2⟩ := h6 (by simp)
      subst e9
      rw [e8] at r1 r2
      have e2 : ([(n : Int) - 1 - i, (n : Int) - 1 - j] : List Int).length = 2 := rfl
      rw [e2] at r1 r2 e8
      have hvk : us4[k]? = some (.slice (some ⟨g6, 0, none⟩) 2 cap6) := by
        have hl4 : k < us4.length := by rw [ho.len, hml]; exact hkx
        rw [List.getElem?_eq_getElem hl4]
        rw [List.getD_eq_getElem?_getD, List.getElem?_eq_getElem hl4] at e8
        exact congrArg some (by simpa using e8)
      have HREV := Lib.hid (ReverseI_c w3.heap.size w4.heap.size g6 2 cap6 _ wr r2 rfl (by omega))
      have HVK := Lib.hid hvk
      have HSC := Lib.hid (mirK_succ (n := n) hkx hr)
      clear hrow r2 e8 e6 hvk ho hb hr h5 h6
      go_wp2_with fail
      refine HREV.out.mono ?_
      rintro e w6 ⟨rfl, o6, b6, k6, z6⟩
      have O6 := Lib.hid (HO2.out.setRow HVK.out rfl o6 k6)
      have HBX6 := Lib.hid ((k6 w4.heap.size (by omega)).trans HBX.out)
      have B6 := Lib.hid (HB.out.trans b6)
      have Z6 : Hid (w6.heap.size = W5.heap.size) := by show _ = _; omega
      clear o6 b6 k6 z6
      go_wp2_with fail
      go_roundw
      case rel => exact ⟨k + 1, by omega, by go_num, by rw [HSC.out]; exact O6.out, B6.out, HBX6.out, Z6.out⟩
      case measure => simp [intOf]; omega
    · have hki : ¬ (k : Int) < (L : Int) := by omega
      have HE : Hid (mirK n xss k = mirP n xss) := by show _ = _; rw [show k = xss.length by rw [← HL.out]; omega, mirK_all]
      have hb6 := HBX.out
      have hr6 := (hb.block (w.heap.size + 1) (by omega)).trans HR5.out
      have x0 := blk_cell hb6 0
      have x1 := blk_cell hb6 1
      have r0 := blk_cell hr6 0
      have r1 := blk_cell hr6 1
      have y0 := blk_free hr6 0
      have y1 := blk_free hr6 1
      have HFN : Hid (NetC w n (mirP n xss) true (.returned (.tuple #[.agg #[.int .i64 n, .slice ao4 L cap4], .bool true])) ((wr.setCell ⟨w.heap.size + 1, 0, none⟩ (.int .i64 n)).setCell ⟨w.heap.size + 1, 1, none⟩ (.slice ao4 L cap4))) := by
        refine ⟨_, us4, rfl, ?_, ((HB5.out.trans (hb.mono (by omega))).setCell (by show w.heap.size ≤ w.heap.size + 1; omega) _).setCell (by show w.heap.size ≤ w.heap.size + 1; omega) _⟩
        rw [← HE.out]
        exact (ho.kept fun k h1 _ _ => by rw [Below.heap_setCell _ _ _ _ (by show k ≠ w.heap.size + 1; omega), Below.heap_setCell _ _ _ _ (by show k ≠ w.heap.size + 1; omega)]).mono (by omega) (by simp [World.setCell]; omega)
      have z0 := blk_cell (box_set1 (y := .slice ao4 L cap4) (box_set0 (y := .int .i64 n) hr6)) 0
      have z1 := blk_cell (box_set1 (y := .slice ao4 L cap4) (box_set0 (y := .int .i64 n) hr6)) 1
      clear ho hb hb6 hr6
      go_wp2
      exact bodyPost_ret (v := .tuple #[.agg #[.int .i64 n, .slice ao4 L cap4], .bool true]) (by simp [results, Try.results69, go_sem, z0, z1]) rfl HFN.out
end Go.Proofs.Ytiodolbgapjmkaa

namespace Go.Proofs.Ytiodolbgapjmkaa
open Go.RowKit
set_option maxRecDepth 100000
set_option linter.unusedVariables false
set_option linter.unusedSimpArgs false

/-- Comparators of neighbors. -/
def primP (n : Nat) (xss : List (List Int)) : Prop := ∀ r ∈ xss, ∃ i : Nat, r = [(i : Int), ((i + 1 : Nat) : Int)] ∧ i + 1 < n
def drawnP (n : Nat) (xss : List (List Int)) : Prop := 2 ≤ n ∧ n ≤ 5 ∧ primP n xss ∧ xss.length ≤ 13
theorem primP_snoc {n : Nat} {xss : List (List Int)} (h : primP n xss) {i : Nat} (hi : i + 1 < n) : primP n (xss ++ [[(i : Int), ((i + 1 : Nat) : Int)]]) := by
  intro r hr
  rcases List.mem_append.1 hr with hr | hr
  · exact h r hr
  · rw [List.mem_singleton] at hr
    exact ⟨i, hr, hi⟩
theorem primP_up {n : Nat} {xss : List (List Int)} (h : primP n xss) : pairUp n true xss := by
  intro r hr
  obtain ⟨i, rfl, hi⟩ := h r hr
  exact ⟨i, i + 1, rfl, by omega, by omega, by omega, fun _ => by omega⟩
theorem primP_b {n : Nat} {xss : List (List Int)} (h : primP n xss) : primB xss = true := by
  unfold primB stdB
  rw [Bool.and_eq_true, Bool.not_eq_true', Bool.not_eq_true', List.any_eq_false, List.any_eq_false]
  constructor
  · intro r hr
    obtain ⟨i, rfl, hi⟩ := h r hr
    simp [downP]; omega
  · intro r hr
    obtain ⟨i, rfl, hi⟩ := h r hr
    simp [farP]
/-- A primitive network comes back beside a cursor. -/
def CurPrim (w : World) (p B : Nat) (e : Ending) (w' : World) : Prop :=
  ∃ (n : Nat) (v : Value) (vs : List Value) (xss : List (List Int)), e = .returned (.agg #[.int .i64 n, v]) ∧ drawnP n xss ∧ OwnR w' w.heap.size w'.heap.size v vs xss ∧ Cur w' p B ∧ But w.heap.size p w w'
set_option maxHeartbeats 2000000 in
theorem l05Primitive_c (p B : Nat) (w : World) (hc : Cur w p B) :
    Calls Try.prog 148 #[.pointer (some ⟨p, 0, none⟩)] w (CurPrim w p B) := by
  have HC := Lib.hid hc
  have hp := hc.lt
  clear hc
  have hbx := blk_new w (.cells #[.int .i64 0, .slice none 0 0] 30)
  obtain ⟨W0, hW0⟩ : ∃ W, W = w.alloc (.cells #[.int .i64 0, .slice none 0 0] 30) := ⟨_, rfl⟩
  have HB0 : Hid (Below w.heap.size w W0) := by show Below _ _ _; rw [hW0]; exact (Below.refl _ _).alloc (Nat.le_refl _) _
  have hs0 : W0.heap.size = w.heap.size + 1 := by rw [hW0]; simp
  have HW := Lib.hid hW0
  rw [← hW0] at hbx
  have HBX := Lib.hid hbx
  have hs0' : w.heap.size < W0.heap.size := by omega
  clear hW0 hbx hs0
  go_enter Try.func148, Try.ntmps148
  go_wp2_with fail
  try rw [← HW.out]
  have HC0 := Lib.hid (HC.out.below HB0.out hp)
  refine (l01Below_c p B 4 W0 HC0.out (by omega) (by omega)).mono ?_
  rintro e w1 ⟨x, rfl, x0, x1, c1, b1⟩
  obtain ⟨a, rfl⟩ : ∃ a : Nat, x = a := ⟨x.toNat, by omega⟩
  have z1 := b1.size
  have C1 := Lib.hid c1
  have HBX1 := Lib.hid (b1.blk HBX.out (by omega) (by omega))
  have B1 : Hid (But w.heap.size p w w1) := (But.of_below HB0.out (by omega) (Nat.le_refl _)).trans (b1.mono (by omega))
  obtain ⟨n, hn⟩ : ∃ n, n = 2 + a := ⟨_, rfl⟩
  have hn2 : 2 ≤ n := by omega
  have hn5 : n ≤ 5 := by omega
  have e1 : 2 + (a : Int) = (n : Int) := by omega
  clear c1 b1 x0 x1 hn
  go_wp2_with fail
  have hb2 := blk_new w1 (.cells #[.int .i64 n, .slice none 0 0] 30)
  obtain ⟨W2, hW2⟩ : ∃ W, W = w1.alloc (.cells #[.int .i64 n, .slice none 0 0] 30) := ⟨_, rfl⟩
  have hB2 : Below w1.heap.size w1 W2 := by rw [hW2]; exact (Below.refl _ _).alloc (Nat.le_refl _) _
  have hs2 : W2.heap.size = w1.heap.size + 1 := by rw [hW2]; simp
  rw [← hW2] at hb2
  try rw [← hW2]
  clear hW2
  have hpw : p < w1.heap.size := by omega
  have C2 := Lib.hid (C1.out.below hB2 hpw)
  have hN2 : NB W2 w1.heap.size n (.slice none 0 0) [] [] := ⟨hb2, OwnR.nil _ _ _⟩
  have HBX2 := Lib.hid (blk_below HBX1.out hB2 (by omega))
  have B2 : Hid (But w1.heap.size p w1 W2) := But.of_below hB2 (by omega) (Nat.le_refl _)
  refine (l01Below_c p B 14 W2 C2.out (by omega) (by omega)).mono ?_
  rintro e w3 ⟨x, rfl, x0, x1, c3, b3⟩
  obtain ⟨r, rfl⟩ : ∃ r : Nat, x = r := ⟨x.toNat, by omega⟩
  have hr : r ≤ 13 := by omega
  have z3 := b3.size
  have C3 := Lib.hid c3
  have N3 : Hid (NB w3 w1.heap.size n (.slice none 0 0) [] []) := ⟨b3.blk hN2.box (by omega) (by omega), OwnR.nil _ _ _⟩
  have B3 : Hid (But w1.heap.size p w1 w3) := B2.out.trans (b3.mono (by omega))
  clear c3 b3 x0 x1 hN2 hb2 hB2
  go_wp2_with fail
  go_loopw [4] (fun i wr => ∃ (k : Nat) (v : Value) (vs : List Value) (xss : List (List Int)), i = .int .i64 k ∧ xss.length + k ≤ 13 ∧ primP n xss ∧ NB wr w1.heap.size n v vs xss ∧ Cur wr p B ∧ But w1.heap.size p w1 wr) (fun i _ => (intOf i).toNat)
  case atStart => exact ⟨r, _, [], [], rfl, by simpa using hr, by simp [primP], N3.out, C3.out, B3.out⟩
  case round =>
    obtain ⟨k, v, vs, xss, rfl, hlen, hpu, hN, hc, hb⟩ := hrel
    have HLEN := Lib.hid hlen
    have HPU := Lib.hid hpu
    have HN := Lib.hid hN
    have HCR := Lib.hid hc
    have HB := Lib.hid hb
    have hz := hb.size
    have HL : Hid (xss.length ≤ 1000000) := by show _ ≤ _; omega
    have hk100 : k ≤ 13 := by omega
    have hXl := hN.lt
    obtain ⟨q0, q1, y0, y1⟩ := hN.cells
    clear hlen hpu hN hc hb
    by_cases hlt : 0 < k
    · have g1 : 0 < (k : Int) := by omega
      go_wp2_with fail
      refine (l01Below_c p B _ wr HCR.out (by omega) (by omega)).mono ?_
      rintro e w4 ⟨x, rfl, x0, x1, c4, b4⟩
      obtain ⟨i, rfl⟩ : ∃ i : Nat, x = i := ⟨x.toNat, by omega⟩
      have hin : i + 1 < n := by omega
      have z4 := b4.size
      have C4 := Lib.hid c4
      have N4 : Hid (NB w4 w1.heap.size n v vs xss) := ⟨b4.blk HN.out.box (by omega) (by omega), (b4.ownR HN.out.own (by omega) (Nat.le_refl _)).mono (Nat.le_refl _) z4⟩
      have B4 : Hid (But w1.heap.size p w1 w4) := HB.out.trans (b4.mono (by omega))
      have hXl4 := N4.out.lt
      obtain ⟨p0, p1, y2, y3⟩ := N4.out.cells
      have HS := Lib.hid (primP_snoc HPU.out hin)
      have hi8 : i ≤ 8 := by omega
      clear c4 b4 x0 x1
      go_wp2_with (at_builtin; refine wpList_app_pair rfl (.tmp 22) (.tmp 27) rfl w4 i _ (w1.heap.size + 1) v vs xss N4.out.own (by omega) HL.out rfl rfl ?_; intro g5 L5 cap5 w5 vs5 hL5 o5 b5 z5; have O5 := Lib.hid o5; have B5 := Lib.hid b5; have bx5 := blk_below N4.out.box b5 (by omega); have BX5 := Lib.hid bx5; have s0 := blk_cell bx5 0; have s1 := blk_cell bx5 1; have s2 := blk_free bx5 1; clear o5 b5 bx5)
      go_roundw
      case rel => exact ⟨k - 1, _, vs5, _, by go_num, by have := HLEN.out; simp; omega, HS.out, NB.store BX5.out O5.out, (C4.out.below B5.out (by omega)).set_far (by omega), (B4.out.trans (But.of_below B5.out (by omega) (by omega))).trans (But.set_far (Nat.le_refl _) (by omega))⟩
      case measure => simp [intOf]; omega
    · have g1 : ¬ 0 < (k : Int) := by omega
      have hb9 : wr.heap[w.heap.size]? = some (.cells #[.int .i64 0, .slice none 0 0] 30 (0, 0)) := HB.out.blk HBX1.out (by omega) (by omega)
      have r0 := blk_cell hb9 0
      have r1 := blk_cell hb9 1
      have f0 := blk_free hb9 0
      have f1 := blk_free hb9 1
      obtain ⟨ao, g, cap, ev, -, -, -⟩ := HN.out.own.rows
      have HFN : Hid (CurPrim w p B (.returned (.agg #[.int .i64 n, v])) ((wr.setCell ⟨w.heap.size, 0, none⟩ (.int .i64 n)).setCell ⟨w.heap.size, 1, none⟩ v)) := by
        refine ⟨n, v, vs, xss, rfl, ⟨hn2, hn5, HPU.out, by have := HLEN.out; omega⟩, ?_, (HCR.out.set_far hp).set_far hp, (((B1.out.trans (HB.out.mono (by omega))).trans (But.set_far (Nat.le_refl _) hp)).trans (But.set_far (Nat.le_refl _) hp))⟩
        exact (set_two_ownR HN.out.own (by omega)).mono (by omega) (by simp [World.setCell])
      have w0 := blk_cell (box_set1 (y := v) (box_set0 (y := .int .i64 n) hb9)) 0
      have w1' := blk_cell (box_set1 (y := v) (box_set0 (y := .int .i64 n) hb9)) 1
      obtain ⟨L, hL⟩ : ∃ L, L = xss.length := ⟨_, rfl⟩
      rw [← hL] at ev
      subst ev
      clear HN hb9 hL
      go_wp2
      exact bodyPost_ret (v := .agg #[.int .i64 n, .slice ao L cap]) (by simp [results, Try.results148, go_sem, w0, w1']) rfl HFN.out
set_option maxHeartbeats 1000000 in
theorem MakePrimitive_c (B n m : Nat) (v : Value) (w : World) (hv : BytesV w B v n) (hB : B ≤ w.heap.size) (hn : n ≤ 1048576) (hm : m ≤ 1000) :
    Calls Try.prog 71 #[v, .int .i64 m] w (NetMade w drawnP) := by
  have HV := Lib.hid hv
  clear hv
  have hbx := blk_new w (.cells #[.int .i64 0, .slice none 0 0] 30)
  obtain ⟨W0, hW0⟩ : ∃ W, W = w.alloc (.cells #[.int .i64 0, .slice none 0 0] 30) := ⟨_, rfl⟩
  have HB0 : Hid (Below w.heap.size w W0) := by show Below _ _ _; rw [hW0]; exact (Below.refl _ _).alloc (Nat.le_refl _) _
  have hs0 : W0.heap.size = w.heap.size + 1 := by rw [hW0]; simp
  have HW := Lib.hid hW0
  rw [← hW0] at hbx
  have HBX := Lib.hid hbx
  have hs0' : w.heap.size < W0.heap.size := by omega
  clear hW0 hbx hs0
  have HN := Lib.hid (l31New_c B n m v W0 (HV.out.kept fun k hk => HB0.out.block k (by omega)) (by omega) hn hm)
  go_enter Try.func71, Try.ntmps71
  go_wp2_with fail
  try rw [← HW.out]
  refine HN.out.mono ?_
  rintro e w1 ⟨p, rfl, hp, c1, b1⟩
  have C1 := Lib.hid c1
  have z1 := b1.size
  have HBX1 := Lib.hid (blk_below HBX.out b1 (by omega))
  have B1 : Hid (Below w.heap.size w w1) := HB0.out.trans (b1.mono (by omega))
  have hpl := c1.lt
  clear c1 b1
  go_wp2_with fail
  refine (l05Primitive_c p B w1 C1.out).mono ?_
  rintro e w3 ⟨n, v, vs, xss, rfl, hd, o3, c3, b3⟩
  have z3 := b3.size
  have hb3 := b3.blk HBX1.out (by omega) (by omega)
  have c0 := blk_cell hb3 0
  have c1 := blk_cell hb3 1
  have f0 := blk_free hb3 0
  have f1 := blk_free hb3 1
  obtain ⟨ao, g, cap, ev, -, -, -⟩ := o3.rows
  have HF : Hid (NetMade w drawnP (.returned (.agg #[.int .i64 n, v])) ((w3.setCell ⟨w.heap.size, 0, none⟩ (.int .i64 n)).setCell ⟨w.heap.size, 1, none⟩ v)) := by
    refine ⟨n, v, vs, xss, rfl, hd, ?_, ((B1.out.trans (b3.below (by omega))).setCell (Nat.le_refl _) _).setCell (Nat.le_refl _) _⟩
    exact (set_two_ownR o3 (by omega)).mono (by omega) (by simp [World.setCell])
  obtain ⟨L, hL⟩ : ∃ L, L = xss.length := ⟨_, rfl⟩
  rw [← hL] at ev
  subst ev
  clear o3 c3 b3 hb3 hL hd
  go_wp2
  exact bodyPost_ret (v := .agg #[.int .i64 n, .slice ao L cap]) (by simp [results, Try.results71, go_sem, c0, c1]) rfl HF.out
set_option maxHeartbeats 1000000 in
theorem SortsOrder_y (n : Nat) (lo hi lo2 hi2 : Nat) (v : Value) (vs : List Value) (xss : List (List Int)) (u : Value) (ls : List Int) (w : World) (hv : OwnR w lo hi v vs xss) (hhi : hi ≤ w.heap.size) (hok : netOk n xss = true) (hu : IntsV w lo2 hi2 u ls) (hh2 : hi2 ≤ w.heap.size) (hln : ls.length = n) :
    Calls Try.prog 149 #[.agg #[.int .i64 n, v], u] w fun e w' => e = .returned (.bool (risesB (applyP xss ls))) ∧ Below w.heap.size w w' := by
  have hn8 : n ≤ 8 := by have := (netOk_n hok).2; omega
  have HA : Hid (∀ w1, Below w.heap.size w w1 → Calls Try.prog 34 #[.agg #[.int .i64 n, v], u] w1 fun e w' => ∃ r, e = .returned (.tuple #[r, .bool true]) ∧ OwnI w' w1.heap.size w'.heap.size r (applyP xss ls) ∧ Below w1.heap.size w1 w') := fun w1 h1 =>
    ApplyNetwork_y n lo hi lo2 hi2 v vs xss u ls w1 (hv.below h1 hhi) (by have := h1.size; omega) hok (hu.below h1 hh2) (by have := h1.size; omega) hln
  have HAL : Hid ((applyP xss ls).length ≤ 8) := by show _ ≤ _; rw [applyP_len, hln]; exact hn8
  obtain ⟨ao, g, cap, rfl, -, -, -⟩ := hv.rows
  obtain ⟨bo, b, off, cap2, rfl, -, -, -⟩ := hu
  obtain ⟨S, hS⟩ : ∃ S, S = applyP xss ls := ⟨_, rfl⟩
  obtain ⟨L, hL⟩ : ∃ L, L = xss.length := ⟨_, rfl⟩
  obtain ⟨M, hM⟩ : ∃ M, M = ls.length := ⟨_, rfl⟩
  rw [← hS] at HA HAL ⊢
  rw [← hL] at HA ⊢
  rw [← hM] at HA ⊢
  clear hv hS hL hM hok hln
  go_enter Try.func149, Try.ntmps149
  go_wp2_with fail
  obtain ⟨W1, hW1, c0, c1, hsz, hB1, -, -⟩ := box2 w (.int .i64 n) (.slice ao L cap) 30
  rw [hW1]
  clear hW1
  refine (HA.out W1 hB1).mono ?_
  rintro e w2 ⟨r, rfl, o2, b2⟩
  have B2 := Lib.hid (hB1.trans (b2.mono hB1.size))
  have HS := Lib.hid (IsSorted_c W1.heap.size w2.heap.size r S w2 o2.ints (Nat.le_refl _) (by have := HAL.out; omega))
  obtain ⟨ao3, g3, cap3, rfl, -, -, -⟩ := OwnI.view o2
  clear o2 b2 c0 c1 hB1
  go_wp2_with fail
  refine HS.out.mono ?_
  rintro e w3 ⟨rfl, b3⟩
  have B3 : Hid (Below w.heap.size w w3) := B2.out.trans (b3.mono B2.out.size)
  clear b3
  go_wp2
  go_ret
  exact ⟨rfl, B3.out⟩
set_option maxHeartbeats 1000000 in
theorem SortsReverse_y (n : Nat) (lo hi : Nat) (v : Value) (vs : List Value) (xss : List (List Int)) (w : World) (hv : OwnR w lo hi v vs xss) (hhi : hi ≤ w.heap.size) (hok : netOk n xss = true) :
    Calls Try.prog 72 #[.agg #[.int .i64 n, v]] w fun e w' => e = .returned (.bool (risesB (applyP xss (dnL n)))) ∧ Below w.heap.size w w' := by
  have hn8 : n ≤ 8 := by have := (netOk_n hok).2; omega
  have HC : Hid (∀ w1, Below w.heap.size w w1 → Calls Try.prog 94 #[.agg #[.int .i64 n, v]] w1 fun e w' => e = .returned (.bool true) ∧ Below w1.heap.size w1 w') := fun w1 h1 => by
    have := NetworkOk_c n lo hi v vs xss w1 (hv.below h1 hhi) (by have := h1.size; omega)
    rwa [hok] at this
  have HA : Hid (∀ w1 lo2 u, Below w.heap.size w w1 → OwnI w1 lo2 w1.heap.size u (dnL n) → Calls Try.prog 149 #[.agg #[.int .i64 n, v], u] w1 fun e w' => e = .returned (.bool (risesB (applyP xss (dnL n)))) ∧ Below w1.heap.size w1 w') := fun w1 lo2 u h1 h2 =>
    SortsOrder_y n lo hi _ _ v vs xss u (dnL n) w1 (hv.below h1 hhi) (by have := h1.size; omega) hok h2.ints (Nat.le_refl _) (dnL_len n)
  obtain ⟨ao, g, cap, rfl, -, -, -⟩ := hv.rows
  obtain ⟨R, hR⟩ : ∃ R, R = risesB (applyP xss (dnL n)) := ⟨_, rfl⟩
  obtain ⟨L, hL⟩ : ∃ L, L = xss.length := ⟨_, rfl⟩
  rw [← hL] at HC HA ⊢
  rw [← hR] at HA ⊢
  clear hv hR hL hok
  have dn_succ : ∀ k, ((List.range (k + 1)).map fun t : Nat => (n : Int) - 1 - t) = ((List.range k).map fun t : Nat => (n : Int) - 1 - t) ++ [(n : Int) - 1 - k] := fun k => by rw [List.range_succ, List.map_append]; rfl
  have DNS := Lib.hid dn_succ
  clear dn_succ
  go_enter Try.func72, Try.ntmps72
  go_wp2_with fail
  obtain ⟨W1, hW1, c0, c1, hsz, hB1, -, -⟩ := box2 w (.int .i64 n) (.slice ao L cap) 30
  rw [hW1]
  clear hW1
  refine (HC.out W1 hB1).mono ?_
  rintro e w2 ⟨rfl, b2⟩
  obtain ⟨c0, c1, hz0⟩ := boxC b2 (by omega) c0 c1
  have B2 := Lib.hid (hB1.trans (b2.mono hB1.size))
  have hz2 := b2.size
  clear b2
  go_wp2_with fail
  obtain ⟨W, hW⟩ : ∃ W, W = w2.alloc (.cells #[] 3) := ⟨_, rfl⟩
  have HI : Hid (OwnI W w2.heap.size W.heap.size (.slice (some ⟨w2.heap.size, 0, none⟩) 0 0) []) := by show OwnI _ _ _ _ _; rw [hW]; exact Own.mono (ownI_empty w2) (Nat.le_refl _) (by simp)
  have HBW : Hid (Below w2.heap.size w2 W) := by show Below _ _ _; rw [hW]; exact (Below.refl _ _).alloc (Nat.le_refl _) _
  obtain ⟨c0, c1, hz0⟩ := boxC HBW.out hz0 c0 c1
  have C0 := Lib.hid c0
  have C1 := Lib.hid c1
  rw [← hW]
  clear hW hB1
  go_loopw [3, 11] (fun v i wr => ∃ k : Nat, k ≤ n ∧ i = .int .i64 (k : Int) ∧ OwnI wr w2.heap.size wr.heap.size v ((List.range k).map fun t : Nat => (n : Int) - 1 - t) ∧ Below w2.heap.size W wr) (fun _ i _ => n - (intOf i).toNat)
  case atStart => exact ⟨0, by omega, by go_num, by simpa using HI.out, (Below.refl _ _)⟩
  case round =>
    obtain ⟨k, hk, rfl, hR, hB⟩ := hrel
    have HR := Lib.hid hR
    have HB := Lib.hid hB
    have hz := hB.size
    have hzW := HBW.out.size
    have d0 := (hB.cell (p := ⟨w.heap.size, 0, none⟩) (by show w.heap.size < w2.heap.size; omega)).trans C0.out
    have d1 := (hB.cell (p := ⟨w.heap.size, 1, none⟩) (by show w.heap.size < w2.heap.size; omega)).trans C1.out
    have HL : Hid ((((List.range k).map fun t : Nat => (n : Int) - 1 - t)).length ≤ 100000000) := by show _ ≤ _; simp; omega
    have hz2r : w2.heap.size ≤ wr.heap.size := by omega
    clear hR hB
    by_cases hlt : k < n
    · have hik : (k : Int) < (n : Int) := by omega
      go_wp2_with (at_builtin; refine wpList_app_int rfl (.tmp 14) (.tmp 20) rfl wr _ w2.heap.size wr.heap.size _ _ HR.out hz2r HL.out rfl rfl ?_; intro ao L cap w1 hL o1 b1 z1; have O1 := Lib.hid o1; clear o1)
      go_roundw
      case rel => exact ⟨k + 1, by omega, by go_num, by rw [DNS.out]; exact O1.out, HB.out.trans b1⟩
      case measure => simp [intOf]; omega
    · have hik : ¬ (k : Int) < (n : Int) := by omega
      have HE : Hid (k = n) := by show k = n; omega
      have HBr : Hid (Below w.heap.size w wr) := B2.out.trans ((HBW.out.trans HB.out).mono (by omega))
      have o9 := HR.out
      rw [HE.out] at o9
      have HA9 := Lib.hid (HA.out wr w2.heap.size _ HBr.out o9)
      clear o9
      go_wp2_with fail
      refine HA9.out.mono ?_
      rintro e w3 ⟨rfl, b3⟩
      have B3 : Hid (Below w.heap.size w w3) := HBr.out.trans (b3.mono HBr.out.size)
      clear b3
      go_wp2
      go_ret
      exact ⟨rfl, B3.out⟩
end Go.Proofs.Ytiodolbgapjmkaa

namespace Go.Proofs.Ytiodolbgapjmkaa
open Go.RowKit
set_option maxRecDepth 100000
set_option linter.unusedVariables false
set_option linter.unusedSimpArgs false

/-- The network without the wire comes back. -/
def CutC (w : World) (most : Bool) (n wire : Nat) (xss : List (List Int)) (e : Ending) (w' : World) : Prop :=
  ∃ nm, nmP n (cutX most n wire xss) nm ∧ NetC w ((n - 1 : Nat) : Int) (cutN nm (cutX most n wire xss).2.2) true e w'
theorem ownI_made (w : World) (n : Nat) (hn : n ≤ 1000) : OwnI (w.alloc (.cells (madeCells #[Value.int .i64 0] n) 3)) w.heap.size (w.heap.size + 1) (.slice (some ⟨w.heap.size, 0, none⟩) n n) (List.replicate n 0) := by
  have h := own_of_rowIs (World.rowIs_made w (.int .i64 0) n 3) (Nat.le_refl w.heap.size) (by unfold maxLen; omega)
  have e : ((List.range n).map fun _ : Nat => (Value.int .i64 0)) = ivs (List.replicate n 0) := by
    unfold ivs
    rw [List.map_replicate]
    apply List.ext_getElem?
    intro i
    by_cases h : i < n <;> simp [h]
  rw [e] at h
  exact Own.mono h (Nat.le_refl _) (by simp)
/-- How many of the first k wires are not the special one. -/
theorem posn_step {sp k : Nat} (h : k ≠ sp) : (if k ≤ sp then k else k - 1) = posn sp k := by
  unfold posn
  split <;> split <;> omega
set_option maxHeartbeats 8000000 in
theorem CutWire_y (n wire : Nat) (most : Bool) (lo hi : Nat) (v : Value) (vs : List Value) (xss : List (List Int)) (w : World) (hv : OwnR w lo hi v vs xss) (hhi : hi ≤ w.heap.size) (hok : netOk n xss = true) (hst : stdB xss = true) (h2 : 2 ≤ n) (hw : wire < n) :
    Calls Try.prog 73 #[.agg #[.int .i64 n, v], .int .i64 wire, .bool most] w (CutC w most n wire xss) := by
  have HS : Hid (∀ w1, Below w.heap.size w w1 → Calls Try.prog 39 #[.agg #[.int .i64 n, v]] w1 fun e w' => e = .returned (.bool true) ∧ Below w1.heap.size w1 w') := fun w1 h1 => by
    have := IsStandard_y n lo hi v vs xss w1 (hv.below h1 hhi) (by have := h1.size; omega) hok
    rwa [hst] at this
  have HWI : Hid (∀ w1, Calls Try.prog 128 #[.agg #[.int .i64 n, v], .int .i64 wire] w1 fun e w' => e = .returned (.bool true) ∧ Below w1.heap.size w1 w') := fun w1 => by
    have := isWire_c n wire v w1
    rwa [inB_mk (by omega)] at this
  have HP := Lib.hid (netOk_pair hok)
  have HCP := Lib.hid (cutX_p (most := most) (pairsOf_of_ok hok) hw)
  have HCL := Lib.hid (cutX_len (most := most) (n := n) (w := wire) (xss := xss))
  have hl60 := netOk_len hok
  have hn := netOk_n hok
  have hn8 : n ≤ 8 := by omega
  have hne1 : ((n : Int) == 1) = false := by simp; omega
  obtain ⟨ao, g, cap, A, G, C, rfl, hcap, hao, hrow⟩ := hv.view
  have HRW := Lib.hid hrow
  obtain ⟨L, hlen⟩ : ∃ l, l = xss.length := ⟨_, rfl⟩
  have HLEN := Lib.hid hlen
  rw [← hlen] at HS HWI hl60 hcap hao HRW HP HCP ⊢
  clear hv hlen hok hrow hn hst
  have hmk := run_make_row' (P := Try.prog) 22 3 (.int .i64 0) 8 (by kernel_rfl) (by kernel_rfl) rfl .i64 .i64 n (by omega) (by omega)
  have HMK := Lib.hid hmk
  clear hmk
  go_enter Try.func73, Try.ntmps73
  go_wp2_with fail
  obtain ⟨W1, hW1, c0, c1, hsz, hB1, -, -⟩ := box2 w (.int .i64 n) (.slice ao L cap) 30
  have hb9 := blk_new W1 (.cells #[.int .i64 0, .slice none 0 0] 30)
  obtain ⟨W2, hW2⟩ : ∃ W, W = W1.alloc (.cells #[.int .i64 0, .slice none 0 0] 30) := ⟨_, rfl⟩
  have hBa : Below W1.heap.size W1 W2 := by rw [hW2]; exact (Below.refl _ _).alloc (Nat.le_refl _) _
  have hs2 : W2.heap.size = W1.heap.size + 1 := by rw [hW2]; simp
  rw [← hW2] at hb9
  obtain ⟨c0, c1, hz0⟩ := boxC hBa (by omega) c0 c1
  have hB2 : Below w.heap.size w W2 := hB1.trans (hBa.mono (by omega))
  rw [hsz] at hb9
  try rw [hW1, ← hW2]
  have hw2 : w.heap.size + 1 < W2.heap.size := by omega
  clear hW1 hW2 hBa hs2 hsz hB1
  refine (HS.out W2 hB2).mono ?_
  rintro e w2 ⟨rfl, b2⟩
  obtain ⟨c0, c1, hz0⟩ := boxC b2 hz0 c0 c1
  have HR2 := Lib.hid (blk_below hb9 b2 hw2)
  have HB2 : Hid (Below w.heap.size w w2) := hB2.trans (b2.mono (by omega))
  have hw2' : w.heap.size + 1 < w2.heap.size := by have := b2.size; omega
  clear hb9 b2 hB2 HS
  go_wp2_with fail
  refine (HWI.out w2).mono ?_
  rintro e w3 ⟨rfl, b3⟩
  obtain ⟨d0, d1, z3⟩ := boxC b3 hz0 c0 c1
  have HR9 := Lib.hid (blk_below HR2.out b3 hw2')
  have HB3 : Hid (Below w.heap.size w w3) := HB2.out.trans (b3.mono (by omega))
  have hw3 : w.heap.size + 1 < w3.heap.size := by have := b3.size; omega
  clear c0 c1 b3 HWI
  go_wp2_with fail
  obtain ⟨W, hW⟩ : ∃ W, W = w3.alloc (.cells #[] 3) := ⟨_, rfl⟩
  have HI : Hid (OwnI W w3.heap.size W.heap.size (.slice (some ⟨w3.heap.size, 0, none⟩) 0 0) []) := by show OwnI _ _ _ _ _; rw [hW]; exact Own.mono (ownI_empty w3) (Nat.le_refl _) (by simp)
  have HBW : Hid (Below w3.heap.size w3 W) := by show Below _ _ _; rw [hW]; exact (Below.refl _ _).alloc (Nat.le_refl _) _
  obtain ⟨d0, d1, z3W⟩ := boxC HBW.out z3 d0 d1
  rw [← hW]
  clear hW
  go_loopw [8, 42] (fun v i wr => ∃ k : Nat, k ≤ n ∧ i = .int .i64 (k : Int) ∧ OwnI wr w3.heap.size wr.heap.size v (upI 0 k) ∧ Below w3.heap.size w3 wr ∧ wr.cell? ⟨w.heap.size, 0, none⟩ = some (.int .i64 n) ∧ wr.cell? ⟨w.heap.size, 1, none⟩ = some (.slice ao L cap)) (fun _ i _ => n - (intOf i).toNat)
  case atStart => exact ⟨0, by omega, by go_num, by simpa [upI] using HI.out, HBW.out, d0, d1⟩
  case round =>
    obtain ⟨k, hk, rfl, hR, hB, d0, d1⟩ := hrel
    have HR := Lib.hid hR
    have HB := Lib.hid hB
    have hz := hB.size
    have HL : Hid ((upI 0 k).length ≤ 100000000) := by show _ ≤ _; rw [upI_length]; omega
    clear hR hB
    by_cases hlt : k < n
    · have hik : (k : Int) < (n : Int) := by omega
      go_wp2_with (at_builtin; refine wpList_app_int rfl (.tmp 45) (.tmp 47) rfl wr (k : Int) w3.heap.size wr.heap.size _ (upI 0 k) HR.out hz HL.out rfl rfl ?_; intro ao L cap w1 hL o1 b1 z1; have O1 := Lib.hid o1; have e0 := (b1.cell (p := ⟨w.heap.size, 0, none⟩) (by show w.heap.size < _; omega)).trans d0; have e1 := (b1.cell (p := ⟨w.heap.size, 1, none⟩) (by show w.heap.size < _; omega)).trans d1; clear o1)
      go_roundw
      case rel => exact ⟨k + 1, by omega, by go_num, by rw [upI_succ, Int.zero_add]; exact O1.out, HB.out.trans b1, e0, e1⟩
      case measure => simp [intOf]; omega
    · have hik : ¬ (k : Int) < (n : Int) := by omega
      have HE : Hid (k = n) := by show k = n; omega
      obtain ⟨w4, rfl⟩ : ∃ W : World, W = wr := ⟨_, rfl⟩
      have HB4 : Hid (Below w.heap.size w w4) := HB3.out.trans (HB.out.mono (by omega))
      have HR4 := Lib.hid (blk_below HR9.out HB.out hw3)
      have zb4 := hz
      have o4 := HR.out
      rw [HE.out] at o4
      obtain ⟨ao4, g4, cap4, e4, -, ha4, -⟩ := OwnI.view o4
      rw [upI_length] at e4 ha4
      obtain ⟨e5, gk1, gk2⟩ := ha4 (by omega)
      subst e5
      subst e4
      have O4 := Lib.hid o4
      clear o4 HR HI HBW z3W
      obtain ⟨W5, hW5⟩ : ∃ W, W = w4.alloc (.cells #[] 22) := ⟨_, rfl⟩
      have hB5 : Below w4.heap.size w4 W5 := by rw [hW5]; exact (Below.refl _ _).alloc (Nat.le_refl _) _
      have hs5 : W5.heap.size = w4.heap.size + 1 := by rw [hW5]; simp
      have HO5 : Hid (OwnR W5 w4.heap.size W5.heap.size (.slice (some ⟨w4.heap.size, 0, none⟩) 0 0) [] []) := by show OwnR _ _ _ _ _ _; rw [hW5]; exact (ownR_empty w4).mono (Nat.le_refl _) (by simp)
      have HW5 := Lib.hid hW5
      clear ha4
      have HE2 := HE
      clear HE
      have hzw3 := HB3.out.size
      have D0 := Lib.hid d0
      have D1 := Lib.hid d1
      have d0 := (hB5.cell (p := ⟨w.heap.size, 0, none⟩) (by show w.heap.size < w4.heap.size; omega)).trans d0
      have d1 := (hB5.cell (p := ⟨w.heap.size, 1, none⟩) (by show w.heap.size < w4.heap.size; omega)).trans d1
      rw [hW5] at d0 d1
      clear hW5
      go_wp2_with fail
      try rw [← HW5.out]
      rw [← HW5.out] at d0 d1
      clear hlt hk hik
      go_loopw [10, 11, 55] (fun spv kv t wr => ∃ k : Nat, k ≤ L ∧ t = .int .i64 k ∧ ∃ (v : Value) (vs : List Value) (at_ : List Int) (sp : Nat) (ks : List (List Int)), cutX most n wire (xss.take k) = (at_, sp, ks) ∧ spv = .int .i64 sp ∧ v = kv ∧ OwnR wr w4.heap.size wr.heap.size v vs ks ∧ Hid (OwnI wr w3.heap.size w4.heap.size (.slice (some ⟨g4, 0, none⟩) n cap4) at_) ∧ Below w3.heap.size w4 wr ∧ w4.heap.size < wr.heap.size) (fun _ _ t _ => L - (intOf t).toNat)
      case atStart => exact ⟨0, Nat.zero_le _, rfl, _, [], _, _, _, rfl, rfl, rfl, HO5.out, Own.below O4.out hB5 (Nat.le_refl _), hB5.mono zb4, by omega⟩
      case round =>
        obtain ⟨k, hk, rfl, v, vs, at_, sp, ks, hcx, rfl, rfl, hO, HO, hB, hXl⟩ := hrel
        have HOK := Lib.hid hO
        have HB := Lib.hid hB
        have HCX := Lib.hid hcx
        have hcp := HCP.out k hk
        have hcl := HCL.out k
        rw [hcx] at hcp hcl
        obtain ⟨hpm, hsp, hasp, hkept⟩ := hcp
        simp only at hpm hsp hcl
        have HPM := Lib.hid hpm
        have HASP := Lib.hid hasp
        have HKEPT := Lib.hid hkept
        clear hcx hO hasp hkept hB5
        by_cases hlt : k < L
        · obtain ⟨i, j, hr, hi1, hj1, hne⟩ := HP.out k hlt
          obtain ⟨q1, q2, q3, q4⟩ := HRW.out k hlt
          obtain ⟨ha0, hg1, hg2⟩ := hao (by omega)
          subst ha0
          have HX0 : Hid (cutX most n wire (xss.take (k + 1)) = cutStp most (at_, sp, ks) i j) := by
            show _ = _
            rw [cutX_take (by have := HLEN.out; omega) hr, HCX.out]
          rw [hr] at q1 q2 q3 q4
          obtain ⟨ea, gk3, gk4⟩ := q3 (by simp)
          rw [ea] at q1
          have hnl : at_.length = n := hpm.1
          have HNL := Lib.hid hnl
          obtain ⟨ci1, ci2, ci3⟩ := HO.out.cellAt i (by omega)
          obtain ⟨cj1, cj2, -⟩ := HO.out.cellAt j (by omega)
          obtain ⟨a, ha⟩ : ∃ a : Int, at_.getD i 0 = a := ⟨_, rfl⟩
          obtain ⟨b, hb⟩ : ∃ b : Int, at_.getD j 0 = b := ⟨_, rfl⟩
          rw [ha] at ci1
          rw [hb] at cj1
          have hbw : Below w.heap.size w wr := HB4.out.trans (hB.mono (by omega))
          have c0 : wr.cell? ⟨g, k, none⟩ = some (.slice (some ⟨G k, 0, none⟩) 2 (C k)) := (hbw.cell (p := ⟨g, k, none⟩) (by show g < _; omega)).trans q1
          have c1 : wr.cell? ⟨G k, 0, none⟩ = some (.int .i64 i) := (hbw.cell (p := ⟨G k, 0, none⟩) (by show G k < _; omega)).trans (q4 0 (by simp))
          have c2 : wr.cell? ⟨G k, 1, none⟩ = some (.int .i64 j) := (hbw.cell (p := ⟨G k, 1, none⟩) (by show G k < _; omega)).trans (q4 1 (by simp))
          have hGk : G k < wr.heap.size := by have := hbw.size; omega
          have hii : (i : Int) < (n : Int) := by omega
          have hjj : (j : Int) < (n : Int) := by omega
          have HLN : Hid (ks.length ≤ 1000000) := by show _ ≤ _; omega
          have HHB := Lib.hid hb
          have HHA := Lib.hid ha
          have HNE := Lib.hid hne
          clear hpm hnl ha hb hr ea q1 q2 q3 q4 hB hbw hcl
          go_wp2_with fail
          refine wp_region_later wr.heap.size wr (by kernel_rfl) (by kernel_rfl) (Below.refl _ _) ?_
          have hLW := LW.cells (B := wr.heap.size) (w0 := wr)
          repeat (go_big_quiet_step (fail))
          refine wpQuiet_nil ?_
          rintro w2 ⟨⟨w2s, hb2⟩, rfl⟩
          clear hLW
          have HB2' := Lib.hid hb2
          have hz2 := hb2.size
          have f3 := (hb2.cell (p := ⟨g4, i, none⟩) ci3).trans ci1
          have f4 := (hb2.cell (p := ⟨g4, j, none⟩) ci3).trans cj1
          have f5 := (hb2.frozen (p := ⟨g4, i, none⟩) ci3).trans ci2
          have f6 := (hb2.frozen (p := ⟨g4, j, none⟩) ci3).trans cj2
          have HO2 : Hid (OwnI w2 w3.heap.size w4.heap.size (.slice (some ⟨g4, 0, none⟩) n cap4) at_) := Own.below HO.out hb2 (by omega)
          have HK2 : Hid (OwnR w2 w4.heap.size w2.heap.size v vs ks) := (HOK.out.below hb2 (Nat.le_refl _)).mono (Nat.le_refl _) hz2
          have HB22 : Hid (Below w3.heap.size w4 w2) := HB.out.trans (hb2.mono (by omega))
          clear c0 c1 c2 ci1 ci2 cj1 cj2 hb2
          by_cases hisp : i = sp
          rotate_left
          · by_cases hjsp : j = sp
            rotate_left
            · have HX : Hid (cutX most n wire (xss.take (k + 1)) = (at_, sp, ks ++ [[a, b]])) := by
                show _ = _
                rw [HX0.out]
                unfold cutStp
                rw [if_pos (by exact ⟨hisp, hjsp⟩)]
                simp only
                rw [HHA.out, HHB.out]
              have t1 : ((i : Int) != (sp : Int)) = true := by simp; omega
              have t2 : ((j : Int) != (sp : Int)) = true := by simp; omega
              clear HX0
              go_wp2_with fail
              have HRd := Lib.hid (HK2.out.kept (w' := w2.drew) fun _ _ _ _ => rfl)
              have hz2d : w4.heap.size ≤ w2.drew.heap.size := by show w4.heap.size ≤ w2.heap.size; omega
              have HSS : Hid (∀ W', Below w4.heap.size w2 W' → (fun W' => W'.cell? ⟨g4, i, none⟩ = some (.int .i64 a) ∧ W'.cell? ⟨g4, j, none⟩ = some (.int .i64 b)) W') := fun W' hb =>
                ⟨(hb.cell (p := ⟨g4, i, none⟩) gk2).trans f3, (hb.cell (p := ⟨g4, j, none⟩) gk2).trans f4⟩
              have hA1 : ∀ X : Obj, Below w4.heap.size w2 (w2.drew.alloc X) := fun X => (Below.refl _ _).drew.alloc hz2d _
              have hA2 : ∀ X Y : Obj, Below w4.heap.size w2 ((w2.drew.alloc X).alloc Y) := fun X Y => (hA1 X).alloc (by have h9 : w4.heap.size ≤ w2.drew.heap.size := hz2d; simp; omega) _
              have HA1 := Lib.hid hA1
              have HA2 := Lib.hid hA2
              clear hA1 hA2
              have HKK : Hid (keptC 0 0 w2.drew w2.drew v) := fun k k1 k2 => by omega
              have h00 : 0 ≤ w2.drew.heap.size := Nat.zero_le _
              go_region_held3 (fun W' => W'.cell? ⟨g4, i, none⟩ = some (.int .i64 a) ∧ W'.cell? ⟨g4, j, none⟩ = some (.int .i64 b)) (first | exact ⟨f3, f4⟩ | exact HSS.out _ (HA2.out _ _) | exact HSS.out _ (HA1.out _) | exact HSS.out _ Q8.out | fail) (first | (refine wp_app_pairC (.tmp 73) (.tmp 83) rfl w2.drew a b w4.heap.size _ vs ks 0 0 w2.drew HRd.out hz2d HKK.out h00 HLN.out rfl rfl ?_; intro g' L' cap' w8 vs8 hL8 o8 q8 z8 k8 y8; have O8 := Lib.hid o8; have Q8 := Lib.hid (undrew q8); clear o8 k8 q8) | fail)
              all_goals
                go_wp2_with fail
                go_roundw
                case rel => exact ⟨k + 1, by omega, by go_num, _, vs8, _, _, _, HX.out, rfl, rfl, O8.out, Own.below HO2.out Q8.out (Nat.le_refl _), HB22.out.trans (Q8.out.mono (by omega)), by have h9 : w2.drew.heap.size ≤ w8.heap.size := y8; have h10 : w2.drew.heap.size = w2.heap.size := rfl; omega⟩
                case measure => simp [intOf]; omega
            · subst hjsp
              cases most
              · have t1 : ((i : Int) != (j : Int)) = true := by simp; omega
                have t2 : ((j : Int) != (j : Int)) = false := by simp
                have HX : Hid (cutX false n wire (xss.take (k + 1)) = ((at_.set i b).set j a, i, ks)) := by
                  show _ = _
                  rw [HX0.out]
                  unfold cutStp
                  rw [if_neg (by rintro ⟨q1, q2⟩; exact absurd rfl (by first | exact q1 | exact q2))]
                  simp only [Bool.false_eq_true, if_true, Bool.false_eq_true, if_false]
                  rw [if_pos (by first | exact HNE.out | exact Ne.symm HNE.out), HHA.out, HHB.out]
                clear HX0
                go_wp2_with fail
                refine wpV_start (S := fun W' : World => W'.cell? ⟨g4, i, none⟩ = some (.int .i64 a) ∧ W'.cell? ⟨g4, j, none⟩ = some (.int .i64 b)) (m := 13) (S2 := fun _ : World => True) (m2 := 15) (by kernel_rfl) ?_
                have hHeld : (fun W' : World => W'.cell? ⟨g4, i, none⟩ = some (.int .i64 a) ∧ W'.cell? ⟨g4, j, none⟩ = some (.int .i64 b)) w2.drew ∧ (fun _ : World => True) w2.drew := ⟨⟨f3, f4⟩, trivial⟩
                refine wpV_take (i := 0) (v := ?_) rfl (by kernel_rfl) (fun _ _ _ h => h) ⟨by rfl, ?_⟩ hHeld ?_
                rotate_left
                · (intro w hSw; (try dsimp only at hSw); go_simp; try with_reducible rfl)
                try simp only [Act.put, List.setIfInBounds_toArray, List.set_cons_zero, List.set_cons_succ]
                refine wpV_take (i := 1) (v := ?_) rfl (by kernel_rfl) (fun _ _ _ h => h) ⟨by rfl, ?_⟩ hHeld ?_
                rotate_left
                · (intro w hSw; (try dsimp only at hSw); go_simp; try with_reducible rfl)
                try simp only [Act.put, List.setIfInBounds_toArray, List.set_cons_zero, List.set_cons_succ]
                refine wpV_swap ?_
                refine wpV_take (i := 2) (v := ?_) rfl (by kernel_rfl) (fun _ _ _ h => h) ⟨by rfl, ?_⟩ hHeld.symm ?_
                rotate_left
                · (intro w hSw; (try dsimp only at hSw); go_simp; try with_reducible rfl)
                try simp only [Act.put, List.setIfInBounds_toArray, List.set_cons_zero, List.set_cons_succ]
                refine wpV_take (i := 3) (v := ?_) rfl (by kernel_rfl) (fun _ _ _ h => h) ⟨by rfl, ?_⟩ hHeld.symm ?_
                rotate_left
                · (intro w hSw; (try dsimp only at hSw); go_simp; try with_reducible rfl)
                try simp only [Act.put, List.setIfInBounds_toArray, List.set_cons_zero, List.set_cons_succ]
                refine wpV_swap ?_
                refine wpV_take (i := 4) (v := ?_) rfl (by kernel_rfl) (fun _ _ _ h => h) ⟨by rfl, ?_⟩ hHeld ?_
                rotate_left
                · (intro w hSw; (try dsimp only at hSw); go_simp; try with_reducible rfl)
                try simp only [Act.put, List.setIfInBounds_toArray, List.set_cons_zero, List.set_cons_succ]
                refine wpV_take (i := 5) (v := ?_) rfl (by kernel_rfl) (fun _ _ _ h => h) ⟨by rfl, ?_⟩ hHeld ?_
                rotate_left
                · (intro w hSw; (try dsimp only at hSw); go_simp; try with_reducible rfl)
                try simp only [Act.put, List.setIfInBounds_toArray, List.set_cons_zero, List.set_cons_succ]
                refine wpV_take (i := 6) (v := ?_) rfl (by kernel_rfl) (fun _ _ _ h => h) ⟨by rfl, ?_⟩ hHeld ?_
                rotate_left
                · (intro w hSw; (try dsimp only at hSw); go_simp; try with_reducible rfl)
                try simp only [Act.put, List.setIfInBounds_toArray, List.set_cons_zero, List.set_cons_succ]
                refine wpV_take (i := 7) (v := ?_) rfl (by kernel_rfl) (fun _ _ _ h => h) ⟨by rfl, ?_⟩ hHeld ?_
                rotate_left
                · (intro w hSw; (try dsimp only at hSw); go_simp; try with_reducible rfl)
                try simp only [Act.put, List.setIfInBounds_toArray, List.set_cons_zero, List.set_cons_succ]
                refine wpV_swap ?_
                refine wpV_take (i := 8) (v := ?_) rfl (by kernel_rfl) (fun _ _ _ h => h) ⟨by rfl, ?_⟩ hHeld.symm ?_
                rotate_left
                · (intro w hSw; (try dsimp only at hSw); go_simp; try with_reducible rfl)
                try simp only [Act.put, List.setIfInBounds_toArray, List.set_cons_zero, List.set_cons_succ]
                refine wpV_take (i := 9) (v := ?_) rfl (by kernel_rfl) (fun _ _ _ h => h) ⟨by rfl, ?_⟩ hHeld.symm ?_
                rotate_left
                · (intro w hSw; (try dsimp only at hSw); go_simp; try with_reducible rfl)
                try simp only [Act.put, List.setIfInBounds_toArray, List.set_cons_zero, List.set_cons_succ]
                refine wpV_take (i := 10) (v := ?_) rfl (by kernel_rfl) (fun _ _ _ h => h) ⟨by rfl, ?_⟩ hHeld.symm ?_
                rotate_left
                · (intro w hSw; (try dsimp only at hSw); go_simp; try with_reducible rfl)
                try simp only [Act.put, List.setIfInBounds_toArray, List.set_cons_zero, List.set_cons_succ]
                refine wpV_swap ?_
                refine wpV_take (i := 11) (v := ?_) rfl (by kernel_rfl) (fun _ _ _ h => h) ⟨by rfl, ?_⟩ hHeld ?_
                rotate_left
                · (intro w hSw; (try dsimp only at hSw); go_simp; try with_reducible rfl)
                try simp only [Act.put, List.setIfInBounds_toArray, List.set_cons_zero, List.set_cons_succ]
                refine wpV_take (i := 12) (v := ?_) rfl (by kernel_rfl) (fun _ _ _ h => h) ⟨by rfl, ?_⟩ hHeld ?_
                rotate_left
                · (intro w hSw; (try dsimp only at hSw); go_simp; try with_reducible rfl)
                try simp only [Act.put, List.setIfInBounds_toArray, List.set_cons_zero, List.set_cons_succ]
                refine wpV_one (by kernel_rfl) rfl (fun K hK => ?_)
                go_simp
                refine hK.out _ _ (trivial) ?_
                clear hK K
                try simp only [Act.put, List.setIfInBounds_toArray, List.set_cons_zero, List.set_cons_succ]
                refine wpV_next (i := 14) (by kernel_rfl) rfl (by kernel_rfl) (fun K hK => ?_)
                go_simp
                refine hK.out _ _ (.inr (trivial)) ?_
                clear hK K
                try simp only [Act.put, List.setIfInBounds_toArray, List.set_cons_zero, List.set_cons_succ]
                refine wpV_next (i := 15) (by kernel_rfl) rfl (by kernel_rfl) (fun K hK => ?_)
                go_simp
                refine hK.out _ _ (.inl rfl) ?_
                clear hK K
                try simp only [Act.put, List.setIfInBounds_toArray, List.set_cons_zero, List.set_cons_succ]
                refine wpV_done (by kernel_rfl) ?_ _
                obtain ⟨W6, hW6⟩ : ∃ W, W = ((w2.setCell ⟨g4, i, none⟩ (.int .i64 b)).setCell ⟨g4, j, none⟩ (.int .i64 a)).drew := ⟨_, rfl⟩
                have HO6 : Hid (OwnI W6 w3.heap.size w4.heap.size (.slice (some ⟨g4, 0, none⟩) n cap4) ((at_.set i b).set j a)) := by show OwnI _ _ _ _ _; rw [hW6]; exact (OwnI.store (Own.kept (w' := w2.drew) HO2.out fun _ _ _ _ => rfl) HNL.out.symm i b).store (by rw [List.length_set]; exact HNL.out.symm) j a
                have HB6 : Hid (Below w3.heap.size w4 W6) := by show Below _ _ _; rw [hW6]; exact (HB22.out.drew.setCell gk1 _).setCell gk1 _
                have hz6 : W6.heap.size = w2.heap.size := by rw [hW6]; show ((w2.setCell _ _).setCell _ _).heap.size = _; simp [World.setCell]
                have HK6 : Hid (OwnR W6 w4.heap.size W6.heap.size v vs ks) := by
                  show OwnR _ _ _ _ _ _
                  rw [hz6]
                  refine HK2.out.kept fun k h1 _ _ => ?_
                  rw [hW6]
                  show ((w2.setCell _ _).setCell _ _).heap[k]? = _
                  rw [Below.heap_setCell _ _ _ _ (by show k ≠ g4; omega), Below.heap_setCell _ _ _ _ (by show k ≠ g4; omega)]
                try rw [← hW6]
                clear hW6
                go_wp2_with fail
                go_roundw
                case rel => exact ⟨k + 1, by omega, by go_num, _, vs, _, _, _, HX.out, rfl, rfl, HK6.out, HO6.out, HB6.out, by omega⟩
                case measure => simp [intOf]; omega
              · have t1 : ((i : Int) != (j : Int)) = true := by simp; omega
                have t2 : ((j : Int) != (j : Int)) = false := by simp
                have HX : Hid (cutX true n wire (xss.take (k + 1)) = (at_, j, ks)) := by
                  show _ = _
                  rw [HX0.out]
                  unfold cutStp
                  rw [if_neg (by rintro ⟨q1, q2⟩; exact absurd rfl (by first | exact q1 | exact q2))]
                  simp only [if_true, if_true, Bool.false_eq_true, if_false]
                  rw [if_neg (by simp)]
                clear HX0
                go_wp2_with fail
                go_roundw
                case rel => exact ⟨k + 1, by omega, by go_num, _, vs, _, _, _, HX.out, rfl, rfl, HK2.out, HO2.out, HB22.out, by omega⟩
                case measure => simp [intOf]; omega
          · subst hisp
            cases most
            · have t1 : ((i : Int) != (i : Int)) = false := by simp
              have HX : Hid (cutX false n wire (xss.take (k + 1)) = (at_, i, ks)) := by
                show _ = _
                rw [HX0.out]
                unfold cutStp
                rw [if_neg (by rintro ⟨q1, q2⟩; exact absurd rfl (by first | exact q1 | exact q2))]
                simp only [Bool.false_eq_true, if_true, Bool.false_eq_true, if_false]
                rw [if_neg (by simp)]
              clear HX0
              go_wp2_with fail
              go_roundw
              case rel => exact ⟨k + 1, by omega, by go_num, _, vs, _, _, _, HX.out, rfl, rfl, HK2.out, HO2.out, HB22.out, by omega⟩
              case measure => simp [intOf]; omega
            · have t1 : ((i : Int) != (i : Int)) = false := by simp
              have t2 : ((j : Int) != (i : Int)) = true := by simp; omega
              have HX : Hid (cutX true n wire (xss.take (k + 1)) = ((at_.set i b).set j a, j, ks)) := by
                show _ = _
                rw [HX0.out]
                unfold cutStp
                rw [if_neg (by rintro ⟨q1, q2⟩; exact absurd rfl (by first | exact q1 | exact q2))]
                simp only [if_true, if_true, Bool.false_eq_true, if_false]
                rw [if_pos (by first | exact HNE.out | exact Ne.symm HNE.out), HHA.out, HHB.out]
              clear HX0
              go_wp2_with fail
              refine wpV_start (S := fun W' : World => W'.cell? ⟨g4, i, none⟩ = some (.int .i64 a) ∧ W'.cell? ⟨g4, j, none⟩ = some (.int .i64 b)) (m := 13) (S2 := fun _ : World => True) (m2 := 15) (by kernel_rfl) ?_
              have hHeld : (fun W' : World => W'.cell? ⟨g4, i, none⟩ = some (.int .i64 a) ∧ W'.cell? ⟨g4, j, none⟩ = some (.int .i64 b)) w2.drew ∧ (fun _ : World => True) w2.drew := ⟨⟨f3, f4⟩, trivial⟩
              refine wpV_take (i := 0) (v := ?_) rfl (by kernel_rfl) (fun _ _ _ h => h) ⟨by rfl, ?_⟩ hHeld ?_
              rotate_left
              · (intro w hSw; (try dsimp only at hSw); go_simp; try with_reducible rfl)
              try simp only [Act.put, List.setIfInBounds_toArray, List.set_cons_zero, List.set_cons_succ]
              refine wpV_take (i := 1) (v := ?_) rfl (by kernel_rfl) (fun _ _ _ h => h) ⟨by rfl, ?_⟩ hHeld ?_
              rotate_left
              · (intro w hSw; (try dsimp only at hSw); go_simp; try with_reducible rfl)
              try simp only [Act.put, List.setIfInBounds_toArray, List.set_cons_zero, List.set_cons_succ]
              refine wpV_swap ?_
              refine wpV_take (i := 2) (v := ?_) rfl (by kernel_rfl) (fun _ _ _ h => h) ⟨by rfl, ?_⟩ hHeld.symm ?_
              rotate_left
              · (intro w hSw; (try dsimp only at hSw); go_simp; try with_reducible rfl)
              try simp only [Act.put, List.setIfInBounds_toArray, List.set_cons_zero, List.set_cons_succ]
              refine wpV_take (i := 3) (v := ?_) rfl (by kernel_rfl) (fun _ _ _ h => h) ⟨by rfl, ?_⟩ hHeld.symm ?_
              rotate_left
              · (intro w hSw; (try dsimp only at hSw); go_simp; try with_reducible rfl)
              try simp only [Act.put, List.setIfInBounds_toArray, List.set_cons_zero, List.set_cons_succ]
              refine wpV_swap ?_
              refine wpV_take (i := 4) (v := ?_) rfl (by kernel_rfl) (fun _ _ _ h => h) ⟨by rfl, ?_⟩ hHeld ?_
              rotate_left
              · (intro w hSw; (try dsimp only at hSw); go_simp; try with_reducible rfl)
              try simp only [Act.put, List.setIfInBounds_toArray, List.set_cons_zero, List.set_cons_succ]
              refine wpV_take (i := 5) (v := ?_) rfl (by kernel_rfl) (fun _ _ _ h => h) ⟨by rfl, ?_⟩ hHeld ?_
              rotate_left
              · (intro w hSw; (try dsimp only at hSw); go_simp; try with_reducible rfl)
              try simp only [Act.put, List.setIfInBounds_toArray, List.set_cons_zero, List.set_cons_succ]
              refine wpV_take (i := 6) (v := ?_) rfl (by kernel_rfl) (fun _ _ _ h => h) ⟨by rfl, ?_⟩ hHeld ?_
              rotate_left
              · (intro w hSw; (try dsimp only at hSw); go_simp; try with_reducible rfl)
              try simp only [Act.put, List.setIfInBounds_toArray, List.set_cons_zero, List.set_cons_succ]
              refine wpV_take (i := 7) (v := ?_) rfl (by kernel_rfl) (fun _ _ _ h => h) ⟨by rfl, ?_⟩ hHeld ?_
              rotate_left
              · (intro w hSw; (try dsimp only at hSw); go_simp; try with_reducible rfl)
              try simp only [Act.put, List.setIfInBounds_toArray, List.set_cons_zero, List.set_cons_succ]
              refine wpV_swap ?_
              refine wpV_take (i := 8) (v := ?_) rfl (by kernel_rfl) (fun _ _ _ h => h) ⟨by rfl, ?_⟩ hHeld.symm ?_
              rotate_left
              · (intro w hSw; (try dsimp only at hSw); go_simp; try with_reducible rfl)
              try simp only [Act.put, List.setIfInBounds_toArray, List.set_cons_zero, List.set_cons_succ]
              refine wpV_take (i := 9) (v := ?_) rfl (by kernel_rfl) (fun _ _ _ h => h) ⟨by rfl, ?_⟩ hHeld.symm ?_
              rotate_left
              · (intro w hSw; (try dsimp only at hSw); go_simp; try with_reducible rfl)
              try simp only [Act.put, List.setIfInBounds_toArray, List.set_cons_zero, List.set_cons_succ]
              refine wpV_take (i := 10) (v := ?_) rfl (by kernel_rfl) (fun _ _ _ h => h) ⟨by rfl, ?_⟩ hHeld.symm ?_
              rotate_left
              · (intro w hSw; (try dsimp only at hSw); go_simp; try with_reducible rfl)
              try simp only [Act.put, List.setIfInBounds_toArray, List.set_cons_zero, List.set_cons_succ]
              refine wpV_swap ?_
              refine wpV_take (i := 11) (v := ?_) rfl (by kernel_rfl) (fun _ _ _ h => h) ⟨by rfl, ?_⟩ hHeld ?_
              rotate_left
              · (intro w hSw; (try dsimp only at hSw); go_simp; try with_reducible rfl)
              try simp only [Act.put, List.setIfInBounds_toArray, List.set_cons_zero, List.set_cons_succ]
              refine wpV_take (i := 12) (v := ?_) rfl (by kernel_rfl) (fun _ _ _ h => h) ⟨by rfl, ?_⟩ hHeld ?_
              rotate_left
              · (intro w hSw; (try dsimp only at hSw); go_simp; try with_reducible rfl)
              try simp only [Act.put, List.setIfInBounds_toArray, List.set_cons_zero, List.set_cons_succ]
              refine wpV_one (by kernel_rfl) rfl (fun K hK => ?_)
              go_simp
              refine hK.out _ _ (trivial) ?_
              clear hK K
              try simp only [Act.put, List.setIfInBounds_toArray, List.set_cons_zero, List.set_cons_succ]
              refine wpV_next (i := 14) (by kernel_rfl) rfl (by kernel_rfl) (fun K hK => ?_)
              go_simp
              refine hK.out _ _ (.inr (trivial)) ?_
              clear hK K
              try simp only [Act.put, List.setIfInBounds_toArray, List.set_cons_zero, List.set_cons_succ]
              refine wpV_next (i := 15) (by kernel_rfl) rfl (by kernel_rfl) (fun K hK => ?_)
              go_simp
              refine hK.out _ _ (.inl rfl) ?_
              clear hK K
              try simp only [Act.put, List.setIfInBounds_toArray, List.set_cons_zero, List.set_cons_succ]
              refine wpV_done (by kernel_rfl) ?_ _
              obtain ⟨W6, hW6⟩ : ∃ W, W = ((w2.setCell ⟨g4, i, none⟩ (.int .i64 b)).setCell ⟨g4, j, none⟩ (.int .i64 a)).drew := ⟨_, rfl⟩
              have HO6 : Hid (OwnI W6 w3.heap.size w4.heap.size (.slice (some ⟨g4, 0, none⟩) n cap4) ((at_.set i b).set j a)) := by show OwnI _ _ _ _ _; rw [hW6]; exact (OwnI.store (Own.kept (w' := w2.drew) HO2.out fun _ _ _ _ => rfl) HNL.out.symm i b).store (by rw [List.length_set]; exact HNL.out.symm) j a
              have HB6 : Hid (Below w3.heap.size w4 W6) := by show Below _ _ _; rw [hW6]; exact (HB22.out.drew.setCell gk1 _).setCell gk1 _
              have hz6 : W6.heap.size = w2.heap.size := by rw [hW6]; show ((w2.setCell _ _).setCell _ _).heap.size = _; simp [World.setCell]
              have HK6 : Hid (OwnR W6 w4.heap.size W6.heap.size v vs ks) := by
                show OwnR _ _ _ _ _ _
                rw [hz6]
                refine HK2.out.kept fun k h1 _ _ => ?_
                rw [hW6]
                show ((w2.setCell _ _).setCell _ _).heap[k]? = _
                rw [Below.heap_setCell _ _ _ _ (by show k ≠ g4; omega), Below.heap_setCell _ _ _ _ (by show k ≠ g4; omega)]
              try rw [← hW6]
              clear hW6
              go_wp2_with fail
              go_roundw
              case rel => exact ⟨k + 1, by omega, by go_num, _, vs, _, _, _, HX.out, rfl, rfl, HK6.out, HO6.out, HB6.out, by omega⟩
              case measure => simp [intOf]; omega
        · have hki : ¬ (k : Int) < (L : Int) := by omega
          have HE : Hid (cutX most n wire xss = (at_, sp, ks)) := by
            show _ = _
            rw [← HCX.out, List.take_of_length_le (by have := HLEN.out; omega)]
          obtain ⟨w6, rfl⟩ : ∃ W : World, W = wr := ⟨_, rfl⟩
          have hz6 := HB.out.size
          have HR6 := Lib.hid ((HB.out.block (w.heap.size + 1) (by omega)).trans HR4.out)
          have HB6w : Hid (Below w.heap.size w w6) := HB4.out.trans (HB.out.mono (by omega))
          have e0 := (HB.out.cell (p := ⟨w.heap.size, 0, none⟩) (by show w.heap.size < w3.heap.size; omega)).trans D0.out
          obtain ⟨ao6, g6, cap6, A6, G6, C6, ev6, hcap6, hao6, hrow6⟩ := HOK.out.view
          have HRW6 := Lib.hid hrow6
          obtain ⟨M, hM⟩ : ∃ M, M = ks.length := ⟨_, rfl⟩
          have HM := Lib.hid hM
          have hM60 : M ≤ 60 := by omega
          rw [← hM] at ev6 hcap6 hao6 HRW6
          subst ev6
          have hmk := HMK.out w6
          obtain ⟨W7, hW7⟩ : ∃ W, W = w6.alloc (.cells (madeCells #[Value.int .i64 0] n) 3) := ⟨_, rfl⟩
          have HN7 : Hid (OwnI W7 w6.heap.size (w6.heap.size + 1) (.slice (some ⟨w6.heap.size, 0, none⟩) n n) (List.replicate n 0)) := by show OwnI _ _ _ _ _; rw [hW7]; exact ownI_made w6 n (by omega)
          have hB7 : Below w6.heap.size w6 W7 := by rw [hW7]; exact (Below.refl _ _).alloc (Nat.le_refl _) _
          have hs7 : W7.heap.size = w6.heap.size + 1 := by rw [hW7]; simp
          have HB7 := Lib.hid hB7
          have HAT7 : Hid (OwnI W7 w3.heap.size w4.heap.size (.slice (some ⟨g4, 0, none⟩) n cap4) at_) := Own.below HO.out hB7 (by omega)
          have HW7 := Lib.hid hW7
          clear hrow6 hM hB hB7 hW7
          go_wp2_with fail
          try rw [← HW7.out]
          clear hmk hlt hki
          go_loopw [18, 112] (fun c t wr => ∃ k : Nat, k ≤ n ∧ t = .int .i64 k ∧ c = .int .i64 ((if k ≤ sp then k else k - 1 : Nat) : Int) ∧ ∃ nm : List Int, nm.length = n ∧ Hid (∀ q, q < k → q ≠ sp → nm.getD (at_.getD q 0).toNat 0 = (posn sp q : Int)) ∧ Hid (OwnI wr w6.heap.size (w6.heap.size + 1) (.slice (some ⟨w6.heap.size, 0, none⟩) n n) nm) ∧ Below w6.heap.size W7 wr ∧ wr.heap.size = W7.heap.size) (fun _ t _ => n - (intOf t).toNat)
          case atStart => exact ⟨0, Nat.zero_le _, rfl, by simp, List.replicate n 0, by simp, (by show ∀ _, _; intro q h; omega), HN7.out, Below.refl _ _, rfl⟩
          case round =>
            obtain ⟨k, hk, rfl, rfl, nm, hnl, HNM, HON, hB, hzz⟩ := hrel
            have HB := Lib.hid hB
            have HNL := Lib.hid hnl
            by_cases hlt : k < n
            · have hki : (k : Int) < (n : Int) := by omega
              obtain ⟨x, hx, hxn⟩ : ∃ x : Nat, at_.getD k 0 = (x : Int) ∧ x < n := ⟨(at_.getD k 0).toNat, by have := HPM.out.2.1 k hlt; omega, by have := HPM.out.2.1 k hlt; omega⟩
              have HAT : Hid (OwnI wr w3.heap.size w4.heap.size (.slice (some ⟨g4, 0, none⟩) n cap4) at_) := Own.below HAT7.out hB (by omega)
              have c1 := (HAT.out.cellAt k (by rw [HPM.out.1]; exact hlt)).1
              rw [hx] at c1
              obtain ⟨c2, c3, c4⟩ := HON.out.cellAt x (by rw [hnl]; exact hxn)
              have hxi : (x : Int) < (n : Int) := by omega
              have HXX := Lib.hid hx
              clear hx hB hnl
              by_cases hks : k = sp
              · have t1 : ((k : Int) != (sp : Int)) = false := by simp [hks]
                have hcc : (if k + 1 ≤ sp then k + 1 else k + 1 - 1) = (if k ≤ sp then k else k - 1) := by split <;> split <;> omega
                have HNM2 : Hid (∀ q, q < k + 1 → q ≠ sp → nm.getD (at_.getD q 0).toNat 0 = (posn sp q : Int)) := fun q hq hqs => HNM.out q (by omega) hqs
                have HCC := Lib.hid hcc
                clear hcc
                obtain ⟨cc, hcc⟩ : ∃ c, c = (if k ≤ sp then k else k - 1) := ⟨_, rfl⟩
                rw [← hcc] at HCC ⊢
                clear hcc hks
                go_wp2_with fail
                go_roundw
                case rel => exact ⟨k + 1, by omega, by go_num, by rw [HCC.out], nm, HNL.out, HNM2, HON, HB.out, hzz⟩
                case measure => simp [intOf]; omega
              · have t1 : ((k : Int) != (sp : Int)) = true := by simp; omega
                have hcc : (if k + 1 ≤ sp then k + 1 else k + 1 - 1) = (if k ≤ sp then k else k - 1) + 1 := by split <;> split <;> omega
                have hps : (if k ≤ sp then k else k - 1) = posn sp k := posn_step hks
                have hc8 : (if k ≤ sp then k else k - 1) ≤ 8 := by split <;> omega
                have HCC := Lib.hid hcc
                have HPS := Lib.hid hps
                clear hcc hps
                obtain ⟨cc, hcc⟩ : ∃ c, c = (if k ≤ sp then k else k - 1) := ⟨_, rfl⟩
                rw [← hcc] at HCC HPS hc8 ⊢
                have HNM2 : Hid (∀ q, q < k + 1 → q ≠ sp → (nm.set x cc).getD (at_.getD q 0).toNat 0 = (posn sp q : Int)) := by
                  show ∀ _, _
                  intro q hq hqs
                  by_cases hqk : q = k
                  · subst hqk
                    rw [HXX.out, Int.toNat_natCast, set_getD_eq _ _ _ (by rw [HNL.out]; exact hxn), HPS.out]
                  · have p1 := HPM.out.2.1 q (by omega)
                    have p2 := HPM.out.2.2 q k (by omega) hlt hqk
                    rw [HXX.out] at p2
                    rw [set_getD_ne _ _ _ _ (by omega)]
                    exact HNM.out q (by omega) hqs
                have HON2 : Hid (OwnI (wr.setCell ⟨w6.heap.size, x, none⟩ (.int .i64 cc)) w6.heap.size (w6.heap.size + 1) (.slice (some ⟨w6.heap.size, 0, none⟩) n n) (nm.set x cc)) := OwnI.store HON.out HNL.out.symm x cc
                have HB2 : Hid (Below w6.heap.size W7 (wr.setCell ⟨w6.heap.size, x, none⟩ (.int .i64 cc))) := HB.out.setCell (Nat.le_refl _) _
                have hzz2 : (wr.setCell ⟨w6.heap.size, x, none⟩ (.int .i64 cc)).heap.size = W7.heap.size := by simp [World.setCell, hzz]
                clear hcc hks
                go_wp2_with fail
                go_roundw
                case rel => exact ⟨k + 1, by omega, by go_num, by rw [HCC.out]; go_num, nm.set x cc, by rw [List.length_set]; exact HNL.out, HNM2, HON2.out, HB2.out, hzz2⟩
                case measure => simp [intOf]; omega
            · have hki : ¬ (k : Int) < (n : Int) := by omega
              have hcc : (if k ≤ sp then k else k - 1) = n - 1 := by rw [if_neg (by omega)]; omega
              have HNP : Hid (nmP n (at_, sp, ks) nm) := ⟨hnl, fun q hq hqs => HNM.out q (by omega) hqs⟩
              obtain ⟨w7, rfl⟩ : ∃ W : World, W = wr := ⟨_, rfl⟩
              rw [hcc]
              have hn1 : ((n - 1 : Nat) : Int) = (n : Int) - 1 := by omega
              have HB67 : Hid (Below w6.heap.size w6 w7) := HB7.out.trans hB
              obtain ⟨m, hm⟩ : ∃ m, m = n - 1 := ⟨_, rfl⟩
              rw [← hm]
              have HMM := Lib.hid hm
              clear hcc hn1 hm
              have hb8 := blk_new w7 (.cells #[.int .i64 m, .slice none 0 0] 30)
              obtain ⟨W8, hW8⟩ : ∃ W, W = w7.alloc (.cells #[.int .i64 m, .slice none 0 0] 30) := ⟨_, rfl⟩
              have hB8 : Below w7.heap.size w7 W8 := by rw [hW8]; exact (Below.refl _ _).alloc (Nat.le_refl _) _
              have hs8 : W8.heap.size = w7.heap.size + 1 := by rw [hW8]; simp
              have HW8 := Lib.hid hW8
              rw [← hW8] at hb8
              have HN8 : Hid (NB W8 w7.heap.size m (.slice none 0 0) [] []) := ⟨hb8, OwnR.nil _ _ _⟩
              have HB8 := Lib.hid hB8
              have hz7 := HB67.out.size
              have hw67 : w6.heap.size < w7.heap.size := by omega
              clear hW8 hb8 hB8 hB hzz hs7 hs8
              go_wp2_with fail
              try rw [← HW8.out]
              clear hki hlt
              go_loopw [131] (fun t wr => ∃ k : Nat, k ≤ M ∧ t = .int .i64 k ∧ ∃ v us, NB wr w7.heap.size m v us (cutN nm (ks.take k)) ∧ Below w7.heap.size W8 wr) (fun t _ => M - (intOf t).toNat)
              case atStart => exact ⟨0, Nat.zero_le _, rfl, _, _, HN8.out, Below.refl _ _⟩
              case round =>
                obtain ⟨k, hk, rfl, v, us, hN, hB⟩ := hrel
                have HN := Lib.hid hN
                have HB := Lib.hid hB
                have hXl := hN.lt
                have hzB := hB.size
                obtain ⟨x0, e1, y0, y1⟩ := hN.cells
                by_cases hlt : k < M
                · have hki : (k : Int) < (M : Int) := by omega
                  obtain ⟨i, j, hr, hi1, hj1, hne, hiw, hjw⟩ := HKEPT.out (ks.getD k []) (by rw [List.getD_eq_getElem?_getD, List.getElem?_eq_getElem (by rw [← HM.out]; exact hlt)]; exact List.getElem_mem _)
                  obtain ⟨q1, q2, q3, q4⟩ := HRW6.out k hlt
                  obtain ⟨ha0, hg1, hg2⟩ := hao6 (by omega)
                  subst ha0
                  rw [hr] at q1 q2 q3 q4
                  obtain ⟨ea, gk3, gk4⟩ := q3 (by simp)
                  rw [ea] at q1
                  have hbw : Below w6.heap.size w6 wr := HB67.out.trans ((HB8.out.trans hB).mono (by omega))
                  have c0 : wr.cell? ⟨g6, k, none⟩ = some (.slice (some ⟨G6 k, 0, none⟩) 2 (C6 k)) := (hbw.cell (p := ⟨g6, k, none⟩) (by show g6 < _; omega)).trans q1
                  have f1 : wr.cell? ⟨G6 k, 0, none⟩ = some (.int .i64 i) := (hbw.cell (p := ⟨G6 k, 0, none⟩) (by show G6 k < _; omega)).trans (q4 0 (by simp))
                  have f2 : wr.cell? ⟨G6 k, 1, none⟩ = some (.int .i64 j) := (hbw.cell (p := ⟨G6 k, 1, none⟩) (by show G6 k < _; omega)).trans (q4 1 (by simp))
                  obtain ⟨a, ha⟩ : ∃ a : Int, nm.getD i 0 = a := ⟨_, rfl⟩
                  obtain ⟨b, hb⟩ : ∃ b : Int, nm.getD j 0 = b := ⟨_, rfl⟩
                  have HB78 : Hid (Below w7.heap.size w7 wr) := HB8.out.trans hB
                  have f3 := (HB78.out.cell (p := ⟨w6.heap.size, i, none⟩) (by show w6.heap.size < _; omega)).trans (HON.out.cellAt i (by rw [HNL.out]; exact hi1)).1
                  have f4 := (HB78.out.cell (p := ⟨w6.heap.size, j, none⟩) (by show w6.heap.size < _; omega)).trans (HON.out.cellAt j (by rw [HNL.out]; exact hj1)).1
                  rw [ha] at f3
                  rw [hb] at f4
                  have HX : Hid (cutN nm (ks.take (k + 1)) = cutN nm (ks.take k) ++ [[a, b]]) := by
                    show _ = _
                    rw [take_snoc_getD [] (by rw [← HM.out]; exact hlt), hr]
                    simp only [cutN, List.map_append, List.map_cons, List.map_nil, List.getD_cons_zero, List.getD_cons_succ, Int.toNat_natCast, ha, hb]
                  have HLN : Hid ((cutN nm (ks.take k)).length ≤ 1000000) := by show _ ≤ _; rw [cutN_len, List.length_take]; omega
                  have hii : (i : Int) < (n : Int) := by omega
                  have hjj : (j : Int) < (n : Int) := by omega
                  have hGk : G6 k < w7.heap.size := by omega
                  have hgn : w6.heap.size < w7.heap.size := by omega
                  have HBX := Lib.hid hN.box
                  have HOW := Lib.hid hN.own
                  have hXl6 : w7.heap.size + 1 ≤ wr.heap.size := by omega
                  clear hN hB hr ea q1 q2 q3 q4 hbw ha hb
                  have HRd := Lib.hid (HOW.out.kept (w' := wr.drew) fun _ _ _ _ => rfl)
                  have hz2 : w7.heap.size + 1 ≤ wr.drew.heap.size := hXl6
                  have HSS : Hid (∀ W', Below (w7.heap.size + 1) wr W' → (fun W' : World => W'.cell? ⟨w7.heap.size, 1, none⟩ = some v ∧ W'.cell? ⟨G6 k, 0, none⟩ = some (.int .i64 i) ∧ W'.cell? ⟨G6 k, 1, none⟩ = some (.int .i64 j) ∧ W'.cell? ⟨w6.heap.size, i, none⟩ = some (.int .i64 a) ∧ W'.cell? ⟨w6.heap.size, j, none⟩ = some (.int .i64 b)) W') := fun W' hb =>
                    ⟨(hb.cell (p := ⟨w7.heap.size, 1, none⟩) (by show w7.heap.size < _; omega)).trans e1, (hb.cell (p := ⟨G6 k, 0, none⟩) (by show G6 k < _; omega)).trans f1, (hb.cell (p := ⟨G6 k, 1, none⟩) (by show G6 k < _; omega)).trans f2, (hb.cell (p := ⟨w6.heap.size, i, none⟩) (by show w6.heap.size < _; omega)).trans f3, (hb.cell (p := ⟨w6.heap.size, j, none⟩) (by show w6.heap.size < _; omega)).trans f4⟩
                  have hA1 : ∀ X : Obj, Below (w7.heap.size + 1) wr (wr.drew.alloc X) := fun X => (Below.refl _ _).drew.alloc hz2 _
                  have hA2 : ∀ X Y : Obj, Below (w7.heap.size + 1) wr ((wr.drew.alloc X).alloc Y) := fun X Y => (hA1 X).alloc (by have h9 : w7.heap.size + 1 ≤ wr.drew.heap.size := hz2; simp; omega) _
                  have HA1 := Lib.hid hA1
                  have HA2 := Lib.hid hA2
                  clear hA1 hA2
                  have HKK : Hid (keptC 0 0 wr.drew wr.drew v) := fun k k1 k2 => by omega
                  have h00 : 0 ≤ wr.drew.heap.size := Nat.zero_le _
                  go_wp2_with fail
                  refine wpU_start (S := fun W' : World => W'.cell? ⟨w7.heap.size, 1, none⟩ = some v ∧ W'.cell? ⟨G6 k, 0, none⟩ = some (.int .i64 i) ∧ W'.cell? ⟨G6 k, 1, none⟩ = some (.int .i64 j) ∧ W'.cell? ⟨w6.heap.size, i, none⟩ = some (.int .i64 a) ∧ W'.cell? ⟨w6.heap.size, j, none⟩ = some (.int .i64 b)) (m := 18) (by kernel_rfl) ?_
                  have hHeld : (fun W' : World => W'.cell? ⟨w7.heap.size, 1, none⟩ = some v ∧ W'.cell? ⟨G6 k, 0, none⟩ = some (.int .i64 i) ∧ W'.cell? ⟨G6 k, 1, none⟩ = some (.int .i64 j) ∧ W'.cell? ⟨w6.heap.size, i, none⟩ = some (.int .i64 a) ∧ W'.cell? ⟨w6.heap.size, j, none⟩ = some (.int .i64 b)) wr.drew := ⟨e1, f1, f2, f3, f4⟩
                  refine wpU_take (i := 0) (v := ?_) rfl (by kernel_rfl) (fun _ _ _ h => h) ⟨by rfl, ?_⟩ hHeld ?_
                  rotate_left
                  · (intro w hSw; (try dsimp only at hSw); go_simp; try with_reducible rfl)
                  try simp only [Act.put, List.setIfInBounds_toArray, List.set_cons_zero, List.set_cons_succ]
                  refine wpU_take (i := 1) (v := ?_) rfl (by kernel_rfl) (fun _ _ _ h => h) ⟨by rfl, ?_⟩ hHeld ?_
                  rotate_left
                  · (intro w hSw; (try dsimp only at hSw); go_simp; try with_reducible rfl)
                  try simp only [Act.put, List.setIfInBounds_toArray, List.set_cons_zero, List.set_cons_succ]
                  refine wpU_take (i := 2) (v := ?_) rfl (by kernel_rfl) (fun _ _ _ h => h) ⟨by rfl, ?_⟩ hHeld ?_
                  rotate_left
                  · (intro w hSw; (try dsimp only at hSw); go_simp; try with_reducible rfl)
                  try simp only [Act.put, List.setIfInBounds_toArray, List.set_cons_zero, List.set_cons_succ]
                  refine wpU_take (i := 3) (v := ?_) rfl (by kernel_rfl) (fun _ _ _ h => h) ⟨by rfl, ?_⟩ hHeld ?_
                  rotate_left
                  · (intro w hSw; (try dsimp only at hSw); go_simp; try with_reducible rfl)
                  try simp only [Act.put, List.setIfInBounds_toArray, List.set_cons_zero, List.set_cons_succ]
                  refine wpU_take (i := 4) (v := ?_) rfl (by kernel_rfl) (fun _ _ _ h => h) ⟨by rfl, ?_⟩ hHeld ?_
                  rotate_left
                  · (intro w hSw; (try dsimp only at hSw); go_simp; try with_reducible rfl)
                  try simp only [Act.put, List.setIfInBounds_toArray, List.set_cons_zero, List.set_cons_succ]
                  refine wpU_take (i := 5) (v := ?_) rfl (by kernel_rfl) (fun _ _ _ h => h) ⟨by rfl, ?_⟩ hHeld ?_
                  rotate_left
                  · (intro w hSw; (try dsimp only at hSw); go_simp; try with_reducible rfl)
                  try simp only [Act.put, List.setIfInBounds_toArray, List.set_cons_zero, List.set_cons_succ]
                  refine wpU_take (i := 6) (v := ?_) rfl (by kernel_rfl) (fun _ _ _ h => h) ⟨by rfl, ?_⟩ hHeld ?_
                  rotate_left
                  · (intro w hSw; (try dsimp only at hSw); go_simp; try with_reducible rfl)
                  try simp only [Act.put, List.setIfInBounds_toArray, List.set_cons_zero, List.set_cons_succ]
                  refine wpU_take (i := 7) (v := ?_) rfl (by kernel_rfl) (fun _ _ _ h => h) ⟨by rfl, ?_⟩ hHeld ?_
                  rotate_left
                  · (intro w hSw; (try dsimp only at hSw); go_simp; try with_reducible rfl)
                  try simp only [Act.put, List.setIfInBounds_toArray, List.set_cons_zero, List.set_cons_succ]
                  refine wpU_take (i := 8) (v := ?_) rfl (by kernel_rfl) (fun _ _ _ h => h) ⟨by rfl, ?_⟩ hHeld ?_
                  rotate_left
                  · (intro w hSw; (try dsimp only at hSw); go_simp; try with_reducible rfl)
                  try simp only [Act.put, List.setIfInBounds_toArray, List.set_cons_zero, List.set_cons_succ]
                  refine wpU_take (i := 9) (v := ?_) rfl (by kernel_rfl) (fun _ _ _ h => h) ⟨by rfl, ?_⟩ hHeld ?_
                  rotate_left
                  · (intro w hSw; (try dsimp only at hSw); go_simp; try with_reducible rfl)
                  try simp only [Act.put, List.setIfInBounds_toArray, List.set_cons_zero, List.set_cons_succ]
                  refine wpU_take (i := 10) (v := ?_) rfl (by kernel_rfl) (fun _ _ _ h => h) ⟨by rfl, ?_⟩ hHeld ?_
                  rotate_left
                  · (intro w hSw; (try dsimp only at hSw); go_simp; try with_reducible rfl)
                  try simp only [Act.put, List.setIfInBounds_toArray, List.set_cons_zero, List.set_cons_succ]
                  refine wpU_take (i := 11) (v := ?_) rfl (by kernel_rfl) (fun _ _ _ h => h) ⟨by rfl, ?_⟩ hHeld ?_
                  rotate_left
                  · (intro w hSw; (try dsimp only at hSw); go_simp; try with_reducible rfl)
                  try simp only [Act.put, List.setIfInBounds_toArray, List.set_cons_zero, List.set_cons_succ]
                  refine wpU_take (i := 12) (v := ?_) rfl (by kernel_rfl) (fun _ _ _ h => h) ⟨by rfl, ?_⟩ hHeld ?_
                  rotate_left
                  · (intro w hSw; (try dsimp only at hSw); go_simp; try with_reducible rfl)
                  try simp only [Act.put, List.setIfInBounds_toArray, List.set_cons_zero, List.set_cons_succ]
                  refine wpU_take (i := 13) (v := ?_) rfl (by kernel_rfl) (fun _ _ _ h => h) ⟨by rfl, ?_⟩ hHeld ?_
                  rotate_left
                  · (intro w hSw; (try dsimp only at hSw); go_simp; try with_reducible rfl)
                  try simp only [Act.put, List.setIfInBounds_toArray, List.set_cons_zero, List.set_cons_succ]
                  refine wpU_one (i := 14) (by kernel_rfl) rfl (fun K hK => ?_)
                  go_simp
                  refine hK.out _ _ (HSS.out _ (HA1.out _)) (fun hHeld => ?_)
                  clear hK K
                  try simp only [Act.put, List.setIfInBounds_toArray, List.set_cons_zero, List.set_cons_succ]
                  refine wpU_one (i := 15) (by kernel_rfl) rfl (fun K hK => ?_)
                  go_simp
                  refine hK.out _ _ (HSS.out _ (HA2.out _ _)) (fun hHeld => ?_)
                  clear hK K
                  try simp only [Act.put, List.setIfInBounds_toArray, List.set_cons_zero, List.set_cons_succ]
                  refine wpU_one (i := 16) (by kernel_rfl) rfl (fun K hK => ?_)
                  refine wp_app_pairC (.tmp 136) (.tmp 150) rfl wr.drew a b (w7.heap.size + 1) _ us (cutN nm (ks.take k)) 0 0 wr.drew HRd.out hz2 HKK.out h00 HLN.out rfl rfl ?_; intro g' L' cap' w8 vs8 hL8 o8 q8 z8 k8 y8; have bx8 := blk_below HBX.out (undrew q8) (by omega); have x0 := blk_cell bx8 0; have x1 := blk_cell bx8 1; have x2 := blk_free bx8 1; have BX8 := Lib.hid bx8; have O8 := Lib.hid o8; have Q8 := Lib.hid (undrew q8); clear o8 k8 bx8
                  refine hK.out _ _ (HSS.out _ (Q8.out)) (fun hHeld => ?_)
                  clear hK K
                  try simp only [Act.put, List.setIfInBounds_toArray, List.set_cons_zero, List.set_cons_succ]
                  refine wpU_take (i := 17) (v := ?_) rfl (by kernel_rfl) (fun _ _ _ h => h) ⟨by rfl, ?_⟩ hHeld ?_
                  rotate_left
                  · (intro w hSw; (try dsimp only at hSw); go_simp; try with_reducible rfl)
                  try simp only [Act.put, List.setIfInBounds_toArray, List.set_cons_zero, List.set_cons_succ]
                  refine wpU_last (by kernel_rfl) rfl (fun K hK => ?_)
                  go_simp
                  refine hK.out _ _ ?_
                  clear hK K
                  try simp only [Act.put, List.setIfInBounds_toArray, List.set_cons_zero, List.set_cons_succ]
                  refine wpU_done (by kernel_rfl) ?_ _
                  go_wp2
                  go_roundw
                  case rel => exact ⟨k + 1, by omega, by go_num, _, vs8, by rw [HX.out]; exact NB.store BX8.out O8.out, (HB.out.trans (Q8.out.mono (by omega))).setCell (Nat.le_refl _) _⟩
                  case measure => simp [intOf]; omega
                · have HE9 : Hid (ks.take k = ks) := List.take_of_length_le (by rw [← HM.out]; omega)
                  have hki : ¬ (k : Int) < (M : Int) := by omega
                  have hr9 := ((HB67.out.trans ((HB8.out.trans hB).mono (by omega))).block (w.heap.size + 1) (by omega)).trans HR6.out
                  have r0 := blk_cell hr9 0
                  have r1 := blk_cell hr9 1
                  have y2 := blk_free hr9 0
                  have y3 := blk_free hr9 1
                  obtain ⟨ao9, g9, cap9, ev, -, -, -⟩ := hN.own.rows
                  have HFN : Hid (CutC w most n wire xss (.returned (.tuple #[.agg #[.int .i64 m, v], .bool true])) ((wr.setCell ⟨w.heap.size + 1, 0, none⟩ (.int .i64 m)).setCell ⟨w.heap.size + 1, 1, none⟩ v)) := by
                    refine ⟨nm, by rw [HE.out]; exact HNP.out, ?_⟩
                    rw [HE.out, ← HMM.out]
                    have ho := hN.own
                    rw [HE9.out] at ho
                    refine ⟨v, us, rfl, ?_, ((HB6w.out.trans ((HB67.out.trans ((HB8.out.trans hB).mono (by omega))).mono (by omega))).setCell (by show w.heap.size ≤ w.heap.size + 1; omega) _).setCell (by show w.heap.size ≤ w.heap.size + 1; omega) _⟩
                    exact (set_two_ownR ho (by omega)).mono (by omega) (by simp [World.setCell])
                  have z0 := blk_cell (box_set1 (y := v) (box_set0 (y := .int .i64 m) hr9)) 0
                  have z1 := blk_cell (box_set1 (y := v) (box_set0 (y := .int .i64 m) hr9)) 1
                  obtain ⟨M9, hM9⟩ : ∃ M, M = (cutN nm (ks.take k)).length := ⟨_, rfl⟩
                  rw [← hM9] at ev
                  subst ev
                  have hXw : w.heap.size + 1 ≠ w7.heap.size := by omega
                  clear hN hB HN hr9 hM9
                  go_wp2
                  exact bodyPost_ret (v := .tuple #[.agg #[.int .i64 m, .slice ao9 M9 cap9], .bool true]) (by simp [results, Try.results73, go_sem, z0, z1]) rfl HFN.out
end Go.Proofs.Ytiodolbgapjmkaa

namespace Go.Proofs.Ytiodolbgapjmkaa
open Go.RowKit
set_option maxRecDepth 100000
set_option linter.unusedVariables false
set_option linter.unusedSimpArgs false

set_option maxHeartbeats 4000000 in
theorem StandardOf_i (n : Nat) (lo hi : Nat) (v : Value) (vs : List Value) (xss : List (List Int)) (w : World) (hv : OwnR w lo hi v vs xss) (hhi : hi ≤ w.heap.size) (hok : netOk n xss = true) :
    Calls Try.prog 68 #[.agg #[.int .i64 n, v]] w fun e w' => ∃ (v u : Value) (us : List Value), e = .returned (.tuple #[.agg #[.int .i64 n, v], u, .bool true]) ∧ OwnR w' w.heap.size w'.heap.size v us (stdX n xss).2 ∧ OwnI w' w.heap.size w'.heap.size u (stdX n xss).1 ∧ Below w.heap.size w w' := by
  have HC : Hid (∀ w, OwnR w lo hi v vs xss → hi ≤ w.heap.size → Calls Try.prog 94 #[.agg #[.int .i64 n, v]] w fun e w' => e = .returned (.bool true) ∧ Below w.heap.size w w') := fun w h1 h2 => by
    have := NetworkOk_c n lo hi v vs xss w h1 h2
    rwa [hok] at this
  have HP := Lib.hid (netOk_pair hok)
  have HINV := Lib.hid (stdX_inv (pairsOf_of_ok hok))
  have hl60 := netOk_len hok
  have hn := netOk_n hok
  have hn8 : n ≤ 8 := by omega
  have hn1 : 1 ≤ n := by omega
  obtain ⟨ao, g, cap, A, G, C, rfl, hcap, hao, hrow⟩ := hv.view
  have HRW := Lib.hid hrow
  have HV := Lib.hid hv
  obtain ⟨L, hlen⟩ : ∃ l, l = xss.length := ⟨_, rfl⟩
  have HLEN := Lib.hid hlen
  rw [← hlen] at HV HC hl60 hcap hao HRW HP HINV ⊢
  clear hv hlen hok hrow hn
  go_enter Try.func68, Try.ntmps68
  go_wp2_with fail
  obtain ⟨W1, hW1, c0, c1, hsz, hB1, -, -⟩ := box2 w (.int .i64 n) (.slice ao L cap) 30
  have hb9 := blk_new W1 (.cells #[.int .i64 0, .slice none 0 0] 30)
  obtain ⟨W2, hW2⟩ : ∃ W, W = W1.alloc (.cells #[.int .i64 0, .slice none 0 0] 30) := ⟨_, rfl⟩
  have hBa : Below W1.heap.size W1 W2 := by rw [hW2]; exact (Below.refl _ _).alloc (Nat.le_refl _) _
  have hs2 : W2.heap.size = W1.heap.size + 1 := by rw [hW2]; simp
  rw [← hW2] at hb9
  obtain ⟨c0, c1, hz0⟩ := boxC hBa (by omega) c0 c1
  have hB2 : Below w.heap.size w W2 := hB1.trans (hBa.mono (by omega))
  rw [hsz] at hb9
  try rw [hW1, ← hW2]
  have hw2 : w.heap.size + 1 < W2.heap.size := by omega
  clear hW1 hW2 hBa hs2 hsz hB1
  refine (HC.out W2 (HV.out.below hB2 (by omega)) (by omega)).mono ?_
  rintro e w3 ⟨rfl, b3⟩
  obtain ⟨d0, d1, z3⟩ := boxC b3 hz0 c0 c1
  have HR9 := Lib.hid (blk_below hb9 b3 hw2)
  have HB3 : Hid (Below w.heap.size w w3) := hB2.trans (b3.mono (by omega))
  have hw3 : w.heap.size + 1 < w3.heap.size := by have := b3.size; omega
  clear c0 c1 hb9 b3 hB2 HC
  go_wp2_with fail
  obtain ⟨W, hW⟩ : ∃ W, W = w3.alloc (.cells #[] 3) := ⟨_, rfl⟩
  have HI : Hid (OwnI W w3.heap.size W.heap.size (.slice (some ⟨w3.heap.size, 0, none⟩) 0 0) []) := by show OwnI _ _ _ _ _; rw [hW]; exact Own.mono (ownI_empty w3) (Nat.le_refl _) (by simp)
  have HBW : Hid (Below w3.heap.size w3 W) := by show Below _ _ _; rw [hW]; exact (Below.refl _ _).alloc (Nat.le_refl _) _
  obtain ⟨d0, d1, z3W⟩ := boxC HBW.out z3 d0 d1
  rw [← hW]
  clear hW
  go_loopw [5, 17] (fun v i wr => ∃ k : Nat, k ≤ n ∧ i = .int .i64 (k : Int) ∧ OwnI wr w3.heap.size wr.heap.size v (upI 0 k) ∧ Below w3.heap.size w3 wr) (fun _ i _ => n - (intOf i).toNat)
  case atStart => exact ⟨0, by omega, by go_num, by simpa [upI] using HI.out, HBW.out⟩
  case round =>
    obtain ⟨k, hk, rfl, hR, hB⟩ := hrel
    have HR := Lib.hid hR
    have HB := Lib.hid hB
    have hz := hB.size
    have HL : Hid ((upI 0 k).length ≤ 100000000) := by show _ ≤ _; rw [upI_length]; omega
    clear hR hB
    by_cases hlt : k < n
    · have hik : (k : Int) < (n : Int) := by omega
      go_wp2_with (at_builtin; refine wpList_app_int rfl (.tmp 20) (.tmp 22) rfl wr (k : Int) w3.heap.size wr.heap.size _ (upI 0 k) HR.out hz HL.out rfl rfl ?_; intro ao L cap w1 hL o1 b1 z1; have O1 := Lib.hid o1; clear o1)
      go_roundw
      case rel => exact ⟨k + 1, by omega, by go_num, by rw [upI_succ, Int.zero_add]; exact O1.out, HB.out.trans b1⟩
      case measure => simp [intOf]; omega
    · have hik : ¬ (k : Int) < (n : Int) := by omega
      have HE : Hid (k = n) := by show k = n; omega
      obtain ⟨w4, rfl⟩ : ∃ W : World, W = wr := ⟨_, rfl⟩
      obtain ⟨d0, d1, z4⟩ := boxC HB.out z3 (by assumption) (by assumption)
      have HB4 : Hid (Below w.heap.size w w4) := HB3.out.trans (HB.out.mono (by omega))
      have HR4 := Lib.hid (blk_below HR9.out HB.out hw3)
      have zb4 := hz
      have o4 := HR.out
      rw [HE.out] at o4
      obtain ⟨ao4, g4, cap4, e4, -, ha4, -⟩ := OwnI.view o4
      rw [upI_length] at e4 ha4
      obtain ⟨e5, gk1, gk2⟩ := ha4 (by omega)
      subst e5
      subst e4
      have O4 := Lib.hid o4
      clear o4 HR HI HBW z3W
      go_wp2_with fail
      obtain ⟨W5, hW5⟩ : ∃ W, W = w4.alloc (.cells #[.int .i64 n, .slice none 0 0] 30) := ⟨_, rfl⟩
      have hB5 : Below w4.heap.size w4 W5 := by rw [hW5]; exact (Below.refl _ _).alloc (Nat.le_refl _) _
      have hs5 : W5.heap.size = w4.heap.size + 1 := by rw [hW5]; simp
      have hN5 : NB W5 w4.heap.size n (.slice none 0 0) [] [] := by rw [hW5]; exact ⟨blk_new _ _, OwnR.nil _ _ _⟩
      rw [← hW5]
      clear hW5 ha4 hlt hk hik
      have HE2 := HE
      clear HE
      have hgX : g4 ≠ w4.heap.size := by omega
      have hgX' : w4.heap.size ≠ g4 := by omega
      go_loopw [31] (fun i wr => ∃ k : Nat, k ≤ L ∧ i = .int .i64 k ∧ ∃ v us ns ys, (ns = (stdX n (xss.take k)).1 ∧ ys = (stdX n (xss.take k)).2) ∧ NB wr w4.heap.size n v us ys ∧ Hid (OwnI wr w3.heap.size w4.heap.size (.slice (some ⟨g4, 0, none⟩) n cap4) ns) ∧ Below w3.heap.size w4 wr ∧ w4.heap.size < wr.heap.size) (fun i _ => L - (intOf i).toNat)
      case atStart => exact ⟨0, Nat.zero_le _, rfl, _, _, _, _, ⟨rfl, rfl⟩, hN5, Own.below O4.out hB5 (Nat.le_refl _), hB5.mono zb4, by omega⟩
      case round =>
        obtain ⟨k, hk, rfl, v, us, ns, ys, ⟨hns, hys⟩, hN, HO, hB, hXl⟩ := hrel
        have HN := Lib.hid hN
        have HB := Lib.hid hB
        have HNS := Lib.hid hns
        have HYS := Lib.hid hys
        have hinv := HINV.out k hk
        rw [← hns, ← hys] at hinv
        obtain ⟨hpm, hpu, hyl, -⟩ := hinv
        clear hN5 hB5 hns hys hpu
        by_cases hlt : k < L
        · obtain ⟨i, j, hr, hi1, hj1, hne⟩ := HP.out k hlt
          obtain ⟨q1, q2, q3, q4⟩ := HRW.out k hlt
          obtain ⟨ha0, hg1, hg2⟩ := hao (by omega)
          subst ha0
          have HX0 : Hid (stdX n (xss.take (k + 1)) = stdStp (ns, ys) [(i : Int), (j : Int)]) := by
            show _ = _
            rw [HNS.out, HYS.out, take_snoc_getD [] (by have := HLEN.out; omega), hr]
            unfold stdX
            rw [List.foldl_append]
            rfl
          rw [hr] at q1 q2 q3 q4
          obtain ⟨ea, gk3, gk4⟩ := q3 (by simp)
          rw [ea] at q1
          have hnl : ns.length = n := hpm.1
          have HNL := Lib.hid hnl
          obtain ⟨ci1, ci2, ci3⟩ := HO.out.cellAt i (by omega)
          obtain ⟨cj1, cj2, -⟩ := HO.out.cellAt j (by omega)
          obtain ⟨a, ha, han⟩ : ∃ a : Nat, ns.getD i 0 = (a : Int) ∧ a < n := ⟨(ns.getD i 0).toNat, by have := hpm.2.1 i hi1; omega, by have := hpm.2.1 i hi1; omega⟩
          obtain ⟨b, hb, hbn⟩ : ∃ b : Nat, ns.getD j 0 = (b : Int) ∧ b < n := ⟨(ns.getD j 0).toNat, by have := hpm.2.1 j hj1; omega, by have := hpm.2.1 j hj1; omega⟩
          rw [ha] at ci1
          rw [hb] at cj1
          have hbw : Below w.heap.size w wr := HB4.out.trans (hB.mono (by omega))
          have c0 : wr.cell? ⟨g, k, none⟩ = some (.slice (some ⟨G k, 0, none⟩) 2 (C k)) := (hbw.cell (p := ⟨g, k, none⟩) (by show g < _; omega)).trans q1
          have c1 : wr.cell? ⟨G k, 0, none⟩ = some (.int .i64 i) := (hbw.cell (p := ⟨G k, 0, none⟩) (by show G k < _; omega)).trans (q4 0 (by simp))
          have c2 : wr.cell? ⟨G k, 1, none⟩ = some (.int .i64 j) := (hbw.cell (p := ⟨G k, 1, none⟩) (by show G k < _; omega)).trans (q4 1 (by simp))
          have hGk : G k < wr.heap.size := by have := hbw.size; omega
          have hgne : g4 ≠ G k := by omega
          have hgne' : G k ≠ g4 := by omega
          have hii : (i : Int) < (n : Int) := by omega
          have hjj : (j : Int) < (n : Int) := by omega
          have HLN : Hid (ys.length ≤ 1000000) := by show _ ≤ _; omega
          have HHB := Lib.hid hb
          have HHA := Lib.hid ha
          have HNE := Lib.hid hne
          clear hpm hnl ha hb hr ea q1 q2 q3 q4 hB hN hbw hyl
          go_wp2_with fail
          refine wp_region_later wr.heap.size wr (by kernel_rfl) (by kernel_rfl) (Below.refl _ _) ?_
          have hLW := LW.cells (B := wr.heap.size) (w0 := wr)
          repeat (go_big_quiet_step (fail))
          refine wpQuiet_nil ?_
          rintro w2 ⟨⟨w2s, hb2⟩, rfl⟩
          clear hLW
          have HB2 := Lib.hid hb2
          have hz2 := hb2.size
          have f1 := (hb2.cell (p := ⟨G k, 0, none⟩) hGk).trans c1
          have f2 := (hb2.cell (p := ⟨G k, 1, none⟩) hGk).trans c2
          have f3 := (hb2.cell (p := ⟨g4, i, none⟩) ci3).trans ci1
          have f4 := (hb2.cell (p := ⟨g4, j, none⟩) ci3).trans cj1
          have f5 := (hb2.frozen (p := ⟨g4, i, none⟩) ci3).trans ci2
          have f6 := (hb2.frozen (p := ⟨g4, j, none⟩) ci3).trans cj2
          have HO2 : Hid (OwnI w2 w3.heap.size w4.heap.size (.slice (some ⟨g4, 0, none⟩) n cap4) ns) := Own.below HO.out hb2 (by omega)
          have HN2 : Hid (NB w2 w4.heap.size n v us ys) := ⟨(hb2.block w4.heap.size hXl).trans HN.out.box, (HN.out.own.below hb2 (Nat.le_refl _)).mono (Nat.le_refl _) hz2⟩
          have HB22 : Hid (Below w3.heap.size w4 w2) := HB.out.trans (hb2.mono (by omega))
          clear c0 c1 c2 ci1 ci2 cj1 cj2 hb2
          by_cases hba : b < a
          · have e0 : (b : Int) < (a : Int) := by omega
            have HX : Hid (stdX n (xss.take (k + 1)) = ((ns.set i b).set j a, ys ++ [[(b : Int), (a : Int)]])) := by
              show _ = _
              rw [HX0.out]
              have hsn : stdNs ns i j = (ns.set i b).set j a := by unfold stdNs; rw [HHA.out, HHB.out, if_pos e0]
              have sw := fun t => swap_getD ns i j t (by rw [HNL.out]; exact hi1) (by rw [HNL.out]; exact hj1) HNE.out
              rw [HHA.out, HHB.out] at sw
              unfold stdStp
              simp only [List.getD_cons_zero, List.getD_cons_succ, Int.toNat_natCast, hsn, sw, if_true]
              rw [if_neg (Ne.symm HNE.out)]
            clear HX0
            go_wp2_with fail
            refine wpV_start (S := fun W' : World => W'.cell? ⟨G k, 0, none⟩ = some (.int .i64 i) ∧ W'.cell? ⟨G k, 1, none⟩ = some (.int .i64 j) ∧ W'.cell? ⟨g4, i, none⟩ = some (.int .i64 a) ∧ W'.cell? ⟨g4, j, none⟩ = some (.int .i64 b)) (m := 21) (S2 := fun W' : World => W'.cell? ⟨G k, 0, none⟩ = some (.int .i64 i) ∧ W'.cell? ⟨G k, 1, none⟩ = some (.int .i64 j)) (m2 := 23) (by kernel_rfl) ?_
            have hHeld : (fun W' : World => W'.cell? ⟨G k, 0, none⟩ = some (.int .i64 i) ∧ W'.cell? ⟨G k, 1, none⟩ = some (.int .i64 j) ∧ W'.cell? ⟨g4, i, none⟩ = some (.int .i64 a) ∧ W'.cell? ⟨g4, j, none⟩ = some (.int .i64 b)) w2.drew ∧ (fun W' : World => W'.cell? ⟨G k, 0, none⟩ = some (.int .i64 i) ∧ W'.cell? ⟨G k, 1, none⟩ = some (.int .i64 j)) w2.drew := ⟨⟨f1, f2, f3, f4⟩, ⟨f1, f2⟩⟩
            refine wpV_take (i := 0) (v := ?_) rfl (by kernel_rfl) (fun _ _ _ h => h) ⟨by rfl, ?_⟩ hHeld ?_
            rotate_left
            · (intro w hSw; (try dsimp only at hSw); go_simp; try with_reducible rfl)
            try simp only [Act.put, List.setIfInBounds_toArray, List.set_cons_zero, List.set_cons_succ]
            refine wpV_take (i := 1) (v := ?_) rfl (by kernel_rfl) (fun _ _ _ h => h) ⟨by rfl, ?_⟩ hHeld ?_
            rotate_left
            · (intro w hSw; (try dsimp only at hSw); go_simp; try with_reducible rfl)
            try simp only [Act.put, List.setIfInBounds_toArray, List.set_cons_zero, List.set_cons_succ]
            refine wpV_take (i := 2) (v := ?_) rfl (by kernel_rfl) (fun _ _ _ h => h) ⟨by rfl, ?_⟩ hHeld ?_
            rotate_left
            · (intro w hSw; (try dsimp only at hSw); go_simp; try with_reducible rfl)
            try simp only [Act.put, List.setIfInBounds_toArray, List.set_cons_zero, List.set_cons_succ]
            refine wpV_take (i := 3) (v := ?_) rfl (by kernel_rfl) (fun _ _ _ h => h) ⟨by rfl, ?_⟩ hHeld ?_
            rotate_left
            · (intro w hSw; (try dsimp only at hSw); go_simp; try with_reducible rfl)
            try simp only [Act.put, List.setIfInBounds_toArray, List.set_cons_zero, List.set_cons_succ]
            refine wpV_swap ?_
            refine wpV_take (i := 4) (v := ?_) rfl (by kernel_rfl) (fun _ _ _ h => h) ⟨by rfl, ?_⟩ hHeld.symm ?_
            rotate_left
            · (intro w hSw; (try dsimp only at hSw); go_simp; try with_reducible rfl)
            try simp only [Act.put, List.setIfInBounds_toArray, List.set_cons_zero, List.set_cons_succ]
            refine wpV_take (i := 5) (v := ?_) rfl (by kernel_rfl) (fun _ _ _ h => h) ⟨by rfl, ?_⟩ hHeld.symm ?_
            rotate_left
            · (intro w hSw; (try dsimp only at hSw); go_simp; try with_reducible rfl)
            try simp only [Act.put, List.setIfInBounds_toArray, List.set_cons_zero, List.set_cons_succ]
            refine wpV_take (i := 6) (v := ?_) rfl (by kernel_rfl) (fun _ _ _ h => h) ⟨by rfl, ?_⟩ hHeld.symm ?_
            rotate_left
            · (intro w hSw; (try dsimp only at hSw); go_simp; try with_reducible rfl)
            try simp only [Act.put, List.setIfInBounds_toArray, List.set_cons_zero, List.set_cons_succ]
            refine wpV_swap ?_
            refine wpV_take (i := 7) (v := ?_) rfl (by kernel_rfl) (fun _ _ _ h => h) ⟨by rfl, ?_⟩ hHeld ?_
            rotate_left
            · (intro w hSw; (try dsimp only at hSw); go_simp; try with_reducible rfl)
            try simp only [Act.put, List.setIfInBounds_toArray, List.set_cons_zero, List.set_cons_succ]
            refine wpV_take (i := 8) (v := ?_) rfl (by kernel_rfl) (fun _ _ _ h => h) ⟨by rfl, ?_⟩ hHeld ?_
            rotate_left
            · (intro w hSw; (try dsimp only at hSw); go_simp; try with_reducible rfl)
            try simp only [Act.put, List.setIfInBounds_toArray, List.set_cons_zero, List.set_cons_succ]
            refine wpV_take (i := 9) (v := ?_) rfl (by kernel_rfl) (fun _ _ _ h => h) ⟨by rfl, ?_⟩ hHeld ?_
            rotate_left
            · (intro w hSw; (try dsimp only at hSw); go_simp; try with_reducible rfl)
            try simp only [Act.put, List.setIfInBounds_toArray, List.set_cons_zero, List.set_cons_succ]
            refine wpV_take (i := 10) (v := ?_) rfl (by kernel_rfl) (fun _ _ _ h => h) ⟨by rfl, ?_⟩ hHeld ?_
            rotate_left
            · (intro w hSw; (try dsimp only at hSw); go_simp; try with_reducible rfl)
            try simp only [Act.put, List.setIfInBounds_toArray, List.set_cons_zero, List.set_cons_succ]
            refine wpV_take (i := 11) (v := ?_) rfl (by kernel_rfl) (fun _ _ _ h => h) ⟨by rfl, ?_⟩ hHeld ?_
            rotate_left
            · (intro w hSw; (try dsimp only at hSw); go_simp; try with_reducible rfl)
            try simp only [Act.put, List.setIfInBounds_toArray, List.set_cons_zero, List.set_cons_succ]
            refine wpV_take (i := 12) (v := ?_) rfl (by kernel_rfl) (fun _ _ _ h => h) ⟨by rfl, ?_⟩ hHeld ?_
            rotate_left
            · (intro w hSw; (try dsimp only at hSw); go_simp; try with_reducible rfl)
            try simp only [Act.put, List.setIfInBounds_toArray, List.set_cons_zero, List.set_cons_succ]
            refine wpV_take (i := 13) (v := ?_) rfl (by kernel_rfl) (fun _ _ _ h => h) ⟨by rfl, ?_⟩ hHeld ?_
            rotate_left
            · (intro w hSw; (try dsimp only at hSw); go_simp; try with_reducible rfl)
            try simp only [Act.put, List.setIfInBounds_toArray, List.set_cons_zero, List.set_cons_succ]
            refine wpV_swap ?_
            refine wpV_take (i := 14) (v := ?_) rfl (by kernel_rfl) (fun _ _ _ h => h) ⟨by rfl, ?_⟩ hHeld.symm ?_
            rotate_left
            · (intro w hSw; (try dsimp only at hSw); go_simp; try with_reducible rfl)
            try simp only [Act.put, List.setIfInBounds_toArray, List.set_cons_zero, List.set_cons_succ]
            refine wpV_take (i := 15) (v := ?_) rfl (by kernel_rfl) (fun _ _ _ h => h) ⟨by rfl, ?_⟩ hHeld.symm ?_
            rotate_left
            · (intro w hSw; (try dsimp only at hSw); go_simp; try with_reducible rfl)
            try simp only [Act.put, List.setIfInBounds_toArray, List.set_cons_zero, List.set_cons_succ]
            refine wpV_take (i := 16) (v := ?_) rfl (by kernel_rfl) (fun _ _ _ h => h) ⟨by rfl, ?_⟩ hHeld.symm ?_
            rotate_left
            · (intro w hSw; (try dsimp only at hSw); go_simp; try with_reducible rfl)
            try simp only [Act.put, List.setIfInBounds_toArray, List.set_cons_zero, List.set_cons_succ]
            refine wpV_swap ?_
            refine wpV_take (i := 17) (v := ?_) rfl (by kernel_rfl) (fun _ _ _ h => h) ⟨by rfl, ?_⟩ hHeld ?_
            rotate_left
            · (intro w hSw; (try dsimp only at hSw); go_simp; try with_reducible rfl)
            try simp only [Act.put, List.setIfInBounds_toArray, List.set_cons_zero, List.set_cons_succ]
            refine wpV_swap ?_
            refine wpV_take (i := 18) (v := ?_) rfl (by kernel_rfl) (fun _ _ _ h => h) ⟨by rfl, ?_⟩ hHeld.symm ?_
            rotate_left
            · (intro w hSw; (try dsimp only at hSw); go_simp; try with_reducible rfl)
            try simp only [Act.put, List.setIfInBounds_toArray, List.set_cons_zero, List.set_cons_succ]
            refine wpV_swap ?_
            refine wpV_take (i := 19) (v := ?_) rfl (by kernel_rfl) (fun _ _ _ h => h) ⟨by rfl, ?_⟩ hHeld ?_
            rotate_left
            · (intro w hSw; (try dsimp only at hSw); go_simp; try with_reducible rfl)
            try simp only [Act.put, List.setIfInBounds_toArray, List.set_cons_zero, List.set_cons_succ]
            refine wpV_take (i := 20) (v := ?_) rfl (by kernel_rfl) (fun _ _ _ h => h) ⟨by rfl, ?_⟩ hHeld ?_
            rotate_left
            · (intro w hSw; (try dsimp only at hSw); go_simp; try with_reducible rfl)
            try simp only [Act.put, List.setIfInBounds_toArray, List.set_cons_zero, List.set_cons_succ]
            refine wpV_one (by kernel_rfl) rfl (fun K hK => ?_)
            go_simp
            refine hK.out _ _ (⟨(World.cell?_setCell_far _ _ _ _ hgne).trans f1, (World.cell?_setCell_far _ _ _ _ hgne).trans f2⟩) ?_
            clear hK K
            try simp only [Act.put, List.setIfInBounds_toArray, List.set_cons_zero, List.set_cons_succ]
            refine wpV_next (i := 22) (by kernel_rfl) rfl (by kernel_rfl) (fun K hK => ?_)
            go_simp
            refine hK.out _ _ (.inr (⟨(World.cell?_setCell_far _ _ _ _ hgne).trans f1, (World.cell?_setCell_far _ _ _ _ hgne).trans f2⟩)) ?_
            clear hK K
            try simp only [Act.put, List.setIfInBounds_toArray, List.set_cons_zero, List.set_cons_succ]
            refine wpV_next (i := 23) (by kernel_rfl) rfl (by kernel_rfl) (fun K hK => ?_)
            go_simp
            refine hK.out _ _ (.inl rfl) ?_
            clear hK K
            try simp only [Act.put, List.setIfInBounds_toArray, List.set_cons_zero, List.set_cons_succ]
            refine wpV_done (by kernel_rfl) ?_ _
            obtain ⟨W6, hW6⟩ : ∃ W, W = ((w2.setCell ⟨g4, i, none⟩ (.int .i64 b)).setCell ⟨g4, j, none⟩ (.int .i64 a)).drew := ⟨_, rfl⟩
            have HO6 : Hid (OwnI W6 w3.heap.size w4.heap.size (.slice (some ⟨g4, 0, none⟩) n cap4) ((ns.set i b).set j a)) := by show OwnI _ _ _ _ _; rw [hW6]; exact (OwnI.store (Own.kept (w' := w2.drew) HO2.out fun _ _ _ _ => rfl) HNL.out.symm i b).store (by rw [List.length_set]; exact HNL.out.symm) j a
            have HN6 : Hid (NB W6 w4.heap.size n v us ys) := by
              show NB _ _ _ _ _ _; rw [hW6]
              exact NB.far (NB.far (show NB w2.drew w4.heap.size n v us ys from ⟨HN2.out.box, by exact HN2.out.own.kept (w' := w2.drew) fun _ _ _ _ => rfl⟩) gk2) gk2
            have HB6 : Hid (Below w3.heap.size w4 W6) := by show Below _ _ _; rw [hW6]; exact (HB22.out.drew.setCell gk1 _).setCell gk1 _
            have hXl6 : w4.heap.size + 1 ≤ W6.heap.size := by rw [hW6]; simp [World.setCell]; have : w2.drew.heap.size = w2.heap.size := rfl; omega
            have hGk6 : G k < W6.heap.size := by omega
            have sw6 := fun t => swap_getD ns i j t (by rw [HNL.out]; exact hi1) (by rw [HNL.out]; exact hj1) HNE.out
            rw [HHA.out, HHB.out] at sw6
            have f1' : W6.cell? ⟨G k, 0, none⟩ = some (.int .i64 i) := by rw [hW6]; exact (World.cell?_setCell_far _ _ _ _ hgne).trans ((World.cell?_setCell_far _ _ _ _ hgne).trans f1)
            have f2' : W6.cell? ⟨G k, 1, none⟩ = some (.int .i64 j) := by rw [hW6]; exact (World.cell?_setCell_far _ _ _ _ hgne).trans ((World.cell?_setCell_far _ _ _ _ hgne).trans f2)
            have f3' : W6.cell? ⟨g4, i, none⟩ = some (.int .i64 b) := by
              have h := (HO6.out.cellAt i (by rw [List.length_set, List.length_set, HNL.out]; exact hi1)).1
              rwa [sw6 i, if_pos rfl] at h
            have f4' : W6.cell? ⟨g4, j, none⟩ = some (.int .i64 a) := by
              have h := (HO6.out.cellAt j (by rw [List.length_set, List.length_set, HNL.out]; exact hj1)).1
              rwa [sw6 j, if_neg (Ne.symm HNE.out), if_pos rfl] at h
            clear sw6 f1 f2 f3 f4 f5 f6
            obtain ⟨f1, f2, f3, f4⟩ := (⟨f1', f2', f3', f4'⟩ : _ ∧ _ ∧ _ ∧ _)
            clear f1' f2' f3' f4'
            try rw [← hW6]
            clear hW6
            obtain ⟨d9, e1, y0, y1⟩ := HN6.out.cells
            have HBX := Lib.hid HN6.out.box
            have HOW := Lib.hid HN6.out.own
            have HRd := Lib.hid (HOW.out.kept (w' := W6.drew) fun _ _ _ _ => rfl)
            have hz2 : w4.heap.size + 1 ≤ W6.drew.heap.size := hXl6
            have HSS : Hid (∀ W', Below (w4.heap.size + 1) W6 W' → (fun W' : World => W'.cell? ⟨w4.heap.size, 1, none⟩ = some v ∧ W'.cell? ⟨G k, 0, none⟩ = some (.int .i64 i) ∧ W'.cell? ⟨G k, 1, none⟩ = some (.int .i64 j) ∧ W'.cell? ⟨g4, i, none⟩ = some (.int .i64 b) ∧ W'.cell? ⟨g4, j, none⟩ = some (.int .i64 a)) W') := fun W' hb =>
              ⟨(hb.cell (p := ⟨w4.heap.size, 1, none⟩) (by show w4.heap.size < _; omega)).trans e1, (hb.cell (p := ⟨G k, 0, none⟩) (by show G k < _; omega)).trans f1, (hb.cell (p := ⟨G k, 1, none⟩) (by show G k < _; omega)).trans f2, (hb.cell (p := ⟨g4, i, none⟩) (by show g4 < _; omega)).trans f3, (hb.cell (p := ⟨g4, j, none⟩) (by show g4 < _; omega)).trans f4⟩
            have hA1 : ∀ X : Obj, Below (w4.heap.size + 1) W6 (W6.drew.alloc X) := fun X => (Below.refl _ _).drew.alloc hz2 _
            have hA2 : ∀ X Y : Obj, Below (w4.heap.size + 1) W6 ((W6.drew.alloc X).alloc Y) := fun X Y => (hA1 X).alloc (by simp; omega) _
            have HA1 := Lib.hid hA1
            have HA2 := Lib.hid hA2
            clear hA1 hA2
            have HKK : Hid (keptC 0 0 W6.drew W6.drew v) := fun k k1 k2 => by omega
            have h00 : 0 ≤ W6.drew.heap.size := Nat.zero_le _
            go_wp2_with fail
            refine wpU_start (S := fun W' : World => W'.cell? ⟨w4.heap.size, 1, none⟩ = some v ∧ W'.cell? ⟨G k, 0, none⟩ = some (.int .i64 i) ∧ W'.cell? ⟨G k, 1, none⟩ = some (.int .i64 j) ∧ W'.cell? ⟨g4, i, none⟩ = some (.int .i64 b) ∧ W'.cell? ⟨g4, j, none⟩ = some (.int .i64 a)) (m := 18) (by kernel_rfl) ?_
            have hHeld : (fun W' : World => W'.cell? ⟨w4.heap.size, 1, none⟩ = some v ∧ W'.cell? ⟨G k, 0, none⟩ = some (.int .i64 i) ∧ W'.cell? ⟨G k, 1, none⟩ = some (.int .i64 j) ∧ W'.cell? ⟨g4, i, none⟩ = some (.int .i64 b) ∧ W'.cell? ⟨g4, j, none⟩ = some (.int .i64 a)) W6.drew := ⟨e1, f1, f2, f3, f4⟩
            refine wpU_take (i := 0) (v := ?_) rfl (by kernel_rfl) (fun _ _ _ h => h) ⟨by rfl, ?_⟩ hHeld ?_
            rotate_left
            · (intro w hSw; (try dsimp only at hSw); go_simp; try with_reducible rfl)
            try simp only [Act.put, List.setIfInBounds_toArray, List.set_cons_zero, List.set_cons_succ]
            refine wpU_take (i := 1) (v := ?_) rfl (by kernel_rfl) (fun _ _ _ h => h) ⟨by rfl, ?_⟩ hHeld ?_
            rotate_left
            · (intro w hSw; (try dsimp only at hSw); go_simp; try with_reducible rfl)
            try simp only [Act.put, List.setIfInBounds_toArray, List.set_cons_zero, List.set_cons_succ]
            refine wpU_take (i := 2) (v := ?_) rfl (by kernel_rfl) (fun _ _ _ h => h) ⟨by rfl, ?_⟩ hHeld ?_
            rotate_left
            · (intro w hSw; (try dsimp only at hSw); go_simp; try with_reducible rfl)
            try simp only [Act.put, List.setIfInBounds_toArray, List.set_cons_zero, List.set_cons_succ]
            refine wpU_take (i := 3) (v := ?_) rfl (by kernel_rfl) (fun _ _ _ h => h) ⟨by rfl, ?_⟩ hHeld ?_
            rotate_left
            · (intro w hSw; (try dsimp only at hSw); go_simp; try with_reducible rfl)
            try simp only [Act.put, List.setIfInBounds_toArray, List.set_cons_zero, List.set_cons_succ]
            refine wpU_take (i := 4) (v := ?_) rfl (by kernel_rfl) (fun _ _ _ h => h) ⟨by rfl, ?_⟩ hHeld ?_
            rotate_left
            · (intro w hSw; (try dsimp only at hSw); go_simp; try with_reducible rfl)
            try simp only [Act.put, List.setIfInBounds_toArray, List.set_cons_zero, List.set_cons_succ]
            refine wpU_take (i := 5) (v := ?_) rfl (by kernel_rfl) (fun _ _ _ h => h) ⟨by rfl, ?_⟩ hHeld ?_
            rotate_left
            · (intro w hSw; (try dsimp only at hSw); go_simp; try with_reducible rfl)
            try simp only [Act.put, List.setIfInBounds_toArray, List.set_cons_zero, List.set_cons_succ]
            refine wpU_take (i := 6) (v := ?_) rfl (by kernel_rfl) (fun _ _ _ h => h) ⟨by rfl, ?_⟩ hHeld ?_
            rotate_left
            · (intro w hSw; (try dsimp only at hSw); go_simp; try with_reducible rfl)
            try simp only [Act.put, List.setIfInBounds_toArray, List.set_cons_zero, List.set_cons_succ]
            refine wpU_take (i := 7) (v := ?_) rfl (by kernel_rfl) (fun _ _ _ h => h) ⟨by rfl, ?_⟩ hHeld ?_
            rotate_left
            · (intro w hSw; (try dsimp only at hSw); go_simp; try with_reducible rfl)
            try simp only [Act.put, List.setIfInBounds_toArray, List.set_cons_zero, List.set_cons_succ]
            refine wpU_take (i := 8) (v := ?_) rfl (by kernel_rfl) (fun _ _ _ h => h) ⟨by rfl, ?_⟩ hHeld ?_
            rotate_left
            · (intro w hSw; (try dsimp only at hSw); go_simp; try with_reducible rfl)
            try simp only [Act.put, List.setIfInBounds_toArray, List.set_cons_zero, List.set_cons_succ]
            refine wpU_take (i := 9) (v := ?_) rfl (by kernel_rfl) (fun _ _ _ h => h) ⟨by rfl, ?_⟩ hHeld ?_
            rotate_left
            · (intro w hSw; (try dsimp only at hSw); go_simp; try with_reducible rfl)
            try simp only [Act.put, List.setIfInBounds_toArray, List.set_cons_zero, List.set_cons_succ]
            refine wpU_take (i := 10) (v := ?_) rfl (by kernel_rfl) (fun _ _ _ h => h) ⟨by rfl, ?_⟩ hHeld ?_
            rotate_left
            · (intro w hSw; (try dsimp only at hSw); go_simp; try with_reducible rfl)
            try simp only [Act.put, List.setIfInBounds_toArray, List.set_cons_zero, List.set_cons_succ]
            refine wpU_take (i := 11) (v := ?_) rfl (by kernel_rfl) (fun _ _ _ h => h) ⟨by rfl, ?_⟩ hHeld ?_
            rotate_left
            · (intro w hSw; (try dsimp only at hSw); go_simp; try with_reducible rfl)
            try simp only [Act.put, List.setIfInBounds_toArray, List.set_cons_zero, List.set_cons_succ]
            refine wpU_take (i := 12) (v := ?_) rfl (by kernel_rfl) (fun _ _ _ h => h) ⟨by rfl, ?_⟩ hHeld ?_
            rotate_left
            · (intro w hSw; (try dsimp only at hSw); go_simp; try with_reducible rfl)
            try simp only [Act.put, List.setIfInBounds_toArray, List.set_cons_zero, List.set_cons_succ]
            refine wpU_take (i := 13) (v := ?_) rfl (by kernel_rfl) (fun _ _ _ h => h) ⟨by rfl, ?_⟩ hHeld ?_
            rotate_left
            · (intro w hSw; (try dsimp only at hSw); go_simp; try with_reducible rfl)
            try simp only [Act.put, List.setIfInBounds_toArray, List.set_cons_zero, List.set_cons_succ]
            refine wpU_one (i := 14) (by kernel_rfl) rfl (fun K hK => ?_)
            go_simp
            refine hK.out _ _ (HSS.out _ (HA1.out _)) (fun hHeld => ?_)
            clear hK K
            try simp only [Act.put, List.setIfInBounds_toArray, List.set_cons_zero, List.set_cons_succ]
            refine wpU_one (i := 15) (by kernel_rfl) rfl (fun K hK => ?_)
            go_simp
            refine hK.out _ _ (HSS.out _ (HA2.out _ _)) (fun hHeld => ?_)
            clear hK K
            try simp only [Act.put, List.setIfInBounds_toArray, List.set_cons_zero, List.set_cons_succ]
            refine wpU_one (i := 16) (by kernel_rfl) rfl (fun K hK => ?_)
            refine wp_app_pairC (.tmp 71) (.tmp 85) rfl W6.drew (b : Nat) (a : Nat) (w4.heap.size + 1) _ us ys 0 0 W6.drew HRd.out hz2 HKK.out h00 HLN.out rfl rfl ?_; intro g' L' cap' w8 vs8 hL8 o8 q8 z8 k8 y8; have bx8 := blk_below HBX.out (undrew q8) (by omega); have x0 := blk_cell bx8 0; have x1 := blk_cell bx8 1; have x2 := blk_free bx8 1; have BX8 := Lib.hid bx8; have O8 := Lib.hid o8; have Q8 := Lib.hid (undrew q8); clear o8 k8 bx8
            refine hK.out _ _ (HSS.out _ (Q8.out)) (fun hHeld => ?_)
            clear hK K
            try simp only [Act.put, List.setIfInBounds_toArray, List.set_cons_zero, List.set_cons_succ]
            refine wpU_take (i := 17) (v := ?_) rfl (by kernel_rfl) (fun _ _ _ h => h) ⟨by rfl, ?_⟩ hHeld ?_
            rotate_left
            · (intro w hSw; (try dsimp only at hSw); go_simp; try with_reducible rfl)
            try simp only [Act.put, List.setIfInBounds_toArray, List.set_cons_zero, List.set_cons_succ]
            refine wpU_last (by kernel_rfl) rfl (fun K hK => ?_)
            go_simp
            refine hK.out _ _ ?_
            clear hK K
            try simp only [Act.put, List.setIfInBounds_toArray, List.set_cons_zero, List.set_cons_succ]
            refine wpU_done (by kernel_rfl) ?_ _
            go_wp2
            go_roundw
            case rel => exact ⟨k + 1, by omega, by go_num, _, vs8, _, _, by rw [HX.out]; exact ⟨rfl, rfl⟩, NB.store BX8.out O8.out, (Own.below HO6.out Q8.out (by omega)).kept fun k _ h2 _ => Below.heap_setCell _ _ _ _ (by show k ≠ w4.heap.size; omega), (HB6.out.trans (Q8.out.mono (by omega))).setCell (by show w3.heap.size ≤ w4.heap.size; omega) _, by simp [World.setCell]; omega⟩
            case measure => simp [intOf]; omega
          · have e0 : ¬ (b : Int) < (a : Int) := by omega
            have HX : Hid (stdX n (xss.take (k + 1)) = (ns, ys ++ [[(a : Int), (b : Int)]])) := by
              show _ = _
              rw [HX0.out]
              have hsn : stdNs ns i j = ns := by unfold stdNs; rw [HHA.out, HHB.out, if_neg e0]
              unfold stdStp
              simp only [List.getD_cons_zero, List.getD_cons_succ, Int.toNat_natCast, hsn, HHA.out, HHB.out]
            clear HX0
            have HO6 := HO2
            have HB6 := HB22
            have hXl6 : w4.heap.size + 1 ≤ w2.heap.size := by omega
            obtain ⟨d9, e1, y0, y1⟩ := HN2.out.cells
            have HBX := Lib.hid HN2.out.box
            have HOW := Lib.hid HN2.out.own
            have HRd := Lib.hid (HOW.out.kept (w' := w2.drew) fun _ _ _ _ => rfl)
            have hz2 : w4.heap.size + 1 ≤ w2.drew.heap.size := hXl6
            have HSS : Hid (∀ W', Below (w4.heap.size + 1) w2 W' → (fun W' : World => W'.cell? ⟨w4.heap.size, 1, none⟩ = some v ∧ W'.cell? ⟨G k, 0, none⟩ = some (.int .i64 i) ∧ W'.cell? ⟨G k, 1, none⟩ = some (.int .i64 j) ∧ W'.cell? ⟨g4, i, none⟩ = some (.int .i64 a) ∧ W'.cell? ⟨g4, j, none⟩ = some (.int .i64 b)) W') := fun W' hb =>
              ⟨(hb.cell (p := ⟨w4.heap.size, 1, none⟩) (by show w4.heap.size < _; omega)).trans e1, (hb.cell (p := ⟨G k, 0, none⟩) (by show G k < _; omega)).trans f1, (hb.cell (p := ⟨G k, 1, none⟩) (by show G k < _; omega)).trans f2, (hb.cell (p := ⟨g4, i, none⟩) (by show g4 < _; omega)).trans f3, (hb.cell (p := ⟨g4, j, none⟩) (by show g4 < _; omega)).trans f4⟩
            have hA1 : ∀ X : Obj, Below (w4.heap.size + 1) w2 (w2.drew.alloc X) := fun X => (Below.refl _ _).drew.alloc hz2 _
            have hA2 : ∀ X Y : Obj, Below (w4.heap.size + 1) w2 ((w2.drew.alloc X).alloc Y) := fun X Y => (hA1 X).alloc (by simp; omega) _
            have HA1 := Lib.hid hA1
            have HA2 := Lib.hid hA2
            clear hA1 hA2
            have HKK : Hid (keptC 0 0 w2.drew w2.drew v) := fun k k1 k2 => by omega
            have h00 : 0 ≤ w2.drew.heap.size := Nat.zero_le _
            go_wp2_with fail
            refine wpU_start (S := fun W' : World => W'.cell? ⟨w4.heap.size, 1, none⟩ = some v ∧ W'.cell? ⟨G k, 0, none⟩ = some (.int .i64 i) ∧ W'.cell? ⟨G k, 1, none⟩ = some (.int .i64 j) ∧ W'.cell? ⟨g4, i, none⟩ = some (.int .i64 a) ∧ W'.cell? ⟨g4, j, none⟩ = some (.int .i64 b)) (m := 18) (by kernel_rfl) ?_
            have hHeld : (fun W' : World => W'.cell? ⟨w4.heap.size, 1, none⟩ = some v ∧ W'.cell? ⟨G k, 0, none⟩ = some (.int .i64 i) ∧ W'.cell? ⟨G k, 1, none⟩ = some (.int .i64 j) ∧ W'.cell? ⟨g4, i, none⟩ = some (.int .i64 a) ∧ W'.cell? ⟨g4, j, none⟩ = some (.int .i64 b)) w2.drew := ⟨e1, f1, f2, f3, f4⟩
            refine wpU_take (i := 0) (v := ?_) rfl (by kernel_rfl) (fun _ _ _ h => h) ⟨by rfl, ?_⟩ hHeld ?_
            rotate_left
            · (intro w hSw; (try dsimp only at hSw); go_simp; try with_reducible rfl)
            try simp only [Act.put, List.setIfInBounds_toArray, List.set_cons_zero, List.set_cons_succ]
            refine wpU_take (i := 1) (v := ?_) rfl (by kernel_rfl) (fun _ _ _ h => h) ⟨by rfl, ?_⟩ hHeld ?_
            rotate_left
            · (intro w hSw; (try dsimp only at hSw); go_simp; try with_reducible rfl)
            try simp only [Act.put, List.setIfInBounds_toArray, List.set_cons_zero, List.set_cons_succ]
            refine wpU_take (i := 2) (v := ?_) rfl (by kernel_rfl) (fun _ _ _ h => h) ⟨by rfl, ?_⟩ hHeld ?_
            rotate_left
            · (intro w hSw; (try dsimp only at hSw); go_simp; try with_reducible rfl)
            try simp only [Act.put, List.setIfInBounds_toArray, List.set_cons_zero, List.set_cons_succ]
            refine wpU_take (i := 3) (v := ?_) rfl (by kernel_rfl) (fun _ _ _ h => h) ⟨by rfl, ?_⟩ hHeld ?_
            rotate_left
            · (intro w hSw; (try dsimp only at hSw); go_simp; try with_reducible rfl)
            try simp only [Act.put, List.setIfInBounds_toArray, List.set_cons_zero, List.set_cons_succ]
            refine wpU_take (i := 4) (v := ?_) rfl (by kernel_rfl) (fun _ _ _ h => h) ⟨by rfl, ?_⟩ hHeld ?_
            rotate_left
            · (intro w hSw; (try dsimp only at hSw); go_simp; try with_reducible rfl)
            try simp only [Act.put, List.setIfInBounds_toArray, List.set_cons_zero, List.set_cons_succ]
            refine wpU_take (i := 5) (v := ?_) rfl (by kernel_rfl) (fun _ _ _ h => h) ⟨by rfl, ?_⟩ hHeld ?_
            rotate_left
            · (intro w hSw; (try dsimp only at hSw); go_simp; try with_reducible rfl)
            try simp only [Act.put, List.setIfInBounds_toArray, List.set_cons_zero, List.set_cons_succ]
            refine wpU_take (i := 6) (v := ?_) rfl (by kernel_rfl) (fun _ _ _ h => h) ⟨by rfl, ?_⟩ hHeld ?_
            rotate_left
            · (intro w hSw; (try dsimp only at hSw); go_simp; try with_reducible rfl)
            try simp only [Act.put, List.setIfInBounds_toArray, List.set_cons_zero, List.set_cons_succ]
            refine wpU_take (i := 7) (v := ?_) rfl (by kernel_rfl) (fun _ _ _ h => h) ⟨by rfl, ?_⟩ hHeld ?_
            rotate_left
            · (intro w hSw; (try dsimp only at hSw); go_simp; try with_reducible rfl)
            try simp only [Act.put, List.setIfInBounds_toArray, List.set_cons_zero, List.set_cons_succ]
            refine wpU_take (i := 8) (v := ?_) rfl (by kernel_rfl) (fun _ _ _ h => h) ⟨by rfl, ?_⟩ hHeld ?_
            rotate_left
            · (intro w hSw; (try dsimp only at hSw); go_simp; try with_reducible rfl)
            try simp only [Act.put, List.setIfInBounds_toArray, List.set_cons_zero, List.set_cons_succ]
            refine wpU_take (i := 9) (v := ?_) rfl (by kernel_rfl) (fun _ _ _ h => h) ⟨by rfl, ?_⟩ hHeld ?_
            rotate_left
            · (intro w hSw; (try dsimp only at hSw); go_simp; try with_reducible rfl)
            try simp only [Act.put, List.setIfInBounds_toArray, List.set_cons_zero, List.set_cons_succ]
            refine wpU_take (i := 10) (v := ?_) rfl (by kernel_rfl) (fun _ _ _ h => h) ⟨by rfl, ?_⟩ hHeld ?_
            rotate_left
            · (intro w hSw; (try dsimp only at hSw); go_simp; try with_reducible rfl)
            try simp only [Act.put, List.setIfInBounds_toArray, List.set_cons_zero, List.set_cons_succ]
            refine wpU_take (i := 11) (v := ?_) rfl (by kernel_rfl) (fun _ _ _ h => h) ⟨by rfl, ?_⟩ hHeld ?_
            rotate_left
            · (intro w hSw; (try dsimp only at hSw); go_simp; try with_reducible rfl)
            try simp only [Act.put, List.setIfInBounds_toArray, List.set_cons_zero, List.set_cons_succ]
            refine wpU_take (i := 12) (v := ?_) rfl (by kernel_rfl) (fun _ _ _ h => h) ⟨by rfl, ?_⟩ hHeld ?_
            rotate_left
            · (intro w hSw; (try dsimp only at hSw); go_simp; try with_reducible rfl)
            try simp only [Act.put, List.setIfInBounds_toArray, List.set_cons_zero, List.set_cons_succ]
            refine wpU_take (i := 13) (v := ?_) rfl (by kernel_rfl) (fun _ _ _ h => h) ⟨by rfl, ?_⟩ hHeld ?_
            rotate_left
            · (intro w hSw; (try dsimp only at hSw); go_simp; try with_reducible rfl)
            try simp only [Act.put, List.setIfInBounds_toArray, List.set_cons_zero, List.set_cons_succ]
            refine wpU_one (i := 14) (by kernel_rfl) rfl (fun K hK => ?_)
            go_simp
            refine hK.out _ _ (HSS.out _ (HA1.out _)) (fun hHeld => ?_)
            clear hK K
            try simp only [Act.put, List.setIfInBounds_toArray, List.set_cons_zero, List.set_cons_succ]
            refine wpU_one (i := 15) (by kernel_rfl) rfl (fun K hK => ?_)
            go_simp
            refine hK.out _ _ (HSS.out _ (HA2.out _ _)) (fun hHeld => ?_)
            clear hK K
            try simp only [Act.put, List.setIfInBounds_toArray, List.set_cons_zero, List.set_cons_succ]
            refine wpU_one (i := 16) (by kernel_rfl) rfl (fun K hK => ?_)
            refine wp_app_pairC (.tmp 71) (.tmp 85) rfl w2.drew (a : Nat) (b : Nat) (w4.heap.size + 1) _ us ys 0 0 w2.drew HRd.out hz2 HKK.out h00 HLN.out rfl rfl ?_; intro g' L' cap' w8 vs8 hL8 o8 q8 z8 k8 y8; have bx8 := blk_below HBX.out (undrew q8) (by omega); have x0 := blk_cell bx8 0; have x1 := blk_cell bx8 1; have x2 := blk_free bx8 1; have BX8 := Lib.hid bx8; have O8 := Lib.hid o8; have Q8 := Lib.hid (undrew q8); clear o8 k8 bx8
            refine hK.out _ _ (HSS.out _ (Q8.out)) (fun hHeld => ?_)
            clear hK K
            try simp only [Act.put, List.setIfInBounds_toArray, List.set_cons_zero, List.set_cons_succ]
            refine wpU_take (i := 17) (v := ?_) rfl (by kernel_rfl) (fun _ _ _ h => h) ⟨by rfl, ?_⟩ hHeld ?_
            rotate_left
            · (intro w hSw; (try dsimp only at hSw); go_simp; try with_reducible rfl)
            try simp only [Act.put, List.setIfInBounds_toArray, List.set_cons_zero, List.set_cons_succ]
            refine wpU_last (by kernel_rfl) rfl (fun K hK => ?_)
            go_simp
            refine hK.out _ _ ?_
            clear hK K
            try simp only [Act.put, List.setIfInBounds_toArray, List.set_cons_zero, List.set_cons_succ]
            refine wpU_done (by kernel_rfl) ?_ _
            go_wp2
            go_roundw
            case rel => exact ⟨k + 1, by omega, by go_num, _, vs8, _, _, by rw [HX.out]; exact ⟨rfl, rfl⟩, NB.store BX8.out O8.out, (Own.below HO6.out Q8.out (by omega)).kept fun k _ h2 _ => Below.heap_setCell _ _ _ _ (by show k ≠ w4.heap.size; omega), (HB6.out.trans (Q8.out.mono (by omega))).setCell (by show w3.heap.size ≤ w4.heap.size; omega) _, by simp [World.setCell]; omega⟩
            case measure => simp [intOf]; omega
        · have HE : Hid (xss.take k = xss) := List.take_of_length_le (by have := HLEN.out; omega)
          obtain ⟨x0, x1, y0, y1⟩ := hN.cells
          have hb9 := (HB.out.block (w.heap.size + 1) (by omega)).trans HR4.out
          have r0 := blk_cell hb9 0
          have r1 := blk_cell hb9 1
          have y0 := blk_free hb9 0
          have y1 := blk_free hb9 1
          have HO9 := Lib.hid (set_two_ownR (X := w.heap.size + 1) (y0 := .int .i64 n) (y1 := v) hN.own (by omega))
          have HI9 : Hid (OwnI ((wr.setCell ⟨w.heap.size + 1, 0, none⟩ (.int .i64 n)).setCell ⟨w.heap.size + 1, 1, none⟩ v) w3.heap.size w4.heap.size (.slice (some ⟨g4, 0, none⟩) n cap4) ns) :=
            Own.kept HO.out fun k h1 _ _ => by rw [Below.heap_setCell _ _ _ _ (by show k ≠ w.heap.size + 1; omega), Below.heap_setCell _ _ _ _ (by show k ≠ w.heap.size + 1; omega)]
          have HB9 : Hid (Below w.heap.size w ((wr.setCell ⟨w.heap.size + 1, 0, none⟩ (.int .i64 n)).setCell ⟨w.heap.size + 1, 1, none⟩ v)) := ((HB4.out.trans (hB.mono (by omega))).setCell (by show w.heap.size ≤ w.heap.size + 1; omega) _).setCell (by show w.heap.size ≤ w.heap.size + 1; omega) _
          obtain ⟨ao9, g9, cap9, ev, -, -, -⟩ := hN.own.rows
          obtain ⟨M, hM⟩ : ∃ M, M = ys.length := ⟨_, rfl⟩
          rw [← hM] at ev
          subst ev
          have hXw : w.heap.size + 1 ≠ w4.heap.size := by omega
          clear hN hB hb9 hM HN hpm
          go_wp2
          refine bodyPost_ret (v := .tuple #[.agg #[.int .i64 n, .slice ao9 M cap9], .slice (some ⟨g4, 0, none⟩) n cap4, .bool true]) (by simp [results, Try.results68, go_sem, r0, r1]) rfl ?_
          have q1 := HNS.out
          have q2 := HYS.out
          rw [HE.out] at q1 q2
          exact ⟨_, _, us, rfl, by rw [← q2]; exact HO9.out.mono (by omega) (by simp [World.setCell]), by rw [← q1]; exact Own.mono HI9.out (by omega) (by simp [World.setCell]; omega), HB9.out⟩
end Go.Proofs.Ytiodolbgapjmkaa

namespace Go.Proofs.Ytiodolbgapjmkaa
open Go.RowKit
set_option maxRecDepth 100000
set_option linter.unusedVariables false
set_option linter.unusedSimpArgs false

theorem take_eq_succ {α : Type} [DecidableEq α] {xs ys : List α} {k : Nat} (d : α) (h : xs.take k = ys.take k) (hx : k < xs.length) (hy : k < ys.length) (he : xs.getD k d = ys.getD k d) : xs.take (k + 1) = ys.take (k + 1) := by
  rw [take_snoc_getD d hx, take_snoc_getD d hy, h, he]
theorem below_drewN {B : Nat} {w0 w : World} (h : Below B w0 w) (q : Nat) : Below B w0 (w.drewN q) := ⟨h.os, h.tape, h.output, h.size, h.block⟩
set_option maxHeartbeats 1000000 in
theorem EqualFunc_c (n m : Nat) (lo hi lo2 hi2 : Nat) (v u : Value) (vs us : List Value) (xss yss : List (List Int)) (w : World) (hv : OwnR w lo hi v vs xss) (hhi : hi ≤ w.heap.size) (hx : netOk n xss = true) (hu : OwnR w lo2 hi2 u us yss) (hhi2 : hi2 ≤ w.heap.size) (hy : netOk m yss = true) :
    Calls Try.prog 140 #[v, u, .func (.func 141) #[] #[]] w fun e w' => e = .returned (.bool (decide (xss = yss))) ∧ Below w.heap.size w w' := by
  have HPX := Lib.hid (netOk_pair hx)
  have HPY := Lib.hid (netOk_pair hy)
  have hlx := netOk_len hx
  have hly := netOk_len hy
  obtain ⟨ao, g, cap, A, G, C, rfl, hcap, hao, hrow⟩ := hv.view
  obtain ⟨bo, h, cap2, B, H, D, rfl, hcap2, hbo, hrow2⟩ := hu.view
  have HRX := Lib.hid hrow
  have HRY := Lib.hid hrow2
  obtain ⟨L, hL⟩ : ∃ L, L = xss.length := ⟨_, rfl⟩
  obtain ⟨M, hM⟩ : ∃ M, M = yss.length := ⟨_, rfl⟩
  have HL := Lib.hid hL
  have HM := Lib.hid hM
  rw [← hL] at hlx hcap hao HRX HPX ⊢
  rw [← hM] at hly hcap2 hbo HRY HPY ⊢
  obtain ⟨RES, hRES⟩ : ∃ R, R = decide (xss = yss) := ⟨_, rfl⟩
  have HRES := Lib.hid hRES
  rw [← hRES]
  have eg : ∀ (args : Array Value) (w : World), (callFunc 141 args).run Try.prog w = .ok (.enter 141 args) w := fun args w => by kernel_rfl
  clear hv hu hrow hrow2 hL hM hRES
  by_cases hLM : L = M
  · subst hLM
    have hne : ((L : Int) != (L : Int)) = false := by simp
    go_enter Try.func140, Try.ntmps140
    go_wp2_with fail
    go_loopw [17] (fun t wr => ∃ k : Nat, k ≤ L ∧ t = .int .i64 k ∧ Hid (xss.take k = yss.take k) ∧ Below w.heap.size w wr) (fun t _ => L - (intOf t).toNat)
    case atStart => exact ⟨0, Nat.zero_le _, rfl, by show _ = _; simp, Below.refl _ _⟩
    case round =>
      obtain ⟨k, hk, rfl, HT, hb⟩ := hrel
      have HB := Lib.hid hb
      have hz := hb.size
      by_cases hlt : k < L
      · have hki : (k : Int) < (L : Int) := by omega
        obtain ⟨i, j, hr, -, -, -⟩ := HPX.out k hlt
        obtain ⟨i2, j2, hr2, -, -, -⟩ := HPY.out k hlt
        obtain ⟨p1, p2, p3, p4⟩ := HRX.out k hlt
        obtain ⟨q1, q2, q3, q4⟩ := HRY.out k hlt
        obtain ⟨ha0, hg1, hg2⟩ := hao (by omega)
        obtain ⟨hb0, hh1, hh2⟩ := hbo (by omega)
        subst ha0
        subst hb0
        rw [hr] at p1 p2 p3 p4
        rw [hr2] at q1 q2 q3 q4
        obtain ⟨ea, p5, p6⟩ := p3 (by simp)
        obtain ⟨eb, q5, q6⟩ := q3 (by simp)
        rw [ea] at p1
        rw [eb] at q1
        have e2 : ∀ a b : Int, ([a, b] : List Int).length = 2 := fun _ _ => rfl
        rw [e2] at p1 q1
        have c1 := (hb.cell (p := ⟨g, k, none⟩) (by show g < _; omega)).trans p1
        have c2 := (hb.cell (p := ⟨h, k, none⟩) (by show h < _; omega)).trans q1
        have HE := Lib.hid (Try.slices_Equal_int (G k) 0 2 (C k) (H k) 0 2 (D k) [(i : Int), (j : Int)] [(i2 : Int), (j2 : Int)] wr (by simp) (by simp) (by omega) (by omega)
          (fun t ht => by rw [Nat.zero_add]; exact (hb.cell (p := ⟨G k, t, none⟩) (by show G k < _; omega)).trans (p4 t ht))
          (fun t ht => by rw [Nat.zero_add]; exact (hb.cell (p := ⟨H k, t, none⟩) (by show H k < _; omega)).trans (q4 t ht)))
        have hkx : k < xss.length := by rw [← HL.out]; exact hlt
        have hky : k < yss.length := by rw [← HM.out]; exact hlt
        have eb2 : (([(i : Int), (j : Int)].take 2) == ([(i2 : Int), (j2 : Int)].take 2)) = decide (xss.getD k [] = yss.getD k []) := by rw [hr, hr2, Bool.eq_iff_iff]; simp
        rw [eb2] at HE
        clear p1 p2 p3 p4 q1 q2 q3 q4 ea eb hr hr2 eb2 hb
        by_cases heq : xss.getD k [] = yss.getD k []
        · rw [decide_eq_true heq] at HE
          have HT2 : Hid (xss.take (k + 1) = yss.take (k + 1)) := take_eq_succ [] HT.out hkx hky heq
          go_wp2_with (go_at_call 141; refine HE.out.mono ?_; rintro e w' ⟨rfl, q, rfl⟩)
          go_roundw
          case rel => exact ⟨k + 1, by omega, by go_num, HT2, below_drewN HB.out q⟩
          case measure => simp [intOf]; omega
        · rw [decide_eq_false heq] at HE
          have HR : Hid (RES = false) := by
            show _ = _
            rw [HRES.out]
            exact decide_eq_false fun e => heq (by rw [e])
          go_wp2_with (go_at_call 141; refine HE.out.mono ?_; rintro e w' ⟨rfl, q, rfl⟩)
          go_ret
          exact ⟨by rw [HR.out]; rfl, below_drewN HB.out q⟩
      · have hki : ¬ (k : Int) < (L : Int) := by omega
        have HR : Hid (RES = true) := by
          show _ = _
          rw [HRES.out]
          have h := HT.out
          rw [List.take_of_length_le (by rw [← HL.out]; omega), List.take_of_length_le (by rw [← HM.out]; omega)] at h
          exact decide_eq_true h
        go_wp2
        go_ret
        exact ⟨by rw [HR.out]; rfl, HB.out⟩
  · have hne : ((L : Int) != (M : Int)) = true := by simp; omega
    have HR : Hid (RES = false) := by
      show _ = _
      rw [HRES.out]
      exact decide_eq_false fun e => hLM (by rw [HL.out, HM.out, e])
    go_enter Try.func140, Try.ntmps140
    go_wp2
    go_ret
    exact ⟨by rw [HR.out]; rfl, Below.refl _ _⟩
set_option maxHeartbeats 1000000 in
theorem SameNetwork_y (n m : Nat) (lo hi lo2 hi2 : Nat) (v u : Value) (vs us : List Value) (xss yss : List (List Int)) (w : World) (hv : OwnR w lo hi v vs xss) (hhi : hi ≤ w.heap.size) (hx : netOk n xss = true) (hu : OwnR w lo2 hi2 u us yss) (hhi2 : hi2 ≤ w.heap.size) (hy : netOk m yss = true) :
    Calls Try.prog 63 #[.agg #[.int .i64 n, v], .agg #[.int .i64 m, u]] w fun e w' => e = .returned (.bool (decide (n = m) && decide (xss = yss))) ∧ Below w.heap.size w w' := by
  have HC : Hid (∀ w1, Below w.heap.size w w1 → Calls Try.prog 94 #[.agg #[.int .i64 n, v]] w1 fun e w' => e = .returned (.bool true) ∧ Below w1.heap.size w1 w') := fun w1 h1 => by
    have := NetworkOk_c n lo hi v vs xss w1 (hv.below h1 hhi) (by have := h1.size; omega)
    rwa [hx] at this
  have HD : Hid (∀ w1, Below w.heap.size w w1 → Calls Try.prog 94 #[.agg #[.int .i64 m, u]] w1 fun e w' => e = .returned (.bool true) ∧ Below w1.heap.size w1 w') := fun w1 h1 => by
    have := NetworkOk_c m lo2 hi2 u us yss w1 (hu.below h1 hhi2) (by have := h1.size; omega)
    rwa [hy] at this
  have HE : Hid (∀ w1, Below w.heap.size w w1 → Calls Try.prog 140 #[v, u, .func (.func 141) #[] #[]] w1 fun e w' => e = .returned (.bool (decide (xss = yss))) ∧ Below w1.heap.size w1 w') := fun w1 h1 =>
    EqualFunc_c n m lo hi lo2 hi2 v u vs us xss yss w1 (hv.below h1 hhi) (by have := h1.size; omega) hx (hu.below h1 hhi2) (by have := h1.size; omega) hy
  obtain ⟨ao, g, cap, rfl, -, -, -⟩ := hv.rows
  obtain ⟨bo, h, cap2, rfl, -, -, -⟩ := hu.rows
  obtain ⟨L, hL⟩ : ∃ L, L = xss.length := ⟨_, rfl⟩
  obtain ⟨M, hM⟩ : ∃ M, M = yss.length := ⟨_, rfl⟩
  rw [← hL] at HC HE ⊢
  rw [← hM] at HD HE ⊢
  obtain ⟨RES, hRES⟩ : ∃ R, R = decide (xss = yss) := ⟨_, rfl⟩
  rw [← hRES] at HE ⊢
  clear hv hu hL hM hRES hx hy
  by_cases hnm : n = m
  · subst hnm
    have hne : ((n : Int) == (n : Int)) = true := by simp
    have HF : Hid ((decide (n = n) && RES) = RES) := by show _ = _; simp
    go_enter Try.func63, Try.ntmps63
    go_wp2_with fail
    obtain ⟨W1, hW1, c0, c1, hsz, hB1, -, -⟩ := box2 w (.int .i64 n) (.slice ao L cap) 30
    rw [hW1]
    clear hW1
    obtain ⟨W2, hW2, d0, d1, hsz2, hB2, -, -⟩ := box2 W1 (.int .i64 n) (.slice bo M cap2) 30
    rw [hW2]
    clear hW2
    obtain ⟨c0, c1, hz0⟩ := boxC hB2 (by omega) c0 c1
    rw [hsz] at d0 d1
    have hB3 : Below w.heap.size w W2 := hB1.trans (hB2.mono (by omega))
    refine (HC.out W2 hB3).mono ?_
    rintro e w3 ⟨rfl, b3⟩
    obtain ⟨c0, c1, hz0⟩ := boxC b3 (by omega) c0 c1
    obtain ⟨d0, d1, hz1⟩ := boxC b3 (by omega) d0 d1
    have hB4 := hB3.trans (b3.mono (by omega))
    clear b3 hB3 hB2 hB1
    go_wp2_with fail
    refine (HD.out w3 hB4).mono ?_
    rintro e w4 ⟨rfl, b4⟩
    obtain ⟨c0, c1, hz0⟩ := boxC b4 hz0 c0 c1
    obtain ⟨d0, d1, hz1⟩ := boxC b4 hz1 d0 d1
    have hB5 := hB4.trans (b4.mono hB4.size)
    clear b4 hB4
    go_wp2_with fail
    refine (HE.out w4 hB5).mono ?_
    rintro e w5 ⟨rfl, b5⟩
    have B5 := Lib.hid (hB5.trans (b5.mono hB5.size))
    clear b5 hB5 c0 c1 d0 d1
    go_wp2
    go_ret
    exact ⟨by rw [HF.out]; rfl, B5.out⟩
  · have hne : ((n : Int) == (m : Int)) = false := by simp; omega
    have HF : Hid ((decide (n = m) && RES) = false) := by show _ = _; simp [hnm]
    go_enter Try.func63, Try.ntmps63
    go_wp2_with fail
    obtain ⟨W1, hW1, c0, c1, hsz, hB1, -, -⟩ := box2 w (.int .i64 n) (.slice ao L cap) 30
    rw [hW1]
    clear hW1
    obtain ⟨W2, hW2, d0, d1, hsz2, hB2, -, -⟩ := box2 W1 (.int .i64 m) (.slice bo M cap2) 30
    rw [hW2]
    clear hW2
    obtain ⟨c0, c1, hz0⟩ := boxC hB2 (by omega) c0 c1
    rw [hsz] at d0 d1
    have hB3 : Below w.heap.size w W2 := hB1.trans (hB2.mono (by omega))
    refine (HC.out W2 hB3).mono ?_
    rintro e w3 ⟨rfl, b3⟩
    obtain ⟨c0, c1, hz0⟩ := boxC b3 (by omega) c0 c1
    obtain ⟨d0, d1, hz1⟩ := boxC b3 (by omega) d0 d1
    have hB4 := hB3.trans (b3.mono (by omega))
    clear b3 hB3 hB2 hB1
    go_wp2_with fail
    refine (HD.out w3 hB4).mono ?_
    rintro e w4 ⟨rfl, b4⟩
    obtain ⟨c0, c1, hz0⟩ := boxC b4 hz0 c0 c1
    obtain ⟨d0, d1, hz1⟩ := boxC b4 hz1 d0 d1
    have B5 := Lib.hid (hB4.trans (b4.mono hB4.size))
    clear b4 hB4
    go_wp2
    go_ret
    exact ⟨by rw [HF.out]; rfl, B5.out⟩
end Go.Proofs.Ytiodolbgapjmkaa

namespace Go.Proofs.Ytiodolbgapjmkaa
open Go.RowKit
set_option maxRecDepth 100000
set_option linter.unusedVariables false
set_option linter.unusedSimpArgs false

theorem sorts_okS {n : Int} {xss : List (List Int)} (h : sortsR n xss = true) : netOk n xss = true := by unfold sortsR at h; rw [Bool.and_eq_true] at h; exact h.1
theorem stdB_of_up {n : Nat} {xss : List (List Int)} (h : pairUp n true xss) : stdB xss = true := by
  unfold stdB
  rw [Bool.not_eq_true', List.any_eq_false]
  intro r hr
  obtain ⟨a, b, rfl, -, -, -, hlt⟩ := h r hr
  have := hlt rfl
  simp [downP]; omega
theorem up_lt {n : Nat} {xss : List (List Int)} (h : pairUp n true xss) : ∀ r ∈ xss, r.getD 0 0 < r.getD 1 0 := by
  intro r hr
  obtain ⟨a, b, rfl, -, -, -, hlt⟩ := h r hr
  have := hlt rfl
  simp; omega
theorem turn_ok {n : Nat} {xss : List (List Int)} (h : netOk n xss = true) : netOk n xss.reverse = true := by
  have := (netOk_n h)
  exact netOk_of_pairUp (up := false) (fun r hr => pairUp_of_netOk h r (List.mem_reverse.1 hr)) (by omega) (by omega) (by rw [List.length_reverse]; exact netOk_len h)
set_option maxHeartbeats 1000000 in
theorem CutWire_one (most : Bool) (wire : Int) (lo hi : Nat) (v : Value) (vs : List Value) (xss : List (List Int)) (w : World) (hv : OwnR w lo hi v vs xss) (hhi : hi ≤ w.heap.size) (hok : netOk ((1 : Nat) : Int) xss = true) (hst : stdB xss = true) :
    Calls Try.prog 73 #[.agg #[.int .i64 ((1 : Nat) : Int), v], .int .i64 wire, .bool most] w (NetC w 0 [] false) := by
  have HS : Hid (∀ w1, Below w.heap.size w w1 → Calls Try.prog 39 #[.agg #[.int .i64 ((1 : Nat) : Int), v]] w1 fun e w' => e = .returned (.bool true) ∧ Below w1.heap.size w1 w') := fun w1 h1 => by
    have := IsStandard_y 1 lo hi v vs xss w1 (hv.below h1 hhi) (by have := h1.size; omega) hok
    rwa [hst] at this
  obtain ⟨ao, g, cap, rfl, -, -, -⟩ := hv.rows
  obtain ⟨L, hL⟩ : ∃ L, L = xss.length := ⟨_, rfl⟩
  rw [← hL] at HS ⊢
  clear hv hok hst hL
  obtain ⟨one, h1⟩ : ∃ n : Nat, n = 1 := ⟨_, rfl⟩
  have e1 : ((one : Int) == 1) = true := by rw [h1]; rfl
  rw [← h1] at HS ⊢
  clear h1
  go_enter Try.func73, Try.ntmps73
  go_wp2_with fail
  obtain ⟨W1, hW1, c0, c1, hsz, hB1, -, -⟩ := box2 w (.int .i64 one) (.slice ao L cap) 30
  have hb9 := blk_new W1 (.cells #[.int .i64 0, .slice none 0 0] 30)
  obtain ⟨W2, hW2⟩ : ∃ W, W = W1.alloc (.cells #[.int .i64 0, .slice none 0 0] 30) := ⟨_, rfl⟩
  have hBa : Below W1.heap.size W1 W2 := by rw [hW2]; exact (Below.refl _ _).alloc (Nat.le_refl _) _
  have hs2 : W2.heap.size = W1.heap.size + 1 := by rw [hW2]; simp
  rw [← hW2] at hb9
  obtain ⟨c0, c1, hz0⟩ := boxC hBa (by omega) c0 c1
  have hB2 : Below w.heap.size w W2 := hB1.trans (hBa.mono (by omega))
  rw [hsz] at hb9
  try rw [hW1, ← hW2]
  have hw2 : w.heap.size + 1 < W2.heap.size := by omega
  clear hW1 hW2 hBa hs2 hsz hB1
  refine (HS.out W2 hB2).mono ?_
  rintro e w2 ⟨rfl, b2⟩
  obtain ⟨c0, c1, hz0⟩ := boxC b2 hz0 c0 c1
  have r2 := blk_below hb9 b2 hw2
  have r0 := blk_cell r2 0
  have r1 := blk_cell r2 1
  have y0 := blk_free r2 0
  have y1 := blk_free r2 1
  have hB3 : Below w.heap.size w w2 := hB2.trans (b2.mono (by omega))
  have HF : Hid (NetC w 0 [] false (.returned (.tuple #[.agg #[.int .i64 0, .slice none 0 0], .bool false])) ((w2.setCell ⟨w.heap.size + 1, 0, none⟩ (.int .i64 0)).setCell ⟨w.heap.size + 1, 1, none⟩ (.slice none 0 0))) :=
    ⟨_, [], rfl, OwnR.nil _ _ _, (hB3.setCell (by show w.heap.size ≤ w.heap.size + 1; omega) _).setCell (by show w.heap.size ≤ w.heap.size + 1; omega) _⟩
  have z0 := blk_cell (box_set1 (y := .slice none 0 0) (box_set0 (y := .int .i64 0) r2)) 0
  have z1 := blk_cell (box_set1 (y := .slice none 0 0) (box_set0 (y := .int .i64 0) r2)) 1
  clear hb9 b2 r2 hB3 hB2
  go_wp2
  exact bodyPost_ret (v := .tuple #[.agg #[.int .i64 0, .slice none 0 0], .bool false]) (by simp [results, Try.results73, go_sem, z0, z1]) rfl HF.out
end Go.Proofs.Ytiodolbgapjmkaa

namespace Go.Proofs.Ytiodolbgapjmkaa
open Go.RowKit
set_option maxRecDepth 100000
set_option linter.unusedVariables false
set_option linter.unusedSimpArgs false

set_option maxHeartbeats 8000000 in
theorem FnStandard_core (w : World) (N : Nat) (cv : Value) (hv : BytesV w w.heap.size cv N) : Calls Try.prog 8 #[cv] w fun e w' => e = .returned (.bool true) ∧ Below w.heap.size w w' := by
  have HV := Lib.hid hv
  obtain ⟨cao, cb, coff, ccap, ecv, -, -, -⟩ := id hv
  subst ecv
  clear hv
  by_cases hN : N ≤ 1048576
  rotate_left
  · have hN' : (1048576 : Int) < (N : Int) := by omega
    go_enter Try.func8, Try.ntmps8
    go_wp2_with fail
    go_ret
    exact ⟨rfl, Below.refl _ _⟩
  have hN' : ¬ (1048576 : Int) < (N : Int) := by omega
  go_enter Try.func8, Try.ntmps8
  have BA : Hid (Below w.heap.size w w) := Below.refl _ _
  have ZA : w.heap.size ≤ w.heap.size := Nat.le_refl _
  go_wp2_with fail
  refine (MakeNetwork_c w.heap.size N 0 _ w (HV.out.kept fun k hk => BA.out.block k hk) ZA hN (by omega)).mono ?_
  rintro e w1 ⟨n, qx, usx, xx, rfl, hdrw, ox, b_w1⟩
  obtain ⟨aox, gx, capx, ex, -, -, -⟩ := ox.rows
  obtain ⟨Lx, hLx⟩ : ∃ L, L = xx.length := ⟨_, rfl⟩
  rw [← hLx] at ex
  subst ex
  have HNx := Lib.hid hLx
  clear hLx
  have z_w1 := b_w1.size
  replace BA : Hid (Below w.heap.size w w1) := BA.out.trans (b_w1.mono (by omega))
  replace ZA : w.heap.size ≤ w1.heap.size := (by omega)
  clear b_w1
  have Ox := Lib.hid ox
  clear ox
  go_wp2_with fail
  obtain ⟨w2, hWw2, cx0, cx1, hzw2, b_w2, -, -⟩ := box2 w1 (.int .i64 n) (.slice aox Lx capx) 30
  rw [hWw2]
  clear hWw2
  have zz_w2 : w1.heap.size < w2.heap.size := (by omega)
  clear hzw2
  have z_w2 := b_w2.size
  replace Ox := Lib.hid (Ox.out.later b_w2)
  replace BA : Hid (Below w.heap.size w w2) := BA.out.trans (b_w2.mono (by omega))
  replace ZA : w.heap.size ≤ w2.heap.size := (by omega)
  clear b_w2
  have yx : w1.heap.size < w2.heap.size := zz_w2
  have HDR := Lib.hid hdrw
  have n1 : 1 ≤ n := HDR.out.1
  have n6 : n ≤ 6 := HDR.out.2.1
  have XOK : Hid (netOk (n : Nat) xx = true) := netOk_of_pairUp HDR.out.2.2.1 n1 (by omega) (by have := HDR.out.2.2.2; omega)
  have HLX : Hid (xx.length ≤ 12) := HDR.out.2.2.2
  have HSF := Lib.hid (stdX_facts (pairsOf_of_ok XOK.out))
  clear hdrw
  go_wp2_with fail
  refine (StandardOf_i n _ _ _ usx xx w2 Ox.out (by omega) XOK.out).mono ?_
  rintro e w3 ⟨qy, qt, usy, rfl, oy, ot, b_w3⟩
  obtain ⟨xy, hxy⟩ : ∃ X, X = (stdX n xx).2 := ⟨_, rfl⟩
  obtain ⟨xt, hxt⟩ : ∃ X, X = (stdX n xx).1 := ⟨_, rfl⟩
  rw [← hxy] at oy
  rw [← hxt] at ot
  have HXy := Lib.hid hxy
  have HXt := Lib.hid hxt
  rw [← hxy, ← hxt] at HSF
  clear hxy hxt
  obtain ⟨aoy, gy, capy, ey, -, -, -⟩ := oy.rows
  obtain ⟨Ly, hLy⟩ : ∃ L, L = xy.length := ⟨_, rfl⟩
  rw [← hLy] at ey
  subst ey
  have HNy := Lib.hid hLy
  obtain ⟨aot, gt, capt, et, -, -, -⟩ := OwnI.view ot
  obtain ⟨Lt, hLt⟩ : ∃ L, L = xt.length := ⟨_, rfl⟩
  rw [← hLt] at et
  subst et
  have HNt := Lib.hid hLt
  clear hLy hLt
  have z_w3 := b_w3.size
  replace Ox := Lib.hid (Ox.out.later b_w3)
  replace cx0 := (b_w3.cell (p := ⟨w1.heap.size, 0, none⟩) (by show w1.heap.size < _; omega)).trans cx0
  replace cx1 := (b_w3.cell (p := ⟨w1.heap.size, 1, none⟩) (by show w1.heap.size < _; omega)).trans cx1
  replace BA : Hid (Below w.heap.size w w3) := BA.out.trans (b_w3.mono (by omega))
  replace ZA : w.heap.size ≤ w3.heap.size := (by omega)
  replace yx : w1.heap.size < w3.heap.size := (by omega)
  clear b_w3
  have Oy := Lib.hid oy
  have Ot := Lib.hid ot
  clear oy ot
  have YOK : Hid (netOk (n : Nat) xy = true) := netOk_of_pairUp HSF.out.2.1 n1 (by omega) (by rw [HSF.out.2.2.1]; have := HLX.out; omega)
  have HLt : Hid (Lt = n) := by show _ = _; rw [HNt.out, HSF.out.1.1]
  go_upto_region 6 with fail
  obtain ⟨w4, hWw4, cy0, cy1, hzw4, b_w4, -, -⟩ := box2 w3 (.int .i64 n) (.slice aoy Ly capy) 30
  rw [hWw4]
  clear hWw4
  have zz_w4 : w3.heap.size < w4.heap.size := (by omega)
  clear hzw4
  have z_w4 := b_w4.size
  replace Ox := Lib.hid (Ox.out.later b_w4)
  replace Oy := Lib.hid (Oy.out.later b_w4)
  replace Ot := Lib.hid (Ot.out.later b_w4)
  replace cx0 := (b_w4.cell (p := ⟨w1.heap.size, 0, none⟩) (by show w1.heap.size < _; omega)).trans cx0
  replace cx1 := (b_w4.cell (p := ⟨w1.heap.size, 1, none⟩) (by show w1.heap.size < _; omega)).trans cx1
  replace BA : Hid (Below w.heap.size w w4) := BA.out.trans (b_w4.mono (by omega))
  replace ZA : w.heap.size ≤ w4.heap.size := (by omega)
  replace yx : w1.heap.size < w4.heap.size := (by omega)
  clear b_w4
  have yy : w3.heap.size < w4.heap.size := zz_w4
  go_wp2_with fail
  refine (MakeList_c w.heap.size N 20 (n) _ w4 (HV.out.kept fun k hk => BA.out.block k hk) ZA hN (by omega) (by omega)).mono ?_
  rintro e w5 ⟨ql, xl, rfl, hll, hxl, ol, b_w5⟩
  obtain ⟨aol, gl, capl, el, -, -, -⟩ := OwnI.view ol
  obtain ⟨Ll, hLl⟩ : ∃ L, L = xl.length := ⟨_, rfl⟩
  rw [← hLl] at el
  subst el
  have HNl := Lib.hid hLl
  clear hLl
  have z_w5 := b_w5.size
  replace Ox := Lib.hid (Ox.out.later b_w5)
  replace Oy := Lib.hid (Oy.out.later b_w5)
  replace Ot := Lib.hid (Ot.out.later b_w5)
  replace cx0 := (b_w5.cell (p := ⟨w1.heap.size, 0, none⟩) (by show w1.heap.size < _; omega)).trans cx0
  replace cx1 := (b_w5.cell (p := ⟨w1.heap.size, 1, none⟩) (by show w1.heap.size < _; omega)).trans cx1
  replace cy0 := (b_w5.cell (p := ⟨w3.heap.size, 0, none⟩) (by show w3.heap.size < _; omega)).trans cy0
  replace cy1 := (b_w5.cell (p := ⟨w3.heap.size, 1, none⟩) (by show w3.heap.size < _; omega)).trans cy1
  replace BA : Hid (Below w.heap.size w w5) := BA.out.trans (b_w5.mono (by omega))
  replace ZA : w.heap.size ≤ w5.heap.size := (by omega)
  replace yx : w1.heap.size < w5.heap.size := (by omega)
  replace yy : w3.heap.size < w5.heap.size := (by omega)
  clear b_w5
  have Ol := Lib.hid ol
  clear ol
  have HLl := Lib.hid hll
  have HXl := Lib.hid hxl
  clear hll hxl
  go_wp2_with fail
  refine (ApplyNetwork_y n _ _ _ _ _ usx xx _ xl w5 Ox.out (by omega) XOK.out (OwnI.ints Ol.out) (by omega) HLl.out).mono ?_
  rintro e w6 ⟨qa, rfl, oa, b_w6⟩
  obtain ⟨xa, hxa⟩ : ∃ X, X = applyP xx xl := ⟨_, rfl⟩
  rw [← hxa] at oa
  have HXa := Lib.hid hxa
  clear hxa
  obtain ⟨aoa, ga, capa, ea, -, -, -⟩ := OwnI.view oa
  obtain ⟨La, hLa⟩ : ∃ L, L = xa.length := ⟨_, rfl⟩
  rw [← hLa] at ea
  subst ea
  have HNa := Lib.hid hLa
  clear hLa
  have z_w6 := b_w6.size
  replace Ox := Lib.hid (Ox.out.later b_w6)
  replace Oy := Lib.hid (Oy.out.later b_w6)
  replace Ot := Lib.hid (Ot.out.later b_w6)
  replace Ol := Lib.hid (Ol.out.later b_w6)
  replace cx0 := (b_w6.cell (p := ⟨w1.heap.size, 0, none⟩) (by show w1.heap.size < _; omega)).trans cx0
  replace cx1 := (b_w6.cell (p := ⟨w1.heap.size, 1, none⟩) (by show w1.heap.size < _; omega)).trans cx1
  replace cy0 := (b_w6.cell (p := ⟨w3.heap.size, 0, none⟩) (by show w3.heap.size < _; omega)).trans cy0
  replace cy1 := (b_w6.cell (p := ⟨w3.heap.size, 1, none⟩) (by show w3.heap.size < _; omega)).trans cy1
  replace BA : Hid (Below w.heap.size w w6) := BA.out.trans (b_w6.mono (by omega))
  replace ZA : w.heap.size ≤ w6.heap.size := (by omega)
  replace yx : w1.heap.size < w6.heap.size := (by omega)
  replace yy : w3.heap.size < w6.heap.size := (by omega)
  clear b_w6
  have Oa := Lib.hid oa
  clear oa
  go_wp2_with fail
  refine (ApplyNetwork_y n _ _ _ _ _ usy xy _ xl w6 Oy.out (by omega) YOK.out (OwnI.ints Ol.out) (by omega) HLl.out).mono ?_
  rintro e w7 ⟨qb, rfl, ob, b_w7⟩
  obtain ⟨xb, hxb⟩ : ∃ X, X = applyP xy xl := ⟨_, rfl⟩
  rw [← hxb] at ob
  have HXb := Lib.hid hxb
  clear hxb
  obtain ⟨aob, gb, capb, eb, -, -, -⟩ := OwnI.view ob
  obtain ⟨Lb, hLb⟩ : ∃ L, L = xb.length := ⟨_, rfl⟩
  rw [← hLb] at eb
  subst eb
  have HNb := Lib.hid hLb
  clear hLb
  have z_w7 := b_w7.size
  replace Ox := Lib.hid (Ox.out.later b_w7)
  replace Oy := Lib.hid (Oy.out.later b_w7)
  replace Ot := Lib.hid (Ot.out.later b_w7)
  replace Ol := Lib.hid (Ol.out.later b_w7)
  replace Oa := Lib.hid (Oa.out.later b_w7)
  replace cx0 := (b_w7.cell (p := ⟨w1.heap.size, 0, none⟩) (by show w1.heap.size < _; omega)).trans cx0
  replace cx1 := (b_w7.cell (p := ⟨w1.heap.size, 1, none⟩) (by show w1.heap.size < _; omega)).trans cx1
  replace cy0 := (b_w7.cell (p := ⟨w3.heap.size, 0, none⟩) (by show w3.heap.size < _; omega)).trans cy0
  replace cy1 := (b_w7.cell (p := ⟨w3.heap.size, 1, none⟩) (by show w3.heap.size < _; omega)).trans cy1
  replace BA : Hid (Below w.heap.size w w7) := BA.out.trans (b_w7.mono (by omega))
  replace ZA : w.heap.size ≤ w7.heap.size := (by omega)
  replace yx : w1.heap.size < w7.heap.size := (by omega)
  replace yy : w3.heap.size < w7.heap.size := (by omega)
  clear b_w7
  have Ob := Lib.hid ob
  clear ob
  have HLa : Hid (La = n) := by show _ = _; rw [HNa.out, HXa.out, applyP_len, HLl.out]
  have HLb : Hid (Lb = n) := by show _ = _; rw [HNb.out, HXb.out, applyP_len, HLl.out]
  have HGB : Hid (gathS xt xb = xa) := by show _ = _; rw [HXb.out, HXa.out]; exact HSF.out.2.2.2 xl HLl.out
  have tt : ((Lt : Int) != (n : Int)) = false := by rw [HLt.out]; simp
  have ta : ((La : Int) != (n : Int)) = false := by rw [HLa.out]; simp
  have tb : ((Lb : Int) != (n : Int)) = false := by rw [HLb.out]; simp
  go_wp2_with fail
  refine (IsStandard_y n _ _ _ usy xy w7 Oy.out (by omega) YOK.out).mono ?_
  rintro e w8 ⟨rfl, b_w8⟩
  rw [show stdB xy = true from stdB_of_up HSF.out.2.1]
  have z_w8 := b_w8.size
  replace Ox := Lib.hid (Ox.out.later b_w8)
  replace Oy := Lib.hid (Oy.out.later b_w8)
  replace Ot := Lib.hid (Ot.out.later b_w8)
  replace Ol := Lib.hid (Ol.out.later b_w8)
  replace Oa := Lib.hid (Oa.out.later b_w8)
  replace Ob := Lib.hid (Ob.out.later b_w8)
  replace cx0 := (b_w8.cell (p := ⟨w1.heap.size, 0, none⟩) (by show w1.heap.size < _; omega)).trans cx0
  replace cx1 := (b_w8.cell (p := ⟨w1.heap.size, 1, none⟩) (by show w1.heap.size < _; omega)).trans cx1
  replace cy0 := (b_w8.cell (p := ⟨w3.heap.size, 0, none⟩) (by show w3.heap.size < _; omega)).trans cy0
  replace cy1 := (b_w8.cell (p := ⟨w3.heap.size, 1, none⟩) (by show w3.heap.size < _; omega)).trans cy1
  replace BA : Hid (Below w.heap.size w w8) := BA.out.trans (b_w8.mono (by omega))
  replace ZA : w.heap.size ≤ w8.heap.size := (by omega)
  replace yx : w1.heap.size < w8.heap.size := (by omega)
  replace yy : w3.heap.size < w8.heap.size := (by omega)
  clear b_w8
  go_wp2_with fail
  clear tt ta tb
  clear Ol
  go_loopw [96] (fun i wr => ∃ j : Nat, j ≤ Lt ∧ i = .int .i64 j ∧ Below w8.heap.size w8 wr) (fun i _ => Lt - (intOf i).toNat)
  case atStart => exact ⟨0, Nat.zero_le _, rfl, Below.refl _ _⟩
  case round =>
    obtain ⟨j, hj, rfl, hb⟩ := hrel
    have R0 : Hid (Below w8.heap.size w8 w8) := Below.refl _ _
    have z_wr := hb.size
    replace Ox := Lib.hid (Ox.out.later hb)
    replace Oy := Lib.hid (Oy.out.later hb)
    replace Ot := Lib.hid (Ot.out.later hb)
    replace Oa := Lib.hid (Oa.out.later hb)
    replace Ob := Lib.hid (Ob.out.later hb)
    replace cx0 := (hb.cell (p := ⟨w1.heap.size, 0, none⟩) (by show w1.heap.size < _; omega)).trans cx0
    replace cx1 := (hb.cell (p := ⟨w1.heap.size, 1, none⟩) (by show w1.heap.size < _; omega)).trans cx1
    replace cy0 := (hb.cell (p := ⟨w3.heap.size, 0, none⟩) (by show w3.heap.size < _; omega)).trans cy0
    replace cy1 := (hb.cell (p := ⟨w3.heap.size, 1, none⟩) (by show w3.heap.size < _; omega)).trans cy1
    replace BA : Hid (Below w.heap.size w wr) := BA.out.trans (hb.mono (by omega))
    replace ZA : w.heap.size ≤ wr.heap.size := (by omega)
    replace yx : w1.heap.size < wr.heap.size := (by omega)
    replace yy : w3.heap.size < wr.heap.size := (by omega)
    replace R0 : Hid (Below w8.heap.size w8 wr) := R0.out.trans (hb.mono (by omega))
    clear hb
    by_cases hlt : j < Lt
    · have hlt1 : (j : Int) < (Lt : Int) := by omega
      have hjn : j < n := by have := HLt.out; omega
      obtain ⟨c, hc⟩ : ∃ c : Nat, xt.getD j 0 = (c : Int) := ⟨(xt.getD j 0).toNat, by have := HSF.out.1.2.1 j hjn; omega⟩
      have hcn : c < n := by have := HSF.out.1.2.1 j hjn; omega
      obtain ⟨y, hy⟩ : ∃ y, y = xb.getD c 0 := ⟨_, rfl⟩
      have hya : xa.getD j 0 = y := by rw [← HGB.out, gathS_getD _ _ _ (by rw [HSF.out.1.1]; exact hjn), hc, Int.toNat_natCast, hy]
      obtain ⟨ao3, g3, cap3, e3, -, ha3, hc3⟩ := OwnI.view Ot.out
      rw [← HNt.out] at e3 ha3 hc3
      cases e3
      obtain ⟨e4, r3, r4⟩ := ha3 (by omega)
      subst e4
      obtain ⟨ao5, g5, cap5, e5, -, ha5, hc5⟩ := OwnI.view Ob.out
      rw [← HNb.out] at e5 ha5 hc5
      cases e5
      have hLb2 := HLb.out
      obtain ⟨e6, r5, r6⟩ := ha5 (by omega)
      subst e6
      obtain ⟨ao7, g7, cap7, e7, -, ha7, hc7⟩ := OwnI.view Oa.out
      rw [← HNa.out] at e7 ha7 hc7
      cases e7
      have hLa2 := HLa.out
      obtain ⟨e8, r7, r8⟩ := ha7 (by omega)
      subst e8
      have c1 := (hc3 j hlt).1
      rw [hc] at c1
      have c2 := (hc5 c (by omega)).1
      rw [← hy] at c2
      have c3 := (hc7 j (by omega)).1
      rw [hya] at c3
      have hci : (c : Int) < (n : Int) := by omega
      have hc0 : decide ((c : Int) < 0) = false := by rw [decide_eq_false_iff_not]; omega
      have hcn2 : decide ((n : Int) ≤ (c : Int)) = false := by rw [decide_eq_false_iff_not]; omega
      have hcb : (c : Int) < (Lb : Int) := by omega
      have hja : (j : Int) < (La : Int) := by omega
      have yy : (y != y) = false := by simp
      have hg3 : g3 < wr.heap.size := by omega
      have hg5 : g5 < wr.heap.size := by omega
      have hg7 : g7 < wr.heap.size := by omega
      have hcn3 : decide (n ≤ c) = false := decide_eq_false (by omega)
      clear hc3 hc5 hc7 ha3 ha5 ha7 hc hy hya hLb2 hLa2
      go_wp2_with fail
      refine wp_region_later wr.heap.size wr (by kernel_rfl) (by kernel_rfl) (Below.refl _ _) ?_
      have hLW := LW.cells (B := wr.heap.size) (w0 := wr)
      repeat (go_big_quiet_step (fail))
      refine wpQuiet_nil ?_
      rintro w9 ⟨⟨w2s, b_w9⟩, rfl⟩
      clear hLW
      have z_w9 := b_w9.size
      replace Ox := Lib.hid (Ox.out.later b_w9)
      replace Oy := Lib.hid (Oy.out.later b_w9)
      replace Ot := Lib.hid (Ot.out.later b_w9)
      replace Oa := Lib.hid (Oa.out.later b_w9)
      replace Ob := Lib.hid (Ob.out.later b_w9)
      replace cx0 := (b_w9.cell (p := ⟨w1.heap.size, 0, none⟩) (by show w1.heap.size < _; omega)).trans cx0
      replace cx1 := (b_w9.cell (p := ⟨w1.heap.size, 1, none⟩) (by show w1.heap.size < _; omega)).trans cx1
      replace cy0 := (b_w9.cell (p := ⟨w3.heap.size, 0, none⟩) (by show w3.heap.size < _; omega)).trans cy0
      replace cy1 := (b_w9.cell (p := ⟨w3.heap.size, 1, none⟩) (by show w3.heap.size < _; omega)).trans cy1
      replace BA : Hid (Below w.heap.size w w9) := BA.out.trans (b_w9.mono (by omega))
      replace ZA : w.heap.size ≤ w9.heap.size := (by omega)
      replace yx : w1.heap.size < w9.heap.size := (by omega)
      replace yy : w3.heap.size < w9.heap.size := (by omega)
      replace R0 : Hid (Below w8.heap.size w8 w9) := R0.out.trans (b_w9.mono (by omega))
      clear b_w9
      go_wp2_with fail
      go_roundw
      case rel => exact ⟨j + 1, by omega, by go_num, R0.out⟩
      case measure => simp [intOf]; omega
    · have hlt1 : ¬ (j : Int) < (Lt : Int) := by omega
      obtain ⟨B9, hB9⟩ : ∃ b, b = sortsR (n : Int) xx := ⟨_, rfl⟩
      have HB9 := Lib.hid hB9
      clear hB9
      clear Oa
      clear Ob
      clear Ot
      go_wp2_with fail
      refine (IsSorting_i n _ _ _ usx xx wr Ox.out (by omega)).mono ?_
      rintro e w10 ⟨rfl, b_w10⟩
      rw [show sortsR (n : Int) xx = B9 from HB9.out.symm]
      have z_w10 := b_w10.size
      replace Ox := Lib.hid (Ox.out.later b_w10)
      replace Oy := Lib.hid (Oy.out.later b_w10)
      replace cx0 := (b_w10.cell (p := ⟨w1.heap.size, 0, none⟩) (by show w1.heap.size < _; omega)).trans cx0
      replace cx1 := (b_w10.cell (p := ⟨w1.heap.size, 1, none⟩) (by show w1.heap.size < _; omega)).trans cx1
      replace cy0 := (b_w10.cell (p := ⟨w3.heap.size, 0, none⟩) (by show w3.heap.size < _; omega)).trans cy0
      replace cy1 := (b_w10.cell (p := ⟨w3.heap.size, 1, none⟩) (by show w3.heap.size < _; omega)).trans cy1
      replace BA : Hid (Below w.heap.size w w10) := BA.out.trans (b_w10.mono (by omega))
      replace ZA : w.heap.size ≤ w10.heap.size := (by omega)
      replace yx : w1.heap.size < w10.heap.size := (by omega)
      replace yy : w3.heap.size < w10.heap.size := (by omega)
      replace R0 : Hid (Below w8.heap.size w8 w10) := R0.out.trans (b_w10.mono (by omega))
      clear b_w10
      go_wp2_with fail
      refine (MirrorNetwork_y n _ _ _ usx xx w10 Ox.out (by omega) XOK.out).mono ?_
      rintro e w11 ⟨qm, usm, rfl, om, b_w11⟩
      obtain ⟨xm, hxm⟩ : ∃ X, X = mirP n xx := ⟨_, rfl⟩
      rw [← hxm] at om
      have HXm := Lib.hid hxm
      clear hxm
      obtain ⟨aom, gm, capm, em, -, -, -⟩ := om.rows
      obtain ⟨Lm, hLm⟩ : ∃ L, L = xm.length := ⟨_, rfl⟩
      rw [← hLm] at em
      subst em
      have HNm := Lib.hid hLm
      clear hLm
      have z_w11 := b_w11.size
      replace Ox := Lib.hid (Ox.out.later b_w11)
      replace Oy := Lib.hid (Oy.out.later b_w11)
      replace cx0 := (b_w11.cell (p := ⟨w1.heap.size, 0, none⟩) (by show w1.heap.size < _; omega)).trans cx0
      replace cx1 := (b_w11.cell (p := ⟨w1.heap.size, 1, none⟩) (by show w1.heap.size < _; omega)).trans cx1
      replace cy0 := (b_w11.cell (p := ⟨w3.heap.size, 0, none⟩) (by show w3.heap.size < _; omega)).trans cy0
      replace cy1 := (b_w11.cell (p := ⟨w3.heap.size, 1, none⟩) (by show w3.heap.size < _; omega)).trans cy1
      replace BA : Hid (Below w.heap.size w w11) := BA.out.trans (b_w11.mono (by omega))
      replace ZA : w.heap.size ≤ w11.heap.size := (by omega)
      replace yx : w1.heap.size < w11.heap.size := (by omega)
      replace yy : w3.heap.size < w11.heap.size := (by omega)
      replace R0 : Hid (Below w8.heap.size w8 w11) := R0.out.trans (b_w11.mono (by omega))
      clear b_w11
      have Om := Lib.hid om
      clear om
      go_wp2_with fail
      obtain ⟨w12, hWw12, cm0, cm1, hzw12, b_w12, -, -⟩ := box2 w11 (.int .i64 n) (.slice aom Lm capm) 30
      rw [hWw12]
      clear hWw12
      have zz_w12 : w11.heap.size < w12.heap.size := (by omega)
      clear hzw12
      have z_w12 := b_w12.size
      replace Ox := Lib.hid (Ox.out.later b_w12)
      replace Oy := Lib.hid (Oy.out.later b_w12)
      replace Om := Lib.hid (Om.out.later b_w12)
      replace cx0 := (b_w12.cell (p := ⟨w1.heap.size, 0, none⟩) (by show w1.heap.size < _; omega)).trans cx0
      replace cx1 := (b_w12.cell (p := ⟨w1.heap.size, 1, none⟩) (by show w1.heap.size < _; omega)).trans cx1
      replace cy0 := (b_w12.cell (p := ⟨w3.heap.size, 0, none⟩) (by show w3.heap.size < _; omega)).trans cy0
      replace cy1 := (b_w12.cell (p := ⟨w3.heap.size, 1, none⟩) (by show w3.heap.size < _; omega)).trans cy1
      replace BA : Hid (Below w.heap.size w w12) := BA.out.trans (b_w12.mono (by omega))
      replace ZA : w.heap.size ≤ w12.heap.size := (by omega)
      replace yx : w1.heap.size < w12.heap.size := (by omega)
      replace yy : w3.heap.size < w12.heap.size := (by omega)
      replace R0 : Hid (Below w8.heap.size w8 w12) := R0.out.trans (b_w12.mono (by omega))
      clear b_w12
      have ym : w11.heap.size < w12.heap.size := zz_w12
      have MOK : Hid (netOk (n : Nat) xm = true) := by show _ = _; rw [HXm.out]; exact mirP_ok XOK.out
      go_wp2_with fail
      refine (MirrorNetwork_y n _ _ _ usm xm w12 Om.out (by omega) MOK.out).mono ?_
      rintro e w13 ⟨qc, usc, rfl, oc, b_w13⟩
      obtain ⟨xc, hxc⟩ : ∃ X, X = mirP n xm := ⟨_, rfl⟩
      rw [← hxc] at oc
      have HXc := Lib.hid hxc
      clear hxc
      obtain ⟨aoc, gc, capc, ec, -, -, -⟩ := oc.rows
      obtain ⟨Lc, hLc⟩ : ∃ L, L = xc.length := ⟨_, rfl⟩
      rw [← hLc] at ec
      subst ec
      have HNc := Lib.hid hLc
      clear hLc
      have z_w13 := b_w13.size
      replace Ox := Lib.hid (Ox.out.later b_w13)
      replace Oy := Lib.hid (Oy.out.later b_w13)
      replace Om := Lib.hid (Om.out.later b_w13)
      replace cx0 := (b_w13.cell (p := ⟨w1.heap.size, 0, none⟩) (by show w1.heap.size < _; omega)).trans cx0
      replace cx1 := (b_w13.cell (p := ⟨w1.heap.size, 1, none⟩) (by show w1.heap.size < _; omega)).trans cx1
      replace cy0 := (b_w13.cell (p := ⟨w3.heap.size, 0, none⟩) (by show w3.heap.size < _; omega)).trans cy0
      replace cy1 := (b_w13.cell (p := ⟨w3.heap.size, 1, none⟩) (by show w3.heap.size < _; omega)).trans cy1
      replace cm0 := (b_w13.cell (p := ⟨w11.heap.size, 0, none⟩) (by show w11.heap.size < _; omega)).trans cm0
      replace cm1 := (b_w13.cell (p := ⟨w11.heap.size, 1, none⟩) (by show w11.heap.size < _; omega)).trans cm1
      replace BA : Hid (Below w.heap.size w w13) := BA.out.trans (b_w13.mono (by omega))
      replace ZA : w.heap.size ≤ w13.heap.size := (by omega)
      replace yx : w1.heap.size < w13.heap.size := (by omega)
      replace yy : w3.heap.size < w13.heap.size := (by omega)
      replace ym : w11.heap.size < w13.heap.size := (by omega)
      replace R0 : Hid (Below w8.heap.size w8 w13) := R0.out.trans (b_w13.mono (by omega))
      clear b_w13
      have Oc := Lib.hid oc
      clear oc
      go_wp2_with fail
      obtain ⟨w14, hWw14, cc0, cc1, hzw14, b_w14, -, -⟩ := box2 w13 (.int .i64 n) (.slice aoc Lc capc) 30
      rw [hWw14]
      clear hWw14
      have zz_w14 : w13.heap.size < w14.heap.size := (by omega)
      clear hzw14
      have z_w14 := b_w14.size
      replace Ox := Lib.hid (Ox.out.later b_w14)
      replace Oy := Lib.hid (Oy.out.later b_w14)
      replace Om := Lib.hid (Om.out.later b_w14)
      replace Oc := Lib.hid (Oc.out.later b_w14)
      replace cx0 := (b_w14.cell (p := ⟨w1.heap.size, 0, none⟩) (by show w1.heap.size < _; omega)).trans cx0
      replace cx1 := (b_w14.cell (p := ⟨w1.heap.size, 1, none⟩) (by show w1.heap.size < _; omega)).trans cx1
      replace cy0 := (b_w14.cell (p := ⟨w3.heap.size, 0, none⟩) (by show w3.heap.size < _; omega)).trans cy0
      replace cy1 := (b_w14.cell (p := ⟨w3.heap.size, 1, none⟩) (by show w3.heap.size < _; omega)).trans cy1
      replace cm0 := (b_w14.cell (p := ⟨w11.heap.size, 0, none⟩) (by show w11.heap.size < _; omega)).trans cm0
      replace cm1 := (b_w14.cell (p := ⟨w11.heap.size, 1, none⟩) (by show w11.heap.size < _; omega)).trans cm1
      replace BA : Hid (Below w.heap.size w w14) := BA.out.trans (b_w14.mono (by omega))
      replace ZA : w.heap.size ≤ w14.heap.size := (by omega)
      replace yx : w1.heap.size < w14.heap.size := (by omega)
      replace yy : w3.heap.size < w14.heap.size := (by omega)
      replace ym : w11.heap.size < w14.heap.size := (by omega)
      replace R0 : Hid (Below w8.heap.size w8 w14) := R0.out.trans (b_w14.mono (by omega))
      clear b_w14
      have yc : w13.heap.size < w14.heap.size := zz_w14
      have HCX : Hid (xc = xx) := by show _ = _; rw [HXc.out, HXm.out]; exact mirP_twice (pairsOf_of_ok XOK.out)
      have COK : Hid (netOk (n : Nat) xc = true) := by show _ = _; rw [HCX.out]; exact XOK.out
      go_wp2_with fail
      refine (TurnNetwork_y n _ _ _ usx xx w14 Ox.out (by omega) XOK.out).mono ?_
      rintro e w15 ⟨qu, usu, rfl, ou, b_w15⟩
      obtain ⟨xu, hxu⟩ : ∃ X, X = xx.reverse := ⟨_, rfl⟩
      rw [← hxu] at ou
      have HXu := Lib.hid hxu
      clear hxu
      obtain ⟨aou, gu, capu, eu, -, -, -⟩ := ou.rows
      obtain ⟨Lu, hLu⟩ : ∃ L, L = xu.length := ⟨_, rfl⟩
      rw [← hLu] at eu
      subst eu
      have HNu := Lib.hid hLu
      clear hLu
      have z_w15 := b_w15.size
      replace Ox := Lib.hid (Ox.out.later b_w15)
      replace Oy := Lib.hid (Oy.out.later b_w15)
      replace Om := Lib.hid (Om.out.later b_w15)
      replace Oc := Lib.hid (Oc.out.later b_w15)
      replace cx0 := (b_w15.cell (p := ⟨w1.heap.size, 0, none⟩) (by show w1.heap.size < _; omega)).trans cx0
      replace cx1 := (b_w15.cell (p := ⟨w1.heap.size, 1, none⟩) (by show w1.heap.size < _; omega)).trans cx1
      replace cy0 := (b_w15.cell (p := ⟨w3.heap.size, 0, none⟩) (by show w3.heap.size < _; omega)).trans cy0
      replace cy1 := (b_w15.cell (p := ⟨w3.heap.size, 1, none⟩) (by show w3.heap.size < _; omega)).trans cy1
      replace cm0 := (b_w15.cell (p := ⟨w11.heap.size, 0, none⟩) (by show w11.heap.size < _; omega)).trans cm0
      replace cm1 := (b_w15.cell (p := ⟨w11.heap.size, 1, none⟩) (by show w11.heap.size < _; omega)).trans cm1
      replace cc0 := (b_w15.cell (p := ⟨w13.heap.size, 0, none⟩) (by show w13.heap.size < _; omega)).trans cc0
      replace cc1 := (b_w15.cell (p := ⟨w13.heap.size, 1, none⟩) (by show w13.heap.size < _; omega)).trans cc1
      replace BA : Hid (Below w.heap.size w w15) := BA.out.trans (b_w15.mono (by omega))
      replace ZA : w.heap.size ≤ w15.heap.size := (by omega)
      replace yx : w1.heap.size < w15.heap.size := (by omega)
      replace yy : w3.heap.size < w15.heap.size := (by omega)
      replace ym : w11.heap.size < w15.heap.size := (by omega)
      replace yc : w13.heap.size < w15.heap.size := (by omega)
      replace R0 : Hid (Below w8.heap.size w8 w15) := R0.out.trans (b_w15.mono (by omega))
      clear b_w15
      have Ou := Lib.hid ou
      clear ou
      go_wp2_with fail
      obtain ⟨w16, hWw16, cu0, cu1, hzw16, b_w16, -, -⟩ := box2 w15 (.int .i64 n) (.slice aou Lu capu) 30
      rw [hWw16]
      clear hWw16
      have zz_w16 : w15.heap.size < w16.heap.size := (by omega)
      clear hzw16
      have z_w16 := b_w16.size
      replace Ox := Lib.hid (Ox.out.later b_w16)
      replace Oy := Lib.hid (Oy.out.later b_w16)
      replace Om := Lib.hid (Om.out.later b_w16)
      replace Oc := Lib.hid (Oc.out.later b_w16)
      replace Ou := Lib.hid (Ou.out.later b_w16)
      replace cx0 := (b_w16.cell (p := ⟨w1.heap.size, 0, none⟩) (by show w1.heap.size < _; omega)).trans cx0
      replace cx1 := (b_w16.cell (p := ⟨w1.heap.size, 1, none⟩) (by show w1.heap.size < _; omega)).trans cx1
      replace cy0 := (b_w16.cell (p := ⟨w3.heap.size, 0, none⟩) (by show w3.heap.size < _; omega)).trans cy0
      replace cy1 := (b_w16.cell (p := ⟨w3.heap.size, 1, none⟩) (by show w3.heap.size < _; omega)).trans cy1
      replace cm0 := (b_w16.cell (p := ⟨w11.heap.size, 0, none⟩) (by show w11.heap.size < _; omega)).trans cm0
      replace cm1 := (b_w16.cell (p := ⟨w11.heap.size, 1, none⟩) (by show w11.heap.size < _; omega)).trans cm1
      replace cc0 := (b_w16.cell (p := ⟨w13.heap.size, 0, none⟩) (by show w13.heap.size < _; omega)).trans cc0
      replace cc1 := (b_w16.cell (p := ⟨w13.heap.size, 1, none⟩) (by show w13.heap.size < _; omega)).trans cc1
      replace BA : Hid (Below w.heap.size w w16) := BA.out.trans (b_w16.mono (by omega))
      replace ZA : w.heap.size ≤ w16.heap.size := (by omega)
      replace yx : w1.heap.size < w16.heap.size := (by omega)
      replace yy : w3.heap.size < w16.heap.size := (by omega)
      replace ym : w11.heap.size < w16.heap.size := (by omega)
      replace yc : w13.heap.size < w16.heap.size := (by omega)
      replace R0 : Hid (Below w8.heap.size w8 w16) := R0.out.trans (b_w16.mono (by omega))
      clear b_w16
      have yu : w15.heap.size < w16.heap.size := zz_w16
      have UOK : Hid (netOk (n : Nat) xu = true) := by show _ = _; rw [HXu.out]; exact turn_ok XOK.out
      go_wp2_with fail
      refine (TurnNetwork_y n _ _ _ usu xu w16 Ou.out (by omega) UOK.out).mono ?_
      rintro e w17 ⟨qv, usv, rfl, ov, b_w17⟩
      obtain ⟨xv, hxv⟩ : ∃ X, X = xu.reverse := ⟨_, rfl⟩
      rw [← hxv] at ov
      have HXv := Lib.hid hxv
      clear hxv
      obtain ⟨aov, gv, capv, ev, -, -, -⟩ := ov.rows
      obtain ⟨Lv, hLv⟩ : ∃ L, L = xv.length := ⟨_, rfl⟩
      rw [← hLv] at ev
      subst ev
      have HNv := Lib.hid hLv
      clear hLv
      have z_w17 := b_w17.size
      replace Ox := Lib.hid (Ox.out.later b_w17)
      replace Oy := Lib.hid (Oy.out.later b_w17)
      replace Om := Lib.hid (Om.out.later b_w17)
      replace Oc := Lib.hid (Oc.out.later b_w17)
      replace Ou := Lib.hid (Ou.out.later b_w17)
      replace cx0 := (b_w17.cell (p := ⟨w1.heap.size, 0, none⟩) (by show w1.heap.size < _; omega)).trans cx0
      replace cx1 := (b_w17.cell (p := ⟨w1.heap.size, 1, none⟩) (by show w1.heap.size < _; omega)).trans cx1
      replace cy0 := (b_w17.cell (p := ⟨w3.heap.size, 0, none⟩) (by show w3.heap.size < _; omega)).trans cy0
      replace cy1 := (b_w17.cell (p := ⟨w3.heap.size, 1, none⟩) (by show w3.heap.size < _; omega)).trans cy1
      replace cm0 := (b_w17.cell (p := ⟨w11.heap.size, 0, none⟩) (by show w11.heap.size < _; omega)).trans cm0
      replace cm1 := (b_w17.cell (p := ⟨w11.heap.size, 1, none⟩) (by show w11.heap.size < _; omega)).trans cm1
      replace cc0 := (b_w17.cell (p := ⟨w13.heap.size, 0, none⟩) (by show w13.heap.size < _; omega)).trans cc0
      replace cc1 := (b_w17.cell (p := ⟨w13.heap.size, 1, none⟩) (by show w13.heap.size < _; omega)).trans cc1
      replace cu0 := (b_w17.cell (p := ⟨w15.heap.size, 0, none⟩) (by show w15.heap.size < _; omega)).trans cu0
      replace cu1 := (b_w17.cell (p := ⟨w15.heap.size, 1, none⟩) (by show w15.heap.size < _; omega)).trans cu1
      replace BA : Hid (Below w.heap.size w w17) := BA.out.trans (b_w17.mono (by omega))
      replace ZA : w.heap.size ≤ w17.heap.size := (by omega)
      replace yx : w1.heap.size < w17.heap.size := (by omega)
      replace yy : w3.heap.size < w17.heap.size := (by omega)
      replace ym : w11.heap.size < w17.heap.size := (by omega)
      replace yc : w13.heap.size < w17.heap.size := (by omega)
      replace yu : w15.heap.size < w17.heap.size := (by omega)
      replace R0 : Hid (Below w8.heap.size w8 w17) := R0.out.trans (b_w17.mono (by omega))
      clear b_w17
      have Ov := Lib.hid ov
      clear ov
      go_wp2_with fail
      obtain ⟨w18, hWw18, cv0, cv1, hzw18, b_w18, -, -⟩ := box2 w17 (.int .i64 n) (.slice aov Lv capv) 30
      rw [hWw18]
      clear hWw18
      have zz_w18 : w17.heap.size < w18.heap.size := (by omega)
      clear hzw18
      have z_w18 := b_w18.size
      replace Ox := Lib.hid (Ox.out.later b_w18)
      replace Oy := Lib.hid (Oy.out.later b_w18)
      replace Om := Lib.hid (Om.out.later b_w18)
      replace Oc := Lib.hid (Oc.out.later b_w18)
      replace Ou := Lib.hid (Ou.out.later b_w18)
      replace Ov := Lib.hid (Ov.out.later b_w18)
      replace cx0 := (b_w18.cell (p := ⟨w1.heap.size, 0, none⟩) (by show w1.heap.size < _; omega)).trans cx0
      replace cx1 := (b_w18.cell (p := ⟨w1.heap.size, 1, none⟩) (by show w1.heap.size < _; omega)).trans cx1
      replace cy0 := (b_w18.cell (p := ⟨w3.heap.size, 0, none⟩) (by show w3.heap.size < _; omega)).trans cy0
      replace cy1 := (b_w18.cell (p := ⟨w3.heap.size, 1, none⟩) (by show w3.heap.size < _; omega)).trans cy1
      replace cm0 := (b_w18.cell (p := ⟨w11.heap.size, 0, none⟩) (by show w11.heap.size < _; omega)).trans cm0
      replace cm1 := (b_w18.cell (p := ⟨w11.heap.size, 1, none⟩) (by show w11.heap.size < _; omega)).trans cm1
      replace cc0 := (b_w18.cell (p := ⟨w13.heap.size, 0, none⟩) (by show w13.heap.size < _; omega)).trans cc0
      replace cc1 := (b_w18.cell (p := ⟨w13.heap.size, 1, none⟩) (by show w13.heap.size < _; omega)).trans cc1
      replace cu0 := (b_w18.cell (p := ⟨w15.heap.size, 0, none⟩) (by show w15.heap.size < _; omega)).trans cu0
      replace cu1 := (b_w18.cell (p := ⟨w15.heap.size, 1, none⟩) (by show w15.heap.size < _; omega)).trans cu1
      replace BA : Hid (Below w.heap.size w w18) := BA.out.trans (b_w18.mono (by omega))
      replace ZA : w.heap.size ≤ w18.heap.size := (by omega)
      replace yx : w1.heap.size < w18.heap.size := (by omega)
      replace yy : w3.heap.size < w18.heap.size := (by omega)
      replace ym : w11.heap.size < w18.heap.size := (by omega)
      replace yc : w13.heap.size < w18.heap.size := (by omega)
      replace yu : w15.heap.size < w18.heap.size := (by omega)
      replace R0 : Hid (Below w8.heap.size w8 w18) := R0.out.trans (b_w18.mono (by omega))
      clear b_w18
      have yv : w17.heap.size < w18.heap.size := zz_w18
      have HVX : Hid (xv = xx) := by show _ = _; rw [HXv.out, HXu.out, List.reverse_reverse]
      have VOK : Hid (netOk (n : Nat) xv = true) := by show _ = _; rw [HVX.out]; exact XOK.out
      obtain ⟨D9, hD9⟩ : ∃ b, b = stdB xx := ⟨_, rfl⟩
      have CSY : Hid (B9 = true → ∀ w', Below w18.heap.size w18 w' → Calls Try.prog 47 #[.agg #[.int .i64 n, .slice aoy Ly capy]] w' fun e w'' => e = .returned (.bool true) ∧ Below w'.heap.size w' w'') := fun hq w' h1 => by
        have := IsSorting_i n _ _ _ usy xy w' (Oy.out.below h1 (by omega)) (by have := h1.size; omega)
        rwa [show sortsR (n : Int) xy = true from by rw [HXy.out]; exact stdX_sorts XOK.out (by rw [← HXy.out]; exact YOK.out) (by rw [← HB9.out]; exact hq)] at this
      have CSM : Hid (∀ w', Below w18.heap.size w18 w' → Calls Try.prog 47 #[.agg #[.int .i64 n, .slice aom Lm capm]] w' fun e w'' => e = .returned (.bool B9) ∧ Below w'.heap.size w' w'') := fun w' h1 => by
        have := IsSorting_i n _ _ _ usm xm w' (Om.out.below h1 (by omega)) (by have := h1.size; omega)
        rwa [show sortsR (n : Int) xm = B9 from by rw [HXm.out, HB9.out]; exact mirP_sorts XOK.out] at this
      have CNC : Hid (∀ w', Below w18.heap.size w18 w' → Calls Try.prog 63 #[.agg #[.int .i64 n, .slice aoc Lc capc], .agg #[.int .i64 n, .slice aox Lx capx]] w' fun e w'' => e = .returned (.bool true) ∧ Below w'.heap.size w' w'') := fun w' h1 => by
        have := SameNetwork_y n n _ _ _ _ _ _ usc usx xc xx w' (Oc.out.below h1 (by omega)) (by have := h1.size; omega) COK.out (Ox.out.below h1 (by omega)) (by have := h1.size; omega) XOK.out
        rwa [show (decide (n = n) && decide (xc = xx)) = true from by rw [HCX.out]; simp] at this
      have CNV : Hid (∀ w', Below w18.heap.size w18 w' → Calls Try.prog 63 #[.agg #[.int .i64 n, .slice aov Lv capv], .agg #[.int .i64 n, .slice aox Lx capx]] w' fun e w'' => e = .returned (.bool true) ∧ Below w'.heap.size w' w'') := fun w' h1 => by
        have := SameNetwork_y n n _ _ _ _ _ _ usv usx xv xx w' (Ov.out.below h1 (by omega)) (by have := h1.size; omega) VOK.out (Ox.out.below h1 (by omega)) (by have := h1.size; omega) XOK.out
        rwa [show (decide (n = n) && decide (xv = xx)) = true from by rw [HVX.out]; simp] at this
      have CTM : Hid (∀ w', Below w18.heap.size w18 w' → Calls Try.prog 39 #[.agg #[.int .i64 n, .slice aom Lm capm]] w' fun e w'' => e = .returned (.bool D9) ∧ Below w'.heap.size w' w'') := fun w' h1 => by
        have := IsStandard_y n _ _ _ usm xm w' (Om.out.below h1 (by omega)) (by have := h1.size; omega) MOK.out
        rwa [show stdB xm = D9 from by rw [HXm.out, hD9]; exact mirP_std (pairsOf_of_ok XOK.out)] at this
      have CTX : Hid (∀ w', Below w18.heap.size w18 w' → Calls Try.prog 39 #[.agg #[.int .i64 n, .slice aox Lx capx]] w' fun e w'' => e = .returned (.bool D9) ∧ Below w'.heap.size w' w'') := fun w' h1 => by
        have := IsStandard_y n _ _ _ usx xx w' (Ox.out.below h1 (by omega)) (by have := h1.size; omega) XOK.out
        rwa [show stdB xx = D9 from hD9.symm] at this
      have tD : (D9 != D9) = false := by simp
      clear hD9
      go_upto_region 22 with fail
      go_cut [188] (fun s wx => s = .bool false ∧ Below w18.heap.size w18 wx)
      case first =>
        have tB : ((true : Bool) != true) = false := rfl
        have tB2 : ((false : Bool) != false) = false := rfl
        cases B9
        · skip
          refine wp_region_later w18.heap.size w18 (by kernel_rfl) (by kernel_rfl) (Below.refl _ _) ?_
          have hLW := LW.cells (B := w18.heap.size) (w0 := w18)
          repeat (go_big_quiet_step ((first | ((go_at_call 47; (with_reducible refine LW.call (Nat.le_refl _) (CSY.out rfl _ (LW.h _))))) | ((go_at_call 47; (with_reducible refine LW.call (Nat.le_refl _) (CSM.out _ (LW.h _))))) | ((go_at_call 63; (with_reducible refine LW.call (Nat.le_refl _) (CNC.out _ (LW.h _))))) | ((go_at_call 63; (with_reducible refine LW.call (Nat.le_refl _) (CNV.out _ (LW.h _))))) | ((go_at_call 39; (with_reducible refine LW.call (Nat.le_refl _) (CTM.out _ (LW.h _))))) | ((go_at_call 39; (with_reducible refine LW.call (Nat.le_refl _) (CTX.out _ (LW.h _))))) | fail)))
          refine wpQuiet_nil ?_
          rintro w19 ⟨⟨w2s, b_w19⟩, rfl⟩
          clear hLW
          go_wp2_with fail
          go_meet
          case rel => exact ⟨rfl, b_w19⟩
        · skip
          refine wp_region_later w18.heap.size w18 (by kernel_rfl) (by kernel_rfl) (Below.refl _ _) ?_
          have hLW := LW.cells (B := w18.heap.size) (w0 := w18)
          repeat (go_big_quiet_step ((first | ((go_at_call 47; (with_reducible refine LW.call (Nat.le_refl _) (CSY.out rfl _ (LW.h _))))) | ((go_at_call 47; (with_reducible refine LW.call (Nat.le_refl _) (CSM.out _ (LW.h _))))) | ((go_at_call 63; (with_reducible refine LW.call (Nat.le_refl _) (CNC.out _ (LW.h _))))) | ((go_at_call 63; (with_reducible refine LW.call (Nat.le_refl _) (CNV.out _ (LW.h _))))) | ((go_at_call 39; (with_reducible refine LW.call (Nat.le_refl _) (CTM.out _ (LW.h _))))) | ((go_at_call 39; (with_reducible refine LW.call (Nat.le_refl _) (CTX.out _ (LW.h _))))) | fail)))
          refine wpQuiet_nil ?_
          rintro w20 ⟨⟨w2s, b_w20⟩, rfl⟩
          clear hLW
          go_wp2_with fail
          go_meet
          case rel => exact ⟨rfl, b_w20⟩
      case rest =>
        obtain ⟨rfl, hb⟩ := hcut
        have z_wc := hb.size
        replace Ox := Lib.hid (Ox.out.later hb)
        replace Oy := Lib.hid (Oy.out.later hb)
        replace Om := Lib.hid (Om.out.later hb)
        replace Oc := Lib.hid (Oc.out.later hb)
        replace Ou := Lib.hid (Ou.out.later hb)
        replace Ov := Lib.hid (Ov.out.later hb)
        replace cx0 := (hb.cell (p := ⟨w1.heap.size, 0, none⟩) (by show w1.heap.size < _; omega)).trans cx0
        replace cx1 := (hb.cell (p := ⟨w1.heap.size, 1, none⟩) (by show w1.heap.size < _; omega)).trans cx1
        replace cy0 := (hb.cell (p := ⟨w3.heap.size, 0, none⟩) (by show w3.heap.size < _; omega)).trans cy0
        replace cy1 := (hb.cell (p := ⟨w3.heap.size, 1, none⟩) (by show w3.heap.size < _; omega)).trans cy1
        replace cm0 := (hb.cell (p := ⟨w11.heap.size, 0, none⟩) (by show w11.heap.size < _; omega)).trans cm0
        replace cm1 := (hb.cell (p := ⟨w11.heap.size, 1, none⟩) (by show w11.heap.size < _; omega)).trans cm1
        replace cc0 := (hb.cell (p := ⟨w13.heap.size, 0, none⟩) (by show w13.heap.size < _; omega)).trans cc0
        replace cc1 := (hb.cell (p := ⟨w13.heap.size, 1, none⟩) (by show w13.heap.size < _; omega)).trans cc1
        replace cu0 := (hb.cell (p := ⟨w15.heap.size, 0, none⟩) (by show w15.heap.size < _; omega)).trans cu0
        replace cu1 := (hb.cell (p := ⟨w15.heap.size, 1, none⟩) (by show w15.heap.size < _; omega)).trans cu1
        replace cv0 := (hb.cell (p := ⟨w17.heap.size, 0, none⟩) (by show w17.heap.size < _; omega)).trans cv0
        replace cv1 := (hb.cell (p := ⟨w17.heap.size, 1, none⟩) (by show w17.heap.size < _; omega)).trans cv1
        replace BA : Hid (Below w.heap.size w wc) := BA.out.trans (hb.mono (by omega))
        replace ZA : w.heap.size ≤ wc.heap.size := (by omega)
        replace yx : w1.heap.size < wc.heap.size := (by omega)
        replace yy : w3.heap.size < wc.heap.size := (by omega)
        replace ym : w11.heap.size < wc.heap.size := (by omega)
        replace yc : w13.heap.size < wc.heap.size := (by omega)
        replace yu : w15.heap.size < wc.heap.size := (by omega)
        replace yv : w17.heap.size < wc.heap.size := (by omega)
        replace R0 : Hid (Below w8.heap.size w8 wc) := R0.out.trans (hb.mono (by omega))
        clear hb
        obtain ⟨wq, rfl⟩ : ∃ W : World, W = wc := ⟨_, rfl⟩
        clear CSY CSM CNC CNV CTM CTX tD
        clear Ox
        clear Oy
        clear Om
        clear Oc
        clear Ou
        clear Ov
        go_wp2_with fail
        refine (MakePrimitive_c w.heap.size N 30 _ wq (HV.out.kept fun k hk => BA.out.block k hk) ZA hN (by omega)).mono ?_
        rintro e w21 ⟨r, qp, usp, xp, rfl, hdp, op, b_w21⟩
        obtain ⟨aop, gp, capp, ep, -, -, -⟩ := op.rows
        obtain ⟨Lp, hLp⟩ : ∃ L, L = xp.length := ⟨_, rfl⟩
        rw [← hLp] at ep
        subst ep
        have HNp := Lib.hid hLp
        clear hLp
        have z_w21 := b_w21.size
        replace BA : Hid (Below w.heap.size w w21) := BA.out.trans (b_w21.mono (by omega))
        replace ZA : w.heap.size ≤ w21.heap.size := (by omega)
        replace R0 : Hid (Below w8.heap.size w8 w21) := R0.out.trans (b_w21.mono (by omega))
        clear b_w21
        have Op := Lib.hid op
        clear op
        go_upto_region 25 with fail
        obtain ⟨w22, hWw22, cp0, cp1, hzw22, b_w22, -, -⟩ := box2 w21 (.int .i64 r) (.slice aop Lp capp) 30
        rw [hWw22]
        clear hWw22
        have zz_w22 : w21.heap.size < w22.heap.size := (by omega)
        clear hzw22
        have z_w22 := b_w22.size
        replace Op := Lib.hid (Op.out.later b_w22)
        replace BA : Hid (Below w.heap.size w w22) := BA.out.trans (b_w22.mono (by omega))
        replace ZA : w.heap.size ≤ w22.heap.size := (by omega)
        replace R0 : Hid (Below w8.heap.size w8 w22) := R0.out.trans (b_w22.mono (by omega))
        clear b_w22
        have yp : w21.heap.size < w22.heap.size := zz_w22
        have HDP := Lib.hid hdp
        have r2 : 2 ≤ r := HDP.out.1
        have r5 : r ≤ 5 := HDP.out.2.1
        have POK : Hid (netOk (r : Nat) xp = true) := netOk_of_pairUp (primP_up HDP.out.2.2.1) (by omega) (by omega) (by have := HDP.out.2.2.2; omega)
        obtain ⟨P9, hP9⟩ : ∃ b, b = sortsR (r : Int) xp := ⟨_, rfl⟩
        have CPP : Hid (∀ w', Below w22.heap.size w22 w' → Calls Try.prog 64 #[.agg #[.int .i64 r, .slice aop Lp capp]] w' fun e w'' => e = .returned (.bool true) ∧ Below w'.heap.size w' w'') := fun w' h1 => by
          have := IsPrimitive_y r _ _ _ usp xp w' (Op.out.below h1 (by omega)) (by have := h1.size; omega) POK.out
          rwa [primP_b HDP.out.2.2.1] at this
        have CPS : Hid (∀ w', Below w22.heap.size w22 w' → Calls Try.prog 47 #[.agg #[.int .i64 r, .slice aop Lp capp]] w' fun e w'' => e = .returned (.bool P9) ∧ Below w'.heap.size w' w'') := fun w' h1 => by
          have := IsSorting_i r _ _ _ usp xp w' (Op.out.below h1 (by omega)) (by have := h1.size; omega)
          rwa [← hP9] at this
        have CPR : Hid (∀ w', Below w22.heap.size w22 w' → Calls Try.prog 72 #[.agg #[.int .i64 r, .slice aop Lp capp]] w' fun e w'' => e = .returned (.bool P9) ∧ Below w'.heap.size w' w'') := fun w' h1 => by
          have := SortsReverse_y r _ _ _ usp xp w' (Op.out.below h1 (by omega)) (by have := h1.size; omega) POK.out
          rwa [← prim_sorts POK.out (primP_b HDP.out.2.2.1), ← hP9] at this
        have tP : (P9 != P9) = false := by simp
        clear hP9 hdp
        refine wp_region_later w22.heap.size w22 (by kernel_rfl) (by kernel_rfl) (Below.refl _ _) ?_
        have hLW := LW.cells (B := w22.heap.size) (w0 := w22)
        repeat (go_big_quiet_step ((first | ((go_at_call 64; (with_reducible refine LW.call (Nat.le_refl _) (CPP.out _ (LW.h _))))) | ((go_at_call 47; (with_reducible refine LW.call (Nat.le_refl _) (CPS.out _ (LW.h _))))) | ((go_at_call 72; (with_reducible refine LW.call (Nat.le_refl _) (CPR.out _ (LW.h _))))) | fail)))
        refine wpQuiet_nil ?_
        rintro w23 ⟨⟨w2s, b_w23⟩, rfl⟩
        clear hLW
        have z_w23 := b_w23.size
        replace Op := Lib.hid (Op.out.later b_w23)
        replace cp0 := (b_w23.cell (p := ⟨w21.heap.size, 0, none⟩) (by show w21.heap.size < _; omega)).trans cp0
        replace cp1 := (b_w23.cell (p := ⟨w21.heap.size, 1, none⟩) (by show w21.heap.size < _; omega)).trans cp1
        replace BA : Hid (Below w.heap.size w w23) := BA.out.trans (b_w23.mono (by omega))
        replace ZA : w.heap.size ≤ w23.heap.size := (by omega)
        replace yp : w21.heap.size < w23.heap.size := (by omega)
        replace R0 : Hid (Below w8.heap.size w8 w23) := R0.out.trans (b_w23.mono (by omega))
        clear b_w23
        clear CPP CPS CPR tP
        clear Op
        go_wp2_with fail
        refine (MakeSorting_c w.heap.size N 60 6 _ w23 (HV.out.kept fun k hk => BA.out.block k hk) ZA hN (by omega) (by omega) (by omega)).mono ?_
        rintro e w24 ⟨k, qz, usz, xz, rfl, ⟨k1, k6, hss, hxl, hx4⟩, oz, b_w24⟩
        obtain ⟨aoz, gz, capz, ez, -, -, -⟩ := oz.rows
        obtain ⟨Lz, hLz⟩ : ∃ L, L = xz.length := ⟨_, rfl⟩
        rw [← hLz] at ez
        subst ez
        have HNz := Lib.hid hLz
        clear hLz
        have z_w24 := b_w24.size
        replace BA : Hid (Below w.heap.size w w24) := BA.out.trans (b_w24.mono (by omega))
        replace ZA : w.heap.size ≤ w24.heap.size := (by omega)
        replace R0 : Hid (Below w8.heap.size w8 w24) := R0.out.trans (b_w24.mono (by omega))
        clear b_w24
        have Oz := Lib.hid oz
        clear oz
        go_upto_region 28 with fail
        obtain ⟨w25, hWw25, cz0, cz1, hzw25, b_w25, -, -⟩ := box2 w24 (.int .i64 k) (.slice aoz Lz capz) 30
        rw [hWw25]
        clear hWw25
        have zz_w25 : w24.heap.size < w25.heap.size := (by omega)
        clear hzw25
        have z_w25 := b_w25.size
        replace Oz := Lib.hid (Oz.out.later b_w25)
        replace BA : Hid (Below w.heap.size w w25) := BA.out.trans (b_w25.mono (by omega))
        replace ZA : w.heap.size ≤ w25.heap.size := (by omega)
        replace R0 : Hid (Below w8.heap.size w8 w25) := R0.out.trans (b_w25.mono (by omega))
        clear b_w25
        have yz : w24.heap.size < w25.heap.size := zz_w25
        have hs := sortS_sorts hss k1 (by omega) (by omega)
        have HS := Lib.hid hs
        have ZOK := Lib.hid (sorts_okS hs)
        have ZST : Hid (stdB xz = true) := stdB_of_up hss.1
        have ZUP := Lib.hid (up_lt hss.1)
        clear hss hxl hx4 hs
        by_cases hk1 : k = 1
        · subst hk1
          go_wp2_with fail
          refine (CutWire_one true 0 _ _ _ usz xz w25 Oz.out (by omega) ZOK.out ZST.out).mono ?_
          rintro e w26 ⟨qh, ush, rfl, oh, b_w26⟩
          obtain ⟨aoh, gh, caph, eh, -, -, -⟩ := oh.rows
          subst eh
          clear oh
          have z_w26 := b_w26.size
          replace Oz := Lib.hid (Oz.out.later b_w26)
          replace cz0 := (b_w26.cell (p := ⟨w24.heap.size, 0, none⟩) (by show w24.heap.size < _; omega)).trans cz0
          replace cz1 := (b_w26.cell (p := ⟨w24.heap.size, 1, none⟩) (by show w24.heap.size < _; omega)).trans cz1
          replace BA : Hid (Below w.heap.size w w26) := BA.out.trans (b_w26.mono (by omega))
          replace ZA : w.heap.size ≤ w26.heap.size := (by omega)
          replace yz : w24.heap.size < w26.heap.size := (by omega)
          replace R0 : Hid (Below w8.heap.size w8 w26) := R0.out.trans (b_w26.mono (by omega))
          clear b_w26
          go_wp2
          go_ret
          exact ⟨rfl, by repeat (first | exact BA.out | refine Below.alloc ?_ (by omega) _)⟩
        · have hk2 : 2 ≤ k := by omega
          have hke : ((k : Int) == 1) = false := by simp; omega
          go_wp2_with fail
          clear hk1 hke
          go_loopw [28] (fun i wr => ∃ j : Nat, j ≤ k ∧ i = .int .i64 j ∧ Below w25.heap.size w25 wr) (fun i _ => k - (intOf i).toNat)
          case atStart => exact ⟨0, Nat.zero_le _, rfl, Below.refl _ _⟩
          try clear R0
          case round =>
            obtain ⟨j, hj, rfl, hb⟩ := hrel
            have R1 : Hid (Below w25.heap.size w25 w25) := Below.refl _ _
            have z_wr := hb.size
            replace Oz := Lib.hid (Oz.out.later hb)
            replace cz0 := (hb.cell (p := ⟨w24.heap.size, 0, none⟩) (by show w24.heap.size < _; omega)).trans cz0
            replace cz1 := (hb.cell (p := ⟨w24.heap.size, 1, none⟩) (by show w24.heap.size < _; omega)).trans cz1
            replace BA : Hid (Below w.heap.size w wr) := BA.out.trans (hb.mono (by omega))
            replace ZA : w.heap.size ≤ wr.heap.size := (by omega)
            replace yz : w24.heap.size < wr.heap.size := (by omega)
            replace R1 : Hid (Below w25.heap.size w25 wr) := R1.out.trans (hb.mono (by omega))
            clear hb
            by_cases hlt : j < k
            · have hlt1 : (j : Int) < (k : Int) := by omega
              go_wp2_with fail
              refine (CutWire_y k j true _ _ _ usz xz wr Oz.out (by omega) ZOK.out ZST.out hk2 hlt).mono ?_
              rintro e w27 ⟨nmh, hnmh, qh, ush, rfl, oh, b_w27⟩
              have Fh := Lib.hid (cut_sorts ZOK.out ZUP.out HS.out hk2 hlt hnmh)
              have Gh : Hid ((cutN nmh (cutX true k j xz).2.2).length < Lz) := by show _ < _; rw [cutN_len, HNz.out]; exact cut_less ZOK.out HS.out hk2 hlt
              obtain ⟨xh, hxh⟩ : ∃ X, X = cutN nmh (cutX true k j xz).2.2 := ⟨_, rfl⟩
              rw [← hxh] at oh Fh Gh
              clear hxh hnmh
              obtain ⟨aoh, gh, caph, eh, -, -, -⟩ := oh.rows
              obtain ⟨Lh, hLh⟩ : ∃ L, L = xh.length := ⟨_, rfl⟩
              rw [← hLh] at eh
              subst eh
              have HNh := Lib.hid hLh
              clear hLh
              have z_w27 := b_w27.size
              replace Oz := Lib.hid (Oz.out.later b_w27)
              replace cz0 := (b_w27.cell (p := ⟨w24.heap.size, 0, none⟩) (by show w24.heap.size < _; omega)).trans cz0
              replace cz1 := (b_w27.cell (p := ⟨w24.heap.size, 1, none⟩) (by show w24.heap.size < _; omega)).trans cz1
              replace BA : Hid (Below w.heap.size w w27) := BA.out.trans (b_w27.mono (by omega))
              replace ZA : w.heap.size ≤ w27.heap.size := (by omega)
              replace yz : w24.heap.size < w27.heap.size := (by omega)
              replace R1 : Hid (Below w25.heap.size w25 w27) := R1.out.trans (b_w27.mono (by omega))
              clear b_w27
              have Oh := Lib.hid oh
              clear oh
              obtain ⟨m, hm⟩ : ∃ m, m = k - 1 := ⟨_, rfl⟩
              rw [← hm]
              rw [← hm] at Fh
              have HMM := Lib.hid hm
              clear hm
              go_upto_region 35 with fail
              obtain ⟨w28, hWw28, ch0, ch1, hzw28, b_w28, -, -⟩ := box2 w27 (.int .i64 m) (.slice aoh Lh caph) 30
              rw [hWw28]
              clear hWw28
              have zz_w28 : w27.heap.size < w28.heap.size := (by omega)
              clear hzw28
              have z_w28 := b_w28.size
              replace Oz := Lib.hid (Oz.out.later b_w28)
              replace Oh := Lib.hid (Oh.out.later b_w28)
              replace cz0 := (b_w28.cell (p := ⟨w24.heap.size, 0, none⟩) (by show w24.heap.size < _; omega)).trans cz0
              replace cz1 := (b_w28.cell (p := ⟨w24.heap.size, 1, none⟩) (by show w24.heap.size < _; omega)).trans cz1
              replace BA : Hid (Below w.heap.size w w28) := BA.out.trans (b_w28.mono (by omega))
              replace ZA : w.heap.size ≤ w28.heap.size := (by omega)
              replace yz : w24.heap.size < w28.heap.size := (by omega)
              replace R1 : Hid (Below w25.heap.size w25 w28) := R1.out.trans (b_w28.mono (by omega))
              clear b_w28
              have yh : w27.heap.size < w28.heap.size := zz_w28
              go_wp2_with fail
              refine (CutWire_y k j false _ _ _ usz xz w28 Oz.out (by omega) ZOK.out ZST.out hk2 hlt).mono ?_
              rintro e w29 ⟨nme, hnme, qe, use, rfl, oe, b_w29⟩
              have Fe := Lib.hid (cut_sorts ZOK.out ZUP.out HS.out hk2 hlt hnme)
              have Ge : Hid ((cutN nme (cutX false k j xz).2.2).length < Lz) := by show _ < _; rw [cutN_len, HNz.out]; exact cut_less ZOK.out HS.out hk2 hlt
              obtain ⟨xe, hxe⟩ : ∃ X, X = cutN nme (cutX false k j xz).2.2 := ⟨_, rfl⟩
              rw [← hxe] at oe Fe Ge
              clear hxe hnme
              obtain ⟨aoe, ge, cape, ee, -, -, -⟩ := oe.rows
              obtain ⟨Le, hLe⟩ : ∃ L, L = xe.length := ⟨_, rfl⟩
              rw [← hLe] at ee
              subst ee
              have HNe := Lib.hid hLe
              clear hLe
              have z_w29 := b_w29.size
              replace Oz := Lib.hid (Oz.out.later b_w29)
              replace Oh := Lib.hid (Oh.out.later b_w29)
              replace cz0 := (b_w29.cell (p := ⟨w24.heap.size, 0, none⟩) (by show w24.heap.size < _; omega)).trans cz0
              replace cz1 := (b_w29.cell (p := ⟨w24.heap.size, 1, none⟩) (by show w24.heap.size < _; omega)).trans cz1
              replace ch0 := (b_w29.cell (p := ⟨w27.heap.size, 0, none⟩) (by show w27.heap.size < _; omega)).trans ch0
              replace ch1 := (b_w29.cell (p := ⟨w27.heap.size, 1, none⟩) (by show w27.heap.size < _; omega)).trans ch1
              replace BA : Hid (Below w.heap.size w w29) := BA.out.trans (b_w29.mono (by omega))
              replace ZA : w.heap.size ≤ w29.heap.size := (by omega)
              replace yz : w24.heap.size < w29.heap.size := (by omega)
              replace yh : w27.heap.size < w29.heap.size := (by omega)
              replace R1 : Hid (Below w25.heap.size w25 w29) := R1.out.trans (b_w29.mono (by omega))
              clear b_w29
              have Oe := Lib.hid oe
              clear oe
              rw [← HMM.out]
              rw [← HMM.out] at Fe
              go_upto_region 36 with fail
              obtain ⟨w30, hWw30, ce0, ce1, hzw30, b_w30, -, -⟩ := box2 w29 (.int .i64 m) (.slice aoe Le cape) 30
              rw [hWw30]
              clear hWw30
              have zz_w30 : w29.heap.size < w30.heap.size := (by omega)
              clear hzw30
              have z_w30 := b_w30.size
              replace Oz := Lib.hid (Oz.out.later b_w30)
              replace Oh := Lib.hid (Oh.out.later b_w30)
              replace Oe := Lib.hid (Oe.out.later b_w30)
              replace cz0 := (b_w30.cell (p := ⟨w24.heap.size, 0, none⟩) (by show w24.heap.size < _; omega)).trans cz0
              replace cz1 := (b_w30.cell (p := ⟨w24.heap.size, 1, none⟩) (by show w24.heap.size < _; omega)).trans cz1
              replace ch0 := (b_w30.cell (p := ⟨w27.heap.size, 0, none⟩) (by show w27.heap.size < _; omega)).trans ch0
              replace ch1 := (b_w30.cell (p := ⟨w27.heap.size, 1, none⟩) (by show w27.heap.size < _; omega)).trans ch1
              replace BA : Hid (Below w.heap.size w w30) := BA.out.trans (b_w30.mono (by omega))
              replace ZA : w.heap.size ≤ w30.heap.size := (by omega)
              replace yz : w24.heap.size < w30.heap.size := (by omega)
              replace yh : w27.heap.size < w30.heap.size := (by omega)
              replace R1 : Hid (Below w25.heap.size w25 w30) := R1.out.trans (b_w30.mono (by omega))
              clear b_w30
              have ye : w29.heap.size < w30.heap.size := zz_w30
              have hmi : (k : Int) - 1 = (m : Int) := by have := HMM.out; omega
              have tm : ((m : Int) != (m : Int)) = false := by simp
              have lh : ¬ (Lz : Int) ≤ (Lh : Int) := by have := Gh.out; rw [← HNh.out] at this; omega
              have lh2 : Lh < Lz := by omega
              go_wp2_with fail
              refine (IsSorting_i m _ _ _ ush xh w30 Oh.out (by omega)).mono ?_
              rintro e w31 ⟨rfl, b_w31⟩
              rw [show sortsR (m : Int) xh = true from Fh.out.2]
              have z_w31 := b_w31.size
              replace Oz := Lib.hid (Oz.out.later b_w31)
              replace Oh := Lib.hid (Oh.out.later b_w31)
              replace Oe := Lib.hid (Oe.out.later b_w31)
              replace cz0 := (b_w31.cell (p := ⟨w24.heap.size, 0, none⟩) (by show w24.heap.size < _; omega)).trans cz0
              replace cz1 := (b_w31.cell (p := ⟨w24.heap.size, 1, none⟩) (by show w24.heap.size < _; omega)).trans cz1
              replace ch0 := (b_w31.cell (p := ⟨w27.heap.size, 0, none⟩) (by show w27.heap.size < _; omega)).trans ch0
              replace ch1 := (b_w31.cell (p := ⟨w27.heap.size, 1, none⟩) (by show w27.heap.size < _; omega)).trans ch1
              replace ce0 := (b_w31.cell (p := ⟨w29.heap.size, 0, none⟩) (by show w29.heap.size < _; omega)).trans ce0
              replace ce1 := (b_w31.cell (p := ⟨w29.heap.size, 1, none⟩) (by show w29.heap.size < _; omega)).trans ce1
              replace BA : Hid (Below w.heap.size w w31) := BA.out.trans (b_w31.mono (by omega))
              replace ZA : w.heap.size ≤ w31.heap.size := (by omega)
              replace yz : w24.heap.size < w31.heap.size := (by omega)
              replace yh : w27.heap.size < w31.heap.size := (by omega)
              replace ye : w29.heap.size < w31.heap.size := (by omega)
              replace R1 : Hid (Below w25.heap.size w25 w31) := R1.out.trans (b_w31.mono (by omega))
              clear b_w31
              go_wp2_with fail
              refine (IsSorting_i m _ _ _ use xe w31 Oe.out (by omega)).mono ?_
              rintro e w32 ⟨rfl, b_w32⟩
              rw [show sortsR (m : Int) xe = true from Fe.out.2]
              have z_w32 := b_w32.size
              replace Oz := Lib.hid (Oz.out.later b_w32)
              replace Oh := Lib.hid (Oh.out.later b_w32)
              replace Oe := Lib.hid (Oe.out.later b_w32)
              replace cz0 := (b_w32.cell (p := ⟨w24.heap.size, 0, none⟩) (by show w24.heap.size < _; omega)).trans cz0
              replace cz1 := (b_w32.cell (p := ⟨w24.heap.size, 1, none⟩) (by show w24.heap.size < _; omega)).trans cz1
              replace ch0 := (b_w32.cell (p := ⟨w27.heap.size, 0, none⟩) (by show w27.heap.size < _; omega)).trans ch0
              replace ch1 := (b_w32.cell (p := ⟨w27.heap.size, 1, none⟩) (by show w27.heap.size < _; omega)).trans ch1
              replace ce0 := (b_w32.cell (p := ⟨w29.heap.size, 0, none⟩) (by show w29.heap.size < _; omega)).trans ce0
              replace ce1 := (b_w32.cell (p := ⟨w29.heap.size, 1, none⟩) (by show w29.heap.size < _; omega)).trans ce1
              replace BA : Hid (Below w.heap.size w w32) := BA.out.trans (b_w32.mono (by omega))
              replace ZA : w.heap.size ≤ w32.heap.size := (by omega)
              replace yz : w24.heap.size < w32.heap.size := (by omega)
              replace yh : w27.heap.size < w32.heap.size := (by omega)
              replace ye : w29.heap.size < w32.heap.size := (by omega)
              replace R1 : Hid (Below w25.heap.size w25 w32) := R1.out.trans (b_w32.mono (by omega))
              clear b_w32
              go_wp2_with fail
              go_roundw
              case rel => exact ⟨j + 1, by omega, by go_num, R1.out⟩
              case measure => simp [intOf]; omega
            · have hlt1 : ¬ (j : Int) < (k : Int) := by omega
              go_wp2
              go_ret
              exact ⟨rfl, BA.out⟩
end Go.Proofs.Ytiodolbgapjmkaa
