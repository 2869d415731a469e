/- A pair left out of a network's list of pairs, in place. Conditions: the place is one of the list. -/
import Derived.Test.YtiodolbgapjmkaaDrop
import Derived.Test.YtiodolbgapjmkaaPast
import Derived.Shelf.SlicesE.Kit
import Derived.Lib.OwnBridge
import Derived.Lib.SlicesDelete
import Derived.Lib.SliceRun
import Derived.Deep.RegionLaw
import Derived.Shelf.RegionOpenPlain
import Derived.WalkKit
import Derived.Deep.LoopGhost
import Derived.Sort.WalkB12
namespace Go.Proofs.Ytiodolbgapjmkaa
open Go.RowKit Go.Lib Go.Sort
set_option maxRecDepth 100000
set_option linter.unusedVariables false
set_option linter.unusedSimpArgs false

/-- A slice's value out of its three parts. -/
def encS (x : Option Addr × Nat × Nat) : Value := .slice x.1 x.2.1 x.2.2
theorem oneS : OneCell encS := fun _ => rfl
theorem zeroS (w : World) : (zeroValue 22).run Try.prog w = .ok (encS (none, 0, 0)) w := by kernel_rfl

set_option maxHeartbeats 4000000 in
theorem Delete_raw (blk off cap i j : Nat) (d : Array (Option Addr × Nat × Nat)) (w : World) (hH : Holds encS w blk off d) (hcap : d.size ≤ cap) (hm : cap ≤ 9223372036854775807) (hij : i ≤ j) (hj : j ≤ d.size) :
    Calls Try.prog 177 #[.slice (some ⟨blk, off, none⟩) d.size cap, .int .i64 i, .int .i64 j] w fun e w' => e = .returned (.slice (some ⟨blk, off, none⟩) (d.size - (j - i)) cap) ∧ ∃ q, w' = putRow encS (Sort.ahead w q) blk off (d.toList.take i ++ d.toList.drop j ++ List.replicate (j - i) (none, 0, 0)).toArray := by
  obtain ⟨i0, hi0, -, hz1, -⟩ := info_parts Try.infoS
  obtain ⟨zr, hzr⟩ : ∃ z : Option Addr × Nat × Nat, z = (none, 0, 0) := ⟨_, rfl⟩
  have zeroS : ∀ w, (zeroValue 22).run Try.prog w = .ok (encS zr) w := fun w => by rw [hzr]; exact zeroS w
  rw [← hzr]
  clear hzr
  by_cases heq : i = j
  · subst heq
    have h0 : Calls Try.prog 177 #[.slice (some ⟨blk, off, none⟩) d.size cap, .int .i64 i, .int .i64 i] w fun e w' => e = .returned (.slice (some ⟨blk, off, none⟩) d.size cap) ∧ w' = w := by
      clear hH
      go_enter Try.func177, Try.ntmps177
      go_wp2
      all_goals (go_ret; exact ⟨rfl, rfl⟩)
    refine h0.mono ?_
    rintro e w' ⟨rfl, rfl⟩
    have e : (d.toList.take i ++ d.toList.drop i ++ List.replicate (i - i) zr).toArray = d := by simp
    refine ⟨by rw [Nat.sub_self, Nat.sub_zero], 0, ?_⟩
    rw [e]
    exact (putRow_self encS (Sort.ahead w' 0) blk off d hH).symm
  · have hlt : i < j := by omega
    -- the cells that are moved to the left
    obtain ⟨news, hnews⟩ : ∃ news, news = (d.toList.drop j).map encS := ⟨_, rfl⟩
    have hlen : news.length = d.size - j := by rw [hnews]; simp
    have hget : ∀ t, t < d.size - j → news[t]? = some (encS d[j + t]!) := by
      intro t ht
      rw [hnews, List.getElem?_map, List.getElem?_drop, Array.getElem?_toList, getElem!_pos d (j + t) (by omega), Array.getElem?_eq_getElem (by omega)]
      rfl
    obtain ⟨A, hA, hsrc⟩ : ∃ A : Addr, (if cap = j then some (⟨blk, off, none⟩ : Addr) else some ⟨blk, off + j, none⟩) = some A ∧ Hid (∀ t u, news[t]? = some u → w.drew.cell? (A.add t) = some u) := by
      by_cases h : cap = j
      · refine ⟨⟨blk, off, none⟩, by simp [h], fun t u hu => ?_⟩
        have h0 : news.length = 0 := by rw [hlen]; omega
        rw [List.length_eq_zero_iff.1 h0] at hu
        simp at hu
      · refine ⟨⟨blk, off + j, none⟩, by simp [h], fun t u hu => ?_⟩
        have ht : t < d.size - j := by
          have := (List.getElem?_eq_some_iff.1 hu).1
          rwa [hlen] at this
        rw [hget t ht] at hu
        rw [Addr.add_lit, show off + j + t = off + (j + t) by omega]
        exact (hH (j + t) (by omega)).1.trans hu
    have s1 : Hid (news.length = (d.size - j) * 1) := by rw [Nat.mul_one]; exact hlen
    have s2 : Hid (∀ u ∈ news, u.oneCell' = true) := by
      intro u hu
      rw [hnews] at hu
      obtain ⟨x, _, rfl⟩ := List.mem_map.1 hu
      exact oneS x
    have s3 : Hid (∀ t, t < news.length → (w.drew.cell? ⟨blk, off + i * 1 + t, none⟩).isSome = true ∧ w.drew.frozen? ⟨blk, off + i * 1 + t, none⟩ = false) := by
      intro t ht
      rw [hlen] at ht
      rw [Nat.mul_one, Nat.add_assoc]
      exact ⟨by show (w.cell? _).isSome = true; rw [(hH (i + t) (by omega)).1]; rfl, (hH (i + t) (by omega)).2⟩
    -- the world behind the append, behind a name
    obtain ⟨W1, hW1⟩ : ∃ W1, W1 = w.drew.setCells blk (off + i * 1) news := ⟨_, rfl⟩
    have hW1' : W1 = putRow encS (Sort.ahead w 1) blk off (lay d i (d.toList.drop j)) := by
      rw [hW1, hnews, Nat.mul_one, ← putRow_setCells encS (Sort.ahead w 1) blk off _ d i (by simp; omega), putRow_self encS (Sort.ahead w 1) blk off d (holds_ahead encS w 1 blk off d hH)]
      rfl
    have hH1 : Holds encS W1 blk off (lay d i (d.toList.drop j)) := by rw [hW1']; exact holds_putRow encS _ blk off d _ (holds_ahead encS w 1 blk off d hH) (lay_size _ _ _)
    have hcl : ∀ ty, (Builtin.clear_ #[28] ty #[.slice (some ⟨blk, off + (i + (d.size - j)), none⟩) (d.size - (i + (d.size - j))) (cap - (i + (d.size - j)))]).run Try.prog W1 = .ok (.tuple #[]) (W1.setCells blk (off + (i + (d.size - j))) (List.replicate (d.size - (i + (d.size - j))) (encS zr))) :=
      fun ty => Lib.run_clear_slice W1 _ _ ty _ Try.underlying28 zeroS (oneS.cells zr) (oneS zr) blk (off + (i + (d.size - j))) _ _ (by omega) (fun t ht => by rw [show off + (i + (d.size - j)) + t = off + (i + (d.size - j) + t) by omega, (hH1 _ (by rw [lay_size]; omega)).1]; rfl) (fun t ht => by rw [show off + (i + (d.size - j)) + t = off + (i + (d.size - j) + t) by omega]; exact (hH1 _ (by rw [lay_size]; omega)).2)
    have X : Aside (W1 = putRow encS (Sort.ahead w 1) blk off (lay d i (d.toList.drop j))) := hW1'
    have hW : Hid (W1 = w.drew.setCells blk (off + i * 1) news) := hW1
    have hic : i ≤ cap := by omega
    have hjc : j ≤ cap := by omega
    clear hW1 hW1' hH1 hH hget hnews hlen
    go_enter Try.func177, Try.ntmps177
    go_wp2_with fail
    go_region_law (first | (refine step_append_room rfl (.tmp 22) (.tmp 25) (28) rfl (22) i0 1 Try.underlying28 hi0 hz1 blk off i cap (by simp [Act.eval, Act.put]) A (d.size - j) (cap - j) news (by simp [Act.eval, Act.put]) s1.out hsrc.out s2.out (by omega) s3.out ?_; rw [← hW.out]) | fail)
    go_wp2
    go_ret
    refine ⟨by rw [show d.size - (j - i) = i + (d.size - j) by omega]; rfl, 1, ?_⟩
    rw [← delete_arr d i j zr hij hj, ← putRow_setCells encS _ blk off _ _ (i + (d.size - j)) (by rw [lay_size]; simp; omega), ← X.out, List.map_replicate, show d.size - (i + (d.size - j)) = j - i by omega]

/-- The value's three parts. -/
def decS : Value → Option Addr × Nat × Nat
  | .slice a l c => (a, l, c)
  | _ => (none, 0, 0)
theorem decS_own {e : TypeId} {w : World} {lo hi : Nat} {v : Value} {xs : List Value} (h : Own e w lo hi v xs) : encS (decS v) = v := by
  obtain ⟨ao, g, cap, rfl, -⟩ := h.view
  rfl
theorem decS_all {w : World} {lo hi : Nat} {v : Value} {vs : List Value} {xss : List (List Int)} (h : OwnR w lo hi v vs xss) : (vs.map decS).map encS = vs := by
  rw [List.map_map]
  apply List.ext_getElem?
  intro i
  rw [List.getElem?_map]
  cases hv : vs[i]? with
  | none => rfl
  | some u =>
    have hi := (List.getElem?_eq_some_iff.1 hv).1
    have hx : xss[i]? = some (xss[i]'(by rw [← h.len]; exact hi)) := List.getElem?_eq_getElem _
    show some (encS (decS u)) = some u
    rw [decS_own (h.row i u _ hv hx)]
theorem putRow_block {α : Type} [Inhabited α] (enc : α → Value) (w : World) (q g o : Nat) (d : Array α) (b : Nat) (h : b ≠ g) : (putRow enc (Sort.ahead w q) g o d).heap[b]? = w.heap[b]? := by
  simp [putRow, mapBlock, Sort.ahead, Array.getElem?_modify, Ne.symm h]
theorem pairwise_erase {α : Type} {R : α → α → Prop} {l : List α} (h : l.Pairwise R) (k : Nat) : (l.eraseIdx k).Pairwise R := h.sublist (List.eraseIdx_sublist l k)
theorem map_erase {α β : Type} (f : α → β) (l : List α) (k : Nat) : (l.eraseIdx k).map f = (l.map f).eraseIdx k := by
  rw [List.eraseIdx_eq_take_drop_succ, List.eraseIdx_eq_take_drop_succ, List.map_append, List.map_take, List.map_drop]
theorem erase_get {α : Type} (l : List α) (k i : Nat) : (l.eraseIdx k)[i]? = if i < k then l[i]? else l[i + 1]? := by
  rw [List.getElem?_eraseIdx]

/-- slices.Delete of one place of a list of pairs. -/
theorem Delete_c (k : Nat) (lo hi : Nat) (g L cap : Nat) (vs : List Value) (xss : List (List Int)) (w : World) (hv : OwnR w lo hi (.slice (some ⟨g, 0, none⟩) L cap) vs xss) (hL : L = xss.length) (hk : k < L) :
    Calls Try.prog 177 #[.slice (some ⟨g, 0, none⟩) L cap, .int .i64 k, .int .i64 ((k : Int) + 1)] w fun e w' =>
      e = .returned (.slice (some ⟨g, 0, none⟩) (L - 1) cap) ∧ OwnR w' lo hi (.slice (some ⟨g, 0, none⟩) (L - 1) cap) (vs.eraseIdx k) (xss.eraseIdx k) ∧ Below lo w w' ∧ ∀ b, b ≠ g → w'.heap[b]? = w.heap[b]? := by
  have hvs : vs.length = L := by rw [hv.len, hL]
  have htop := hv.top.row
  rw [hvs] at htop
  obtain ⟨hcap, hmax⟩ : L ≤ cap ∧ cap ≤ maxLen := by
    rcases htop.2 with ⟨e, _⟩ | ⟨g', cap', cur, e, -, -, h1, h2, -⟩
    · simp at e
    · simp only [Value.slice.injEq] at e
      obtain ⟨-, -, rfl⟩ := e
      exact ⟨h1, h2⟩
  have hgl : lo ≤ g := (htop.lt g rfl).1
  have hall := decS_all hv
  obtain ⟨ds, hds⟩ : ∃ ds, ds = vs.map decS := ⟨_, rfl⟩
  rw [← hds] at hall
  have hdl : ds.length = L := by rw [hds, List.length_map, hvs]
  have hH : Holds encS w g 0 ds.toArray := by
    intro j hj
    have hj' : j < ds.length := by simpa using hj
    have h1 := htop.cellAt j (by omega)
    refine ⟨?_, htop.frozenAt (0 + j)⟩
    rw [show 0 + j = j by omega]
    refine (by simpa using h1 : w.cell? ⟨g, j, none⟩ = vs[j]?).trans ?_
    rw [← hall, List.getElem?_map, List.getElem?_eq_getElem hj']
    simp [hj']
  have hraw := Delete_raw g 0 cap k (k + 1) ds.toArray w hH (by simpa [hdl] using hcap) (by unfold maxLen at hmax; omega) (by omega) (by show k + 1 ≤ ds.toArray.size; simp [hdl]; omega)
  rw [show ds.toArray.size = L from by simpa using hdl] at hraw
  refine hraw.mono ?_
  rintro e w' ⟨rfl, q, rfl⟩
  rw [← hall] at htop
  have hrow := ownsRow_putRow (q := q) (k := L - 1) (ys := ds.take k ++ ds.drop (k + 1) ++ List.replicate (k + 1 - k) (none, 0, 0)) htop (by simp [hdl]; omega) (by omega)
  have hE : ((ds.take k ++ ds.drop (k + 1) ++ List.replicate (k + 1 - k) (none, 0, 0)).take (L - 1)).map encS = vs.eraseIdx k := by
    rw [List.take_append_of_le_length (by simp [hdl]; omega), List.take_of_length_le (by simp [hdl]; omega), ← List.eraseIdx_eq_take_drop_succ, map_erase, hall]
  rw [hE] at hrow
  have hel : (vs.eraseIdx k).length = L - 1 := by rw [List.length_eraseIdx, hvs, if_pos (by omega)]
  refine ⟨by rw [show L - (k + 1 - k) = L - 1 by omega], ⟨⟨?_, fun b hb => hv.top.lt b hb⟩, ?_, ?_, pairwise_erase hv.sep k⟩, below_putRow (Below.refl _ _) hgl, fun b hb => putRow_block _ _ _ _ _ _ _ hb⟩
  · rw [hel]
    simpa using hrow
  · rw [hel, List.length_eraseIdx, ← hL, if_pos (by omega)]
  · intro i u xs a b
    rw [erase_get] at a b
    have hbx : ∃ c, w.heap[g]? = some (.cells c 22 (0, 0)) := by
      rcases htop.2 with ⟨e, _⟩ | ⟨g', cap', cur, e, -, hh, -⟩
      · simp at e
      · simp at e
        rw [e.1]
        exact ⟨cur, hh⟩
    obtain ⟨c, hc⟩ := hbx
    have hrowI : OwnI w lo hi u xs := by
      by_cases h : i < k
      · rw [if_pos h] at a b
        exact hv.row i u xs a b
      · rw [if_neg h] at a b
        exact hv.row (i + 1) u xs a b
    have hnb := own_not_box hrowI hc (by decide)
    exact ⟨ownsRow_of_block (Own.row hrowI) fun b hb => putRow_block _ _ _ _ _ _ _ (by rintro rfl; exact hnb hb), Own.lt hrowI⟩
end Go.Proofs.Ytiodolbgapjmkaa
