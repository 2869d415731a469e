/- Lists of ints that a call builds: one more element, another list behind it, as steps of a walk; and what it means that a call hands back such a list. Conditions: none. -/
import Derived.Test.YtiodolbgapjmkaaGreatDoorLater
import Derived.Lib.AppendZerosOnto
namespace Go.Proofs.YtiodolbgapjmkaaGreatDoor
open Go.RowKit

/-- The call hands back the ints 'xs' in new memory. -/
def IntC (w : World) (xs : List Int) (e : Ending) (w' : World) : Prop :=
  ∃ v, e = .returned v ∧ OwnI w' w.heap.size w'.heap.size v xs ∧ Below w.heap.size w w'

theorem ownI_empty (w : World) : OwnI (w.alloc (.cells #[] 3)) w.heap.size (w.heap.size + 1) (.slice (some ⟨w.heap.size, 0, none⟩) 0 0) [] := by
  refine ⟨⟨rfl, .inr ⟨w.heap.size, 0, #[], rfl, Nat.le_refl _, blk_new w _, Nat.le_refl _, by unfold maxLen; omega, rfl, rfl⟩⟩, fun k hk => ?_⟩
  simp [Value.ownBlock] at hk
  omega

theorem wp_app_ints {o : Oper} {a : Act} {K : Act → World → Prop} {Q : Exit → Act → World → Prop} (s x : Operand)
    (ho : o.op = .call { callee := .builtin .append, args := #[s, x], argTypes := #[27, 27] })
    (W : World) (lo hi l2 h2 : Nat) (v u : Value) (xs ys : List Int) (hR : OwnI W lo hi v xs) (hS : IntsV W l2 h2 u ys) (hlo : lo ≤ W.heap.size)
    (hlen : xs.length + ys.length ≤ 1000000000) (hs : a.eval s = v) (hx : a.eval x = u)
    (h : ∀ ao L cap w', Hid (L = xs.length + ys.length) → OwnI w' lo w'.heap.size (.slice ao L cap) (xs ++ ys) → Below lo W w' → lo ≤ w'.heap.size → K (a.put o.dst (.slice ao L cap)) w') :
    o.wp Tryz.prog a W K Q := by
  obtain ⟨i0, hi0, hz0, hz1, hz2⟩ := info_parts Tryz.infoI
  have hl1 := ivs_length xs
  have hl2 := ivs_length ys
  obtain ⟨bo, b, off, cap, hu, hc1, hc2, hc3⟩ := hS
  have go : ∀ ad : Addr, bo = some ad → (∀ (j : Nat) (t : Value), (ivs ys)[j]? = some t → W.cell? (ad.add j) = some t) → o.wp Tryz.prog a W K Q := by
    intro ad had hcell
    refine wp_append_own W s x 27 ho lo 3 i0 (.int .i64 0) 1 8 Tryz.underlying27 hi0 hz0 hz1 hz2 rfl (by decide) v xs.length (ivs xs) hs (by have := hR.row; rwa [hl1] at this) ad ys.length cap (ivs ys) (by rw [hx, hu, had]) (by rw [hl2]; omega) hcell (ivs_oneCell ys) ?_ ?_ hlo ?_
    · unfold maxLen; omega
    · omega
    · intro v' w' hown hg hnil
      have ho2 : OwnI w' lo w'.heap.size v' (xs ++ ys) := by
        refine Own.of_row ?_
        rw [ivs_append, List.length_append, hl1, hl2]
        exact hown
      obtain ⟨ao, g2, cap2, e, -, -, -⟩ := ho2.view
      rw [List.length_append] at e
      subst e
      refine h ao _ cap2 w' rfl ho2 ((Below.refl _ _).grown hg hlo fun k hk => (hR.row.lt k hk).1) ?_
      have := hg.size; omega
  by_cases hy : ys = []
  · subst hy
    cases bo with
    | none =>
      have hcap : cap = 0 := by
        rcases Nat.eq_zero_or_pos cap with h0 | h0
        · exact h0
        · have := (hc2 h0).1; cases this
      subst hcap
      have hrun := run_append_owned_none (P := Tryz.prog) (w := W) lo 27 o.type 3 i0 1 Tryz.underlying27 hi0 v xs.length (ivs xs) (by have := hR.row; rwa [hl1] at this)
      have hK : K (a.put o.dst v) W := by
        obtain ⟨ao, g, cap, e, -, -, -⟩ := hR.view
        rw [e]
        refine h ao _ cap W (by show _ = _; rfl) ?_ (Below.refl _ _) hlo
        rw [← e, List.append_nil]
        exact Own.of_row hR.row
      have hu' : u = .slice none 0 0 := hu
      rw [hu'] at hx
      unfold Oper.wp
      simp [execOp, ho, resolve, invoke, builtin, hs, hx, hrun, Result.andThen]
      exact hK
    | some ad => exact go ad rfl (fun j t hj => by simp [ivs] at hj)
  · have hp : 0 < ys.length := List.length_pos_iff.2 hy
    obtain ⟨e, -, -⟩ := hc2 (by omega)
    refine go _ e fun j t hj => ?_
    rw [ivs_getElem?] at hj
    obtain ⟨y, hy1, rfl⟩ := Option.map_eq_some_iff.1 hj
    have hjl : j < ys.length := (List.getElem?_eq_some_iff.1 hy1).1
    have := hc3 j hjl
    rw [show (⟨b, off, none⟩ : Addr).add j = ⟨b, off + j, none⟩ from by unfold Addr.add; split <;> simp_all]
    rw [this]
    simp [List.getD, hy1]

theorem wpList_app_ints {ops : Array Oper} {rest : List Oper} {o : Oper} {a : Act} {Q : Exit → Act → World → Prop} (hgd : o.guard = none) (s x : Operand)
    (ho : o.op = .call { callee := .builtin .append, args := #[s, x], argTypes := #[27, 27] })
    (W : World) (lo hi l2 h2 : Nat) (v u : Value) (xs ys : List Int) (hR : OwnI W lo hi v xs) (hS : IntsV W l2 h2 u ys) (hlo : lo ≤ W.heap.size)
    (hlen : xs.length + ys.length ≤ 1000000000) (hs : a.eval s = v) (hx : a.eval x = u)
    (h : ∀ ao L cap w', Hid (L = xs.length + ys.length) → OwnI w' lo w'.heap.size (.slice ao L cap) (xs ++ ys) → Below lo W w' → lo ≤ w'.heap.size → wpList Tryz.prog ops Q rest (a.put o.dst (.slice ao L cap)) w') :
    wpList Tryz.prog ops Q (o :: rest) a W :=
  wpList_plain hgd fun _ hK => wp_app_ints s x ho W lo hi l2 h2 v u xs ys hR hS hlo hlen hs hx fun ao L cap w' h1 h2 h3 h4 => hK _ _ (h ao L cap w' h1 h2 h3 h4)

/-- 'out = append(out, n)'. -/
theorem wp_app_int {o : Oper} {a : Act} {K : Act → World → Prop} {Q : Exit → Act → World → Prop} (s x : Operand)
    (ho : o.op = .call { callee := .builtin .append, args := #[s, x], argTypes := #[27, 27] })
    (wr : World) (n : Int) (lo hi : Nat) (v : Value) (xs : List Int) (hR : OwnI wr lo hi v xs) (hlo : lo ≤ wr.heap.size)
    (hlen : xs.length ≤ 100000000) (hs : a.eval s = v) (hx : a.eval x = .slice (some ⟨wr.heap.size, 0, none⟩) 1 1)
    (h : ∀ ao L cap w', Hid (L = xs.length + 1) → OwnI w' lo w'.heap.size (.slice ao L cap) (xs ++ [n]) → Below lo wr w' → lo ≤ w'.heap.size → K (a.put o.dst (.slice ao L cap)) w') :
    o.wp Tryz.prog a (wr.alloc (.cells #[.int .i64 n] 3)) K Q := by
  have hb := blk_new wr (.cells #[.int .i64 n] 3)
  refine wp_app_ints s x ho _ lo hi wr.heap.size (wr.heap.size + 1) v (.slice (some ⟨wr.heap.size, 0, none⟩) 1 1) xs [n] (Own.alloc hR _) ⟨some ⟨wr.heap.size, 0, none⟩, wr.heap.size, 0, 1, rfl, Nat.le_refl _, fun _ => ⟨rfl, Nat.le_refl _, by omega⟩, fun i hi => ?_⟩ (by simp; omega) (by simp; omega) hs hx fun ao L cap w' h1 h2 h3 h4 => h ao L cap w' h1 h2 (((Below.refl _ _).alloc hlo _).trans h3) h4
  have hi0 : i = 0 := by simp at hi; omega
  subst hi0
  exact blk_cell hb 0

theorem wpList_app_int {ops : Array Oper} {rest : List Oper} {o : Oper} {a : Act} {Q : Exit → Act → World → Prop} (hgd : o.guard = none) (s x : Operand)
    (ho : o.op = .call { callee := .builtin .append, args := #[s, x], argTypes := #[27, 27] })
    (wr : World) (n : Int) (lo hi : Nat) (v : Value) (xs : List Int) (hR : OwnI wr lo hi v xs) (hlo : lo ≤ wr.heap.size)
    (hlen : xs.length ≤ 100000000) (hs : a.eval s = v) (hx : a.eval x = .slice (some ⟨wr.heap.size, 0, none⟩) 1 1)
    (h : ∀ ao L cap w', Hid (L = xs.length + 1) → OwnI w' lo w'.heap.size (.slice ao L cap) (xs ++ [n]) → Below lo wr w' → lo ≤ w'.heap.size → wpList Tryz.prog ops Q rest (a.put o.dst (.slice ao L cap)) w') :
    wpList Tryz.prog ops Q (o :: rest) a (wr.alloc (.cells #[.int .i64 n] 3)) :=
  wpList_plain hgd fun _ hK => wp_app_int s x ho wr n lo hi v xs hR hlo hlen hs hx fun ao L cap w' h1 h2 h3 h4 => hK _ _ (h ao L cap w' h1 h2 h3 h4)

/-- No block of the one is a block of the other. -/
def sepV (u v : Value) : Prop := ∀ k, u.ownBlock = some k → v.ownBlock ≠ some k

/-- An append to an own slice: where its result lies. -/
theorem run_append_own2 {P : Program} (w : World) (base : Nat) (t ty e : TypeId) (i : TypeInfo) (z : Value) (bytes : Nat) (ht : P.underlying t = some (.slice e)) (hi : P.info? e = some i) (hz : i.zero = some z)
    (hsize : i.size = 1) (hby : i.bytes = bytes) (hzs : z.cells.size = 1)
    (v : Value) (n : Nat) (xs : List Value) (hown : w.ownsRow base e 1 v n xs)
    (a : Addr) (m c : Nat) (news : List Value) (hl : news.length = m * 1) (hnews : ∀ (j : Nat) (u : Value), news[j]? = some u → w.cell? (a.add j) = some u) (h1 : ∀ u ∈ news, u.oneCell' = true) (hm : 0 < m)
    (h63 : n + m ≤ maxLen) (hbytes : (n + m) * bytes ≤ 140737488355328) (hbase : base ≤ w.heap.size) :
    ∃ v' w', (Builtin.append_ #[t, t] ty #[v, .slice (some a) m c]).run P w = .ok v' w' ∧ w'.ownsRow base e 1 v' (n + m) (xs ++ news) ∧ w.grownBy w' v.ownBlock ∧
      (v'.ownBlock = v.ownBlock ∨ v'.ownBlock = some w.heap.size) := by
  obtain ⟨v', w', hr, h2, h3, -⟩ := run_append_own (P := P) w base t ty e i z 1 bytes ht hi hz hsize hby hzs (by decide) v n xs hown a m c news hl hnews h1 h63 hbytes hbase
  refine ⟨v', w', hr, h2, h3, ?_⟩
  have hm63 : n + m ≤ 9223372036854775807 := by unfold maxLen at h63; omega
  rcases hown.2 with ⟨rfl, rfl⟩ | ⟨g, cap, cur, rfl, hbg, hg, hnc, hcm, hcs, htake⟩
  · have hr2 := run_append_nil (P := P) w t ty e i z ht hi hz a m c news (by rw [hsize]; exact hl) hnews hm (by omega) (by rw [hby]; simp only [Nat.zero_add] at hbytes; omega)
    rw [hr2] at hr
    simp only [Result.ok.injEq] at hr
    right; rw [← hr.1]; rfl
  · by_cases hroom : n + m ≤ cap
    · have hfit : n * i.size + news.length ≤ cur.size := by rw [hl, hcs, hsize]; omega
      have hr2 := run_append_room (P := P) w t ty e i ht hi g n cap cur hg a m c news (by rw [hsize]; exact hl) hnews h1 hroom hfit
      rw [hr2] at hr
      simp only [Result.ok.injEq] at hr
      left; rw [← hr.1]; rfl
    · have holds : ∀ (j : Nat) (u : Value), xs[j]? = some u → w.cell? ((⟨g, 0, none⟩ : Addr).add j) = some u := hown.cells (g := g) rfl
      have hr2 := run_append_grow (P := P) w t ty e i z ht hi hz ⟨g, 0, none⟩ n cap xs (by rw [hsize]; exact hown.1) holds a m c news (by rw [hsize]; exact hl) hnews (by omega) (by omega) (by rw [hby]; exact growslice_fits (by omega) hbytes)
      rw [hr2] at hr
      simp only [Result.ok.injEq] at hr
      right; rw [← hr.1]; rfl

/-- 'out = append(out, n)' beside other lists that stay as they are. -/
theorem wpList_app_int2 {ops : Array Oper} {rest : List Oper} {o : Oper} {a : Act} {Q : Exit → Act → World → Prop} (hgd : o.guard = none) (s x : Operand)
    (ho : o.op = .call { callee := .builtin .append, args := #[s, x], argTypes := #[27, 27] })
    (wr : World) (n : Int) (lo hi : Nat) (v : Value) (xs : List Int) (hR : OwnI wr lo hi v xs) (hlo : lo ≤ wr.heap.size)
    (hlen : xs.length ≤ 100000000) (hs : a.eval s = v) (hx : a.eval x = .slice (some ⟨wr.heap.size, 0, none⟩) 1 1)
    (h : ∀ ao L cap w', Hid (L = xs.length + 1) → OwnI w' lo w'.heap.size (.slice ao L cap) (xs ++ [n]) → Below lo wr w' → lo ≤ w'.heap.size →
      (∀ (u : Value) (ys : List Int), OwnI wr lo wr.heap.size u ys → sepV v u → OwnI w' lo w'.heap.size u ys ∧ sepV (.slice ao L cap) u) → wpList Tryz.prog ops Q rest (a.put o.dst (.slice ao L cap)) w') :
    wpList Tryz.prog ops Q (o :: rest) a (wr.alloc (.cells #[.int .i64 n] 3)) := by
  have hb := blk_new wr (.cells #[.int .i64 n] 3)
  obtain ⟨i0, hi0, hz0, hz1, hz2⟩ := info_parts Tryz.infoI
  have hl1 := ivs_length xs
  have hR2 := Own.alloc hR (.cells #[.int .i64 n] 3)
  obtain ⟨v', w', hr, hown, hg, hblk⟩ := run_append_own2 (P := Tryz.prog) (wr.alloc (.cells #[.int .i64 n] 3)) lo 27 o.type 3 i0 (.int .i64 0) 8 Tryz.underlying27 hi0 hz0 hz1 hz2 rfl v xs.length (ivs xs) (by have := hR2.row; rwa [hl1] at this) ⟨wr.heap.size, 0, none⟩ 1 1 [.int .i64 n] rfl
    (fun j u hj => by
      match j, hj with
      | 0, hj => simp at hj; subst hj; exact blk_cell hb 0) (fun u hu => by simp at hu; subst hu; rfl) (by omega) (by unfold maxLen; omega) (by omega) (by simp; omega)
  refine wpList_plain hgd fun K hK => ?_
  have ho2 : OwnI w' lo w'.heap.size v' (xs ++ [n]) := by
    refine Own.of_row ?_
    rw [ivs_append, List.length_append, hl1]
    exact hown
  obtain ⟨ao, g2, cap2, e, -, -, -⟩ := ho2.view
  rw [List.length_append, List.length_singleton] at e
  subst e
  have hbel : Below lo wr w' := ((Below.refl _ _).alloc hlo _).grown hg (by simp; omega) fun k hk => (hR.row.lt k hk).1
  have hfin := hK _ _ (h ao _ cap2 w' rfl ho2 hbel (by have := hbel.size; omega) (fun u ys hu hsep => by
    have hu2 := Own.alloc hu (.cells #[.int .i64 n] 3)
    refine ⟨⟨ownsRow_of_block hu2.row fun k hk => hg.block k (hu2.row.lt k hk).2 (fun e => hsep k e.symm hk), fun k hk => by have := hu.lt k hk; have := hbel.size; omega⟩, fun k hk hk2 => ?_⟩
    rcases hblk with hblk | hblk
    · rw [hblk] at hk
      exact hsep k hk hk2
    · rw [hblk] at hk
      have := hu.lt k hk2
      have := (Option.some.inj hk)
      simp at this
      omega))
  unfold Oper.wp
  simp [execOp, ho, resolve, invoke, builtin, hs, hx, hr, Result.andThen]
  exact hfin
end Go.Proofs.YtiodolbgapjmkaaGreatDoor
