/- GreedyTests of the program on valid networks with at most 20 comparators. Conditions: the network is valid. -/
import Derived.Test.YtiodolbgapjmkaaGreedyP
import Derived.Test.YtiodolbgapjmkaaInts
namespace Go.Proofs.Ytiodolbgapjmkaa
open Go.RowKit
set_option maxRecDepth 100000
set_option linter.unusedVariables false

/-- A list grew: what lies elsewhere stayed. -/
structure Apt (w w' : World) (v v' : Value) : Prop where
  size : w.heap.size ≤ w'.heap.size
  block : ∀ k, k < w.heap.size → v.ownBlock ≠ some k → w'.heap[k]? = w.heap[k]?
  own : ∀ k, v'.ownBlock = some k → v.ownBlock = some k ∨ w.heap.size ≤ k
def SepR (o v : Value) (vs : List Value) : Prop := sepV o v ∧ ∀ u ∈ vs, sepV o u
theorem OwnR.lt_mem {w : World} {lo hi : Nat} {v : Value} {vs : List Value} {xss : List (List Int)} (h : OwnR w lo hi v vs xss) : ∀ u ∈ vs, ∀ k, u.ownBlock = some k → k < hi := by
  intro u hu k hk
  obtain ⟨i, hi', rfl⟩ := List.getElem_of_mem hu
  have hx : i < xss.length := by rw [← h.len]; exact hi'
  exact (h.row i vs[i] xss[i] (List.getElem?_eq_getElem hi') (List.getElem?_eq_getElem hx)).lt k hk
theorem Apt.sep {w w' : World} {o o' u : Value} (h : Apt w w' o o') (hl : ∀ k, u.ownBlock = some k → k < w.heap.size) (hs : sepV o u) : sepV o' u := by
  intro k hk e
  rcases h.own k hk with h1 | h1
  · exact hs k h1 e
  · have := hl k e; omega
theorem Apt.ownR {w w' : World} {o o' v : Value} {lo : Nat} {vs : List Value} {xss : List (List Int)} (h : Apt w w' o o') (hR : OwnR w lo w.heap.size v vs xss) (hs : SepR o v vs) : OwnR w' lo w'.heap.size v vs xss ∧ SepR o' v vs := by
  have key : ∀ u, (∀ k, u.ownBlock = some k → k < w.heap.size) → sepV o u → ∀ k, u.ownBlock = some k → w'.heap[k]? = w.heap[k]? := fun u hl hs k hk => h.block k (hl k hk) (fun e => hs k e hk)
  have hz := h.size
  refine ⟨⟨⟨ownsRow_of_block hR.top.row (key v hR.top.lt hs.1), fun k hk => by have := hR.top.lt k hk; omega⟩, hR.len, fun i u xs h1 h2 => ?_, hR.sep⟩, h.sep hR.top.lt hs.1, fun u hu => h.sep (hR.lt_mem u hu) (hs.2 u hu)⟩
  have hr := hR.row i u xs h1 h2
  have hu := List.mem_of_getElem? h1
  exact ⟨ownsRow_of_block hr.row (key u hr.lt (hs.2 u hu)), fun k hk => by have := hr.lt k hk; omega⟩

/-- 'out = append(out, n)' beside other lists. -/
theorem wpList_app_int3 {ops : Array Oper} {rest : List Oper} {o : Oper} {a : Act} {Q : Exit → Act → World → Prop} (hgd : o.guard = none) (s x : Operand)
    (ho : o.op = .call { callee := .builtin .append, args := #[s, x], argTypes := #[22, 22] })
    (wr : World) (n : Int) (lo hi : Nat) (v : Value) (xs : List Int) (hR : OwnI wr lo hi v xs) (hlo : lo ≤ wr.heap.size)
    (hlen : xs.length ≤ 100000000) (hs : a.eval s = v) (hx : a.eval x = .slice (some ⟨wr.heap.size, 0, none⟩) 1 1)
    (h : ∀ ao L cap w', Hid (L = xs.length + 1) → OwnI w' lo w'.heap.size (.slice ao L cap) (xs ++ [n]) → Below lo wr w' → lo ≤ w'.heap.size →
      Apt wr w' v (.slice ao L cap) → wpList Try.prog ops Q rest (a.put o.dst (.slice ao L cap)) w') :
    wpList Try.prog ops Q (o :: rest) a (wr.alloc (.cells #[.int .i64 n] 3)) := by
  have hb := blk_new wr (.cells #[.int .i64 n] 3)
  obtain ⟨i0, hi0, hz0, hz1, hz2⟩ := info_parts Try.infoI
  have hl1 := ivs_length xs
  have hR2 := Own.alloc hR (.cells #[.int .i64 n] 3)
  obtain ⟨v', w', hr, hown, hg, hblk⟩ := run_append_own2 (P := Try.prog) (wr.alloc (.cells #[.int .i64 n] 3)) lo 22 o.type 3 i0 (.int .i64 0) 8 Try.underlying22 hi0 hz0 hz1 hz2 rfl v xs.length (ivs xs) (by have := hR2.row; rwa [hl1] at this) ⟨wr.heap.size, 0, none⟩ 1 1 [.int .i64 n] rfl
    (fun j u hj => by
      match j, hj with
      | 0, hj => simp at hj; subst hj; exact blk_cell hb 0) (fun u hu => by simp at hu; subst hu; rfl) (by omega) (by unfold maxLen; omega) (by omega) (by simp; omega)
  refine wpList_plain hgd fun K hK => ?_
  have ho2 : OwnI w' lo w'.heap.size v' (xs ++ [n]) := by
    refine Own.of_row ?_
    rw [ivs_append, List.length_append, hl1]
    exact hown
  obtain ⟨ao, g2, cap2, e, -, -, -⟩ := ho2.view
  rw [List.length_append, List.length_singleton] at e
  subst e
  have hbel : Below lo wr w' := ((Below.refl _ _).alloc hlo _).grown hg (by simp; omega) fun k hk => (hR.row.lt k hk).1
  have hsz := hg.size
  have hfin := hK _ _ (h ao _ cap2 w' rfl ho2 hbel (by have := hbel.size; omega) ⟨hbel.size, fun k hk hne => (hg.block k (by simp; omega) (fun e => hne e.symm)).trans (((Below.refl wr.heap.size wr).alloc (Nat.le_refl _) _).block k hk), fun k hk => by
    rcases hblk with hblk | hblk
    · rw [hblk] at hk
      exact Or.inl hk
    · rw [hblk] at hk
      right
      have := (Option.some.inj hk)
      simp at this
      omega⟩)
  unfold Oper.wp
  simp [execOp, ho, resolve, invoke, builtin, hs, hx, hr, Result.andThen]
  exact hfin
/-- One row's cell appended to a list of lists. -/
theorem wpList_app_cell {ops : Array Oper} {rest : List Oper} {o : Oper} {a : Act} {Q : Exit → Act → World → Prop} (hgd : o.guard = none) (s x : Operand)
    (ho : o.op = .call { callee := .builtin .append, args := #[s, x], argTypes := #[28, 28] })
    (wr : World) (u : Value) (lo hi : Nat) (v : Value) (vs : List Value) (hR : Own 22 wr lo hi v vs) (hlo : lo ≤ wr.heap.size) (h1 : u.oneCell' = true)
    (hlen : vs.length ≤ 100000) (hs : a.eval s = v) (hx : a.eval x = .slice (some ⟨wr.heap.size, 0, none⟩) 1 1)
    (h : ∀ ao L cap w', Hid (L = vs.length + 1) → Own 22 w' lo w'.heap.size (.slice ao L cap) (vs ++ [u]) → Below lo wr w' → lo ≤ w'.heap.size → wpList Try.prog ops Q rest (a.put o.dst (.slice ao L cap)) w') :
    wpList Try.prog ops Q (o :: rest) a (wr.alloc (.cells #[u] 22)) := by
  have hb := blk_new wr (.cells #[u] 22)
  obtain ⟨i0, hi0, hz0, hz1, hz2⟩ := info_parts Try.infoS
  have hR2 := Own.alloc hR (.cells #[u] 22)
  refine wpList_plain hgd fun K hK => ?_
  refine wp_append_own _ s x 28 ho lo 22 i0 (.slice none 0 0) 1 24 Try.underlying28 hi0 hz0 hz1 hz2 rfl (by decide) v vs.length vs hs hR2.row ⟨wr.heap.size, 0, none⟩ 1 1 [u] hx rfl
    (fun j t hj => by
      match j, hj with
      | 0, hj => simp at hj; subst hj; exact blk_cell hb 0) (fun t ht => by simp at ht; subst ht; exact h1) (by unfold maxLen; omega) (by omega) (by simp; omega) ?_
  intro v' w' hown hg hnil
  have ho2 : Own 22 w' lo w'.heap.size v' (vs ++ [u]) := by
    refine Own.of_row ?_
    rw [List.length_append]
    exact hown
  obtain ⟨ao, g2, cap2, e, -, -, -⟩ := ho2.view
  rw [List.length_append, List.length_singleton] at e
  subst e
  have hbel : Below lo wr w' := ((Below.refl _ _).alloc hlo _).grown hg (by simp; omega) fun k hk => (hR.row.lt k hk).1
  exact hK _ _ (h ao _ cap2 w' rfl ho2 hbel (by have := hbel.size; omega))

/-- Row values and rows that are kept, of the first j. -/
def keepZ (q : List Int → Bool) (vs : List Value) (F : List (List Int)) (j : Nat) : List (Value × List Int) := ((vs.zip F).take j).filter fun p => q p.2
theorem keepZ_succ {q : List Int → Bool} {vs : List Value} {F : List (List Int)} {j : Nat} (hl : vs.length = F.length) (hj : j < F.length) :
    keepZ q vs F (j + 1) = keepZ q vs F j ++ (if q (F.getD j []) = true then [(vs.getD j undef, F.getD j [])] else []) := by
  have hz : j < (vs.zip F).length := by rw [List.length_zip]; omega
  have e : (vs.zip F).getD j (undef, []) = (vs.getD j undef, F.getD j []) := by
    simp only [List.getD]
    rw [List.getElem?_eq_getElem hz, List.getElem?_eq_getElem (by omega : j < vs.length), List.getElem?_eq_getElem hj]
    simp
  rw [keepZ, take_snoc_getD (undef, []) hz, List.filter_append, e, keepZ]
  generalize F.getD j [] = r
  generalize vs.getD j undef = u
  cases h : q r <;> simp [h]
theorem keepZ_rows {q : List Int → Bool} {vs : List Value} {F : List (List Int)} (hl : vs.length = F.length) : ∀ j, j ≤ F.length → (keepZ q vs F j).map Prod.snd = (F.take j).filter q
  | 0, _ => by simp [keepZ]
  | j + 1, hj => by
    rw [keepZ_succ hl (by omega), keepJ_succ (by omega), List.map_append, keepZ_rows hl j (by omega)]
    congr 1
    split <;> rfl
theorem keepZ_le {q : List Int → Bool} {vs : List Value} {F : List (List Int)} (hl : vs.length = F.length) (j : Nat) : (keepZ q vs F j).length ≤ F.length := by
  have := List.length_filter_le (fun p : Value × List Int => q p.2) ((vs.zip F).take j)
  rw [List.length_take, List.length_zip] at this
  unfold keepZ
  omega
theorem ownR_keep {w : World} {lo hi : Nat} {v v' : Value} {vs : List Value} {F : List (List Int)} {q : List Int → Bool} (h : OwnR w lo hi v vs F) (hi2 : hi ≤ w.heap.size)
    (ht : Own 22 w lo w.heap.size v' ((keepZ q vs F F.length).map Prod.fst)) : OwnR w lo w.heap.size v' ((keepZ q vs F F.length).map Prod.fst) (F.filter q) := by
  have e := keepZ_rows (q := q) h.len F.length (Nat.le_refl _)
  rw [List.take_of_length_le (Nat.le_refl _)] at e
  rw [← e]
  have hsub : (keepZ q vs F F.length).Sublist (vs.zip F) := (List.filter_sublist).trans (List.take_sublist _ _)
  refine ⟨ht, by simp, fun i u xs h1 h2 => ?_, ?_⟩
  · rw [List.getElem?_map] at h1 h2
    cases hp : (keepZ q vs F F.length)[i]? with
    | none => rw [hp] at h1; cases h1
    | some p =>
      rw [hp] at h1 h2
      cases h1
      cases h2
      have hm := hsub.subset (List.mem_of_getElem? hp)
      obtain ⟨i', hi'⟩ := List.getElem?_of_mem hm
      obtain ⟨q1, q2⟩ := List.getElem?_zip_eq_some.1 hi'
      exact Own.mono (h.row i' p.1 p.2 q1 q2) (Nat.le_refl _) hi2
  · refine List.Pairwise.sublist ?_ h.sep
    have := hsub.map Prod.fst
    rwa [List.map_fst_zip (by have := h.len; omega)] at this
theorem keepZ_mem {q : List Int → Bool} {vs : List Value} {F : List (List Int)} {j : Nat} {u : Value} (h : u ∈ (keepZ q vs F j).map Prod.fst) : u ∈ vs := by
  rw [List.mem_map] at h
  obtain ⟨p, hp, rfl⟩ := h
  have hm := (List.take_sublist _ _).subset (List.mem_filter.1 hp).1
  exact (List.of_mem_zip hm).1
/-- A row of the faults that are left: where its numbers lie. -/
theorem left_row {w : World} {lo hi : Nat} {v : Value} {vs : List Value} {P : Nat → Nat → Bool} {L : Nat} (h : OwnR w lo hi v vs (faultsL P L)) :
    ∃ ao g cap, v = .slice ao (faultsL P L).length cap ∧ (0 < (faultsL P L).length → ao = some ⟨g, 0, none⟩ ∧ g < hi) ∧ ∀ j, j < (faultsL P L).length →
      ∃ gr capr, ∃ i k : Nat, vs.getD j undef = .slice (some ⟨gr, 0, none⟩) 2 capr ∧ w.cell? ⟨g, j, none⟩ = some (.slice (some ⟨gr, 0, none⟩) 2 capr) ∧ gr < hi ∧ w.cell? ⟨gr, 0, none⟩ = some (.int .i64 i) ∧ w.cell? ⟨gr, 1, none⟩ = some (.int .i64 k) ∧
        (faultsL P L).getD j [] = [(i : Int), (k : Int)] ∧ i < L ∧ k < 3 := by
  obtain ⟨ao, g, cap, e, h1, h2, h3⟩ := h.rows
  refine ⟨ao, g, cap, e, fun h0 => ⟨(h2 h0).1, (h2 h0).2.2⟩, fun j hj => ?_⟩
  obtain ⟨i, k, hr, hi', hk, -⟩ := faultsL_at hj
  obtain ⟨q1, q2⟩ := h3 j hj
  obtain ⟨ar, gr, capr, er, c1, c2, c3⟩ := q2.view
  have hl2 : ((faultsL P L).getD j []).length = 2 := by rw [hr]; rfl
  rw [hl2] at er c1 c2 c3
  obtain ⟨a1, a2, a3⟩ := c2 (by omega)
  subst a1
  have z0 := (c3 0 (by omega)).1
  have z1 := (c3 1 (by omega)).1
  rw [hr] at z0 z1
  exact ⟨gr, capr, i, k, er, by rw [q1, er], a3, z0, z1, hr, hi', hk⟩
theorem SepR.fresh {o v : Value} {vs : List Value} (lo : Nat) (ho : ∀ k, o.ownBlock = some k → k < lo) (hv : ∀ k, v.ownBlock = some k → lo ≤ k) (hvs : ∀ u ∈ vs, ∀ k, u.ownBlock = some k → lo ≤ k) : SepR o v vs :=
  ⟨fun k h1 h2 => by have := ho k h1; have := hv k h2; omega, fun u hu k h1 h2 => by have := ho k h1; have := hvs u hu k h2; omega⟩
theorem OwnR.ge_mem {w : World} {lo hi : Nat} {v : Value} {vs : List Value} {xss : List (List Int)} (h : OwnR w lo hi v vs xss) : ∀ u ∈ vs, ∀ k, u.ownBlock = some k → lo ≤ k := by
  intro u hu k hk
  obtain ⟨i, hi', rfl⟩ := List.getElem_of_mem hu
  have hx : i < xss.length := by rw [← h.len]; exact hi'
  exact ((h.row i vs[i] xss[i] (List.getElem?_eq_getElem hi') (List.getElem?_eq_getElem hx)).row.lt k hk).1
def lenOf : Value → Nat | .slice _ n _ => n | _ => 0
theorem greedy1_c (a b : Int) (w : World) : Calls Try.prog 98 #[.int .i64 a, .int .i64 b] w fun e w' => e = .returned (.bool true) ∧ Below w.heap.size w w' := by
  go_enter Try.func98, Try.ntmps98
  go_wp2
  go_ret
  exact ⟨rfl, Below.refl _ _⟩
set_option maxHeartbeats 2000000 in
theorem faults_all_c (B : Nat → Nat → Bool) (n : Int) (lo hi : Nat) (v : Value) (vs : List Value) (xss : List (List Int)) (w : World) (hv : OwnR w lo hi v vs xss) (hhi : hi ≤ w.heap.size) (hl : xss.length ≤ 1000)
    (hclo : ∀ w', Below w.heap.size w w' → ∀ i k : Nat, i < xss.length → k ≤ 2 → Calls Try.prog 98 #[.int .i64 i, .int .i64 k] w' fun e w'' => e = .returned (.bool (B i k)) ∧ Below w'.heap.size w' w'') :
    Calls Try.prog 95 #[.agg #[.int .i64 n, v], .func (.func 98) #[] #[]] w (RowC w (faultsL B xss.length)) := by
  have HCL := Lib.hid hclo
  obtain ⟨ao, g, cap, rfl, -, -, -⟩ := hv.rows
  have HV := Lib.hid hv
  obtain ⟨L, hlen⟩ : ∃ l, l = xss.length := ⟨_, rfl⟩
  rw [← hlen] at HV HCL hl ⊢
  clear hv hlen hclo
  go_enter Try.func95, Try.ntmps95
  obtain ⟨W1, hW1, c0, c1, hsz, hB1, -, -⟩ := box2 w (.int .i64 n) (.slice ao L cap) 30
  go_wp2_with fail
  obtain ⟨w1, hw1, b1⟩ : ∃ W, W = W1 ∧ Below W1.heap.size W1 W := ⟨_, rfl, Below.refl _ _⟩
  try rw [hW1]
  clear hW1
  obtain ⟨d0, d1, z1⟩ := boxC b1 (by omega) c0 c1
  have zz := b1.size
  have HVb := Lib.hid ((HV.out.below hB1 (by omega)).below b1 (by omega))
  have HB1 : Hid (Below w.heap.size w w1) := hB1.trans (b1.mono (by omega))
  rw [← hw1]
  have hs9 : w1.heap.size = w.heap.size + 1 := by rw [hw1]; exact hsz
  rw [← hs9]
  clear hw1 hs9
  have hle1 : hi ≤ w1.heap.size := by omega
  clear c0 c1 HV hB1 b1 hsz zz
  obtain ⟨W0, hW0⟩ : ∃ W, W = w1.alloc (.cells #[] 22) := ⟨_, rfl⟩
  have hi0 : Hid (OwnR W0 w1.heap.size W0.heap.size (.slice (some ⟨w1.heap.size, 0, none⟩) 0 0) [] []) := by show OwnR _ _ _ _ _ _; rw [hW0]; exact (ownR_empty w1).mono (Nat.le_refl _) (by simp)
  have hb0 : Below w1.heap.size w1 W0 := by rw [hW0]; exact (Below.refl _ _).alloc (Nat.le_refl _) _
  try rw [← hW0]
  clear hW0
  have hz0 := hb0.size
  go_loopw [5, 12] (fun v i wr => ∃ k : Nat, k ≤ L ∧ i = .int .i64 k ∧ ∃ vs, OwnR wr w1.heap.size wr.heap.size v vs (faultsL B k) ∧ Below w1.heap.size w1 wr) (fun _ i _ => L - (intOf i).toNat)
  case atStart => exact ⟨0, Nat.zero_le _, rfl, [], by simpa [faultsL] using hi0.out, hb0⟩
  case round =>
    obtain ⟨k, hk, rfl, vk, hR, hb⟩ := hrel
    have HR := Lib.hid hR
    obtain ⟨e0, e1, hzr⟩ := boxC hb z1 d0 d1
    have HBk := Lib.hid hb
    clear hb hR hi0 hb0
    by_cases hlt : k < L
    · obtain ⟨wo, rfl⟩ : ∃ wo : World, wo = wr := ⟨_, rfl⟩
      go_wp2_with fail
      go_loopw [5, 7] (fun v t wr => ∃ j : Nat, j ≤ 3 ∧ t = .int .i64 j ∧ ∃ vs, OwnR wr w1.heap.size wr.heap.size v vs (faultsL B k ++ rowF B k j) ∧ Below w1.heap.size w1 wr) (fun _ t _ => 3 - (intOf t).toNat)
      case atStart => exact ⟨0, by omega, rfl, vk, by simpa [rowF] using HR.out, HBk.out⟩
      case round =>
        obtain ⟨j, hj, rfl, vj, hR, hb⟩ := hrel
        clear e0 e1 hzr HR
        obtain ⟨c0, c1, hzr⟩ := boxC hb z1 d0 d1
        have HR := Lib.hid hR
        have hzz := hb.size
        have hle : hi ≤ wr.heap.size := by omega
        have HVr := Lib.hid (HVb.out.below hb (by omega))
        have HB2 := Lib.hid hb
        have HLN : Hid ((faultsL B k ++ rowF B k j).length ≤ 1000000) := by show _ ≤ _; rw [List.length_append]; have := faultsL_le B k; have := rowF_le B k j; omega
        clear hb hR
        by_cases hj3 : j < 3
        · have hj2 : (j : Int) ≤ 2 := by omega
          have hj2' : (j : Int) < 3 := by omega
          have hj22 : j ≤ 2 := by omega
          cases hq : B k j
          · have HT := Lib.hid (rowF_miss hq)
            have hq2 := HCL.out wr (HB1.out.trans (HB2.out.mono (by have := HB1.out.size; omega))) k j hlt hj22
            rw [hq] at hq2
            have HQ := Lib.hid hq2
            clear hq hq2
            go_wp2_with fail
            refine HQ.out.mono ?_
            rintro e w2 ⟨rfl, b2⟩
            have zw2 := b2.size
            have HR2 := Lib.hid ((HR.out.later b2).mono (Nat.le_refl _) b2.size)
            go_wp2
            go_roundw
            case rel => exact ⟨j + 1, by omega, by go_num, vj, by rw [HT.out]; exact HR2.out, HB2.out.trans (b2.mono (by omega))⟩
            case measure => simp [intOf]; omega
          · have HT := Lib.hid (rowF_hit hq)
            have hq2 := HCL.out wr (HB1.out.trans (HB2.out.mono (by have := HB1.out.size; omega))) k j hlt hj22
            rw [hq] at hq2
            have HQ := Lib.hid hq2
            clear hq hq2
            go_wp2_with fail
            refine HQ.out.mono ?_
            rintro e w2 ⟨rfl, b2⟩
            have zw2 := b2.size
            have zw3 : w1.heap.size ≤ w2.heap.size := by omega
            have HR2 := Lib.hid ((HR.out.later b2).mono (Nat.le_refl _) b2.size)
            go_wp2_with (at_builtin; refine wpList_app_pair rfl (.tmp 23) (.tmp 27) rfl w2 (k : Int) (j : Int) w1.heap.size _ vj (faultsL B k ++ rowF B k j) HR2.out zw3 HLN.out rfl rfl ?_; intro g5 L5 cap5 w5 vs5 hL5 o5 b5 z5; have O5 := Lib.hid o5; clear o5)
            go_roundw
            case rel => exact ⟨j + 1, by omega, by go_num, vs5, by rw [HT.out, ← List.append_assoc]; exact O5.out, HB2.out.trans ((b2.mono (by omega)).trans b5)⟩
            case measure => simp [intOf]; omega
        · have hj2 : ¬ (j : Int) ≤ 2 := by omega
          have hj2' : ¬ (j : Int) < 3 := by omega
          have HE : Hid (j = 3) := by show j = 3; omega
          go_wp2
          go_roundw
          case rel => exact ⟨k + 1, by omega, by go_num, vj, by rw [faultsL_succ, ← HE.out]; exact HR.out, HB2.out⟩
          case measure => simp [intOf]; omega
    · have HE : Hid (k = L) := by show k = L; omega
      go_wp2
      go_ret
      exact ⟨_, vk, rfl, by rw [← HE.out]; exact HR.out.mono (by have := HB1.out.size; omega) (Nat.le_refl _), HB1.out.trans (HBk.out.mono (by have := HB1.out.size; omega))⟩
end Go.Proofs.Ytiodolbgapjmkaa
