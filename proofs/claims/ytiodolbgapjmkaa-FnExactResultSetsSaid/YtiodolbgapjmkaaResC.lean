/- The program's collecting of results: the function that is shown each network. Conditions: at most four wires. -/
import Derived.Test.YtiodolbgapjmkaaSee
import Derived.Test.YtiodolbgapjmkaaKeyP
import Derived.Test.YtiodolbgapjmkaaSetsO
namespace Go.Proofs.Ytiodolbgapjmkaa
open Go.RowKit Go.Sort Go.Maps
set_option maxRecDepth 100000
set_option linter.unusedVariables false
set_option linter.unusedSimpArgs false

theorem ownsMap_block {w w' : World} {b n : Nat} {D : DataW Unit} (h : w.ownsMap Try.prog 3 (plainElem Try.prog 4) b n D) (hb : w'.heap[b]? = w.heap[b]?) : w'.ownsMap Try.prog 3 (plainElem Try.prog 4) b n D := by
  obtain ⟨es, clock, h1, r⟩ := h
  exact ⟨es, clock, hb.trans h1, r⟩
/-- The map's box ca with the map, and the list's box cb with the list. -/
structure ResS (n ca cb : Nat) (w : World) (s : List (List Int)) (X : Nat → Prop) (bm : Nat) (D : DataW Unit) (v : Value) (vs : List Value) : Prop where
  own : ∀ k, X k ↔ k = ca ∨ k = cb ∨ k = bm ∨ v.ownBlock = some k
  ne1 : ca ≠ cb
  ne2 : ca ≠ bm
  ne3 : cb ≠ bm
  out1 : v.ownBlock ≠ some ca
  out2 : v.ownBlock ≠ some cb
  out3 : v.ownBlock ≠ some bm
  some_ : ∃ g, v.ownBlock = some g
  box1 : w.heap[ca]? = some (.cells #[.map (some bm)] 118 (0, 0))
  box2 : w.heap[cb]? = some (.cells #[v] 28 (0, 0))
  map : w.ownsMap Try.prog 3 (plainElem Try.prog 4) bm s.length D
  seen : SeenI n D s
  top : Own 22 w 0 w.heap.size v vs
  len : vs.length = s.length
  rows : ∀ (i : Nat) (u : Value) (xs : List Int), vs[i]? = some u → s[i]? = some xs → ∃ l h, IntsV w l h u xs ∧ h ≤ w.heap.size ∧ ∀ k, l ≤ k → k < h → ¬ X k
  nodup : s.Nodup
  sets : ∀ x ∈ s, ∃ P, x = setI n P
def ResI (n ca cb : Nat) (w : World) (s : List (List Int)) (X : Nat → Prop) : Prop := ∃ bm D v vs, ResS n ca cb w s X bm D v vs
theorem plainElem_bool_inv {v : Value} {z : DataW Unit × List MemPlace} (h : plainElem Try.prog 4 v = some z) : ∃ b, v = .bool b ∧ z = (.lit (.bool b), []) := by
  unfold plainElem at h
  rw [Try.underlying4] at h
  cases v <;> simp at h
  exact ⟨_, rfl, h.symm⟩
theorem res_box {w : World} {X : Nat} {a y : Value} {T : TypeId} (h : w.heap[X]? = some (.cells #[a] T (0, 0))) : (w.setCell ⟨X, 0, none⟩ y).heap[X]? = some (.cells #[y] T (0, 0)) := by
  have hlt := lt_of_block h
  have h' : w.heap[X] = .cells #[a] T (0, 0) := by simpa [Array.getElem?_eq_getElem hlt] using h
  show (w.heap.modify X _)[X]? = _
  rw [Array.getElem?_eq_getElem (by simpa using hlt), Array.getElem_modify_self, h']
  rfl
/-- One set more. -/
theorem res_add {n ca cb : Nat} {w w1 w2 : World} {s : List (List Int)} {X : Nat → Prop} {bm K l2 h2 : Nat} {D : DataW Unit} {v v' u : Value} {vs : List Value} {P : Nat → Bool} (H : ResS n ca cb w s X bm D v vs)
    (hu : IntsV w l2 h2 u (setI n P)) (hh2 : h2 ≤ w.heap.size) (hx2 : ∀ k, l2 ≤ k → k < h2 → ¬ X k) (hin : setI n P ∉ s) (hK : K = keyN (setI n P))
    (hown1 : w1.ownsMap Try.prog 3 (plainElem Try.prog 4) bm (s.length + 1) (D.put (.int .i64 (K : Nat)) (.lit (.bool true)))) (hg1 : w.grownBy w1 (some bm))
    (ho2 : Own 22 w2 0 w2.heap.size v' (vs ++ [u])) (hl : v'.ownBlock = v.ownBlock ∨ v'.ownBlock = some (w1.heap.size + 1)) (hg2 : (w1.alloc (.cells #[u] 22)).grownBy w2 v.ownBlock) :
    ∃ X', ResI n ca cb (w2.setCell ⟨cb, 0, none⟩ v') (s ++ [setI n P]) X' ∧ Kp X X' w (w2.setCell ⟨cb, 0, none⟩ v') := by
  have z1 := hg1.size
  have z2 : w1.heap.size + 1 ≤ w2.heap.size := by have := hg2.size; simpa using this
  have lca := lt_of_block H.box1
  have lcb := lt_of_block H.box2
  have lbm := H.map.lt
  have key : ∀ k, k < w1.heap.size → v.ownBlock ≠ some k → k ≠ cb → (w2.setCell ⟨cb, 0, none⟩ v').heap[k]? = w1.heap[k]? := by
    intro k hk h1 h2
    refine (Below.heap_setCell _ _ _ _ (by show k ≠ cb; exact h2)).trans ((hg2.block k (by simp; omega) (fun e => h1 e.symm)).trans ?_)
    exact (World.grownBy_alloc w1 _ none).block k hk (by simp)
  have key2 : ∀ k, k < w.heap.size → ¬ X k → (w2.setCell ⟨cb, 0, none⟩ v').heap[k]? = w.heap[k]? := by
    intro k hk hx
    have hx' := fun h => hx ((H.own k).2 h)
    exact (key k (by omega) (fun e => hx' (.inr (.inr (.inr e)))) (fun e => hx' (.inr (.inl e)))).trans (hg1.block k hk (fun e => hx' (.inr (.inr (.inl (by injection e))))))
  have hv1 : ∀ k, k < w.heap.size → v.ownBlock ≠ some k → v'.ownBlock ≠ some k := by
    intro k hk hne e
    rcases hl with h | h
    · exact hne (h ▸ e)
    · rw [h] at e
      injection e with e
      omega
  have HK : Kp X (fun k => k = ca ∨ k = cb ∨ k = bm ∨ v'.ownBlock = some k) w (w2.setCell ⟨cb, 0, none⟩ v') := by
    refine ⟨hg2.os.trans hg1.os, hg2.tape.trans hg1.tape, hg2.output.trans hg1.output, by simp [World.setCell]; omega, key2, fun k hk => ?_⟩
    rcases hk with h | h | h | h
    · exact .inl ((H.own k).2 (.inl h))
    · exact .inl ((H.own k).2 (.inr (.inl h)))
    · exact .inl ((H.own k).2 (.inr (.inr (.inl h))))
    · rcases hl with e | e
      · exact .inl ((H.own k).2 (.inr (.inr (.inr (e ▸ h)))))
      · rw [e] at h
        injection h with h
        exact .inr (by omega)
  have hcb2 : w2.heap[cb]? = some (.cells #[v] 28 (0, 0)) := by
    refine (hg2.block cb (by simp; omega) (fun e => H.out2 e.symm)).trans (((World.grownBy_alloc w1 _ none).block cb (by omega) (by simp)).trans ?_)
    exact (hg1.block cb lcb (fun e => H.ne3 (by injection e))).trans H.box2
  have hsome : ∃ g, v'.ownBlock = some g := by
    obtain ⟨g, hg⟩ := H.some_
    rcases hl with h | h
    · exact ⟨g, h ▸ hg⟩
    · exact ⟨_, h⟩
  refine ⟨_, ⟨bm, D.put (.int .i64 (K : Nat)) (.lit (.bool true)), v', vs ++ [u], fun k => Iff.rfl, H.ne1, H.ne2, H.ne3, hv1 ca lca H.out1, hv1 cb lcb H.out2, hv1 bm lbm H.out3, hsome, ?_, res_box hcb2, ?_, ?_, ?_, ?_, ?_, ?_, ?_⟩, HK⟩
  · exact (key ca (by omega) H.out1 H.ne1).trans ((hg1.block ca lca (fun e => H.ne2 (by injection e))).trans H.box1)
  · rw [List.length_append]
    exact ownsMap_block hown1 (key bm (by omega) H.out3 (Ne.symm H.ne3))
  · rw [hK]
    exact H.seen.put H.map.isMap P
  · refine ⟨ownsRow_of_block ho2.row fun k hk => Below.heap_setCell _ _ _ _ (by show k ≠ cb; exact fun e => hv1 cb lcb H.out2 (e ▸ hk)), fun k hk => ?_⟩
    have := ho2.lt k hk
    simpa [World.setCell] using this
  · simp [H.len]
  · intro i t xs h1 h3
    by_cases hi : i < vs.length
    · rw [List.getElem?_append_left hi] at h1
      rw [List.getElem?_append_left (by rw [← H.len]; exact hi)] at h3
      obtain ⟨l, hh, q1, q2, q3⟩ := H.rows i t xs h1 h3
      exact ⟨l, hh, HK.ints q1 q2 q3, Nat.le_trans q2 HK.size, fun k h4 h5 => HK.out (by omega) (q3 k h4 h5)⟩
    · rw [List.getElem?_append_right (by omega)] at h1
      rw [List.getElem?_append_right (by rw [← H.len]; omega), ← H.len] at h3
      have hi0 : i - vs.length = 0 := by
        have := (List.getElem?_eq_some_iff.1 h1).1
        simp at this
        omega
      rw [hi0] at h1 h3
      simp at h1 h3
      subst h1 h3
      exact ⟨l2, h2, HK.ints hu hh2 hx2, Nat.le_trans hh2 HK.size, fun k h4 h5 => HK.out (by omega) (hx2 k h4 h5)⟩
  · rw [List.nodup_append]
    refine ⟨H.nodup, by simp, fun a ha b hb e => ?_⟩
    rw [List.mem_singleton] at hb
    exact hin (by rw [← hb, ← e]; exact ha)
  · intro x hx
    rcases List.mem_append.1 hx with hx | hx
    · exact H.sets x hx
    · rw [List.mem_singleton] at hx
      exact ⟨P, hx⟩
/-- One row's cell appended to a list of lists: the list's block is the old one or a new one. -/
theorem wpList_app_row2 {ops : Array Oper} {rest : List Oper} {o : Oper} {a : Act} {Q : Exit → Act → World → Prop} (hgd : o.guard = none) (s x : Operand)
    (ho : o.op = .call { callee := .builtin .append, args := #[s, x], argTypes := #[28, 28] })
    (wr : World) (u : Value) (v : Value) (vs : List Value) (hR : Own 22 wr 0 wr.heap.size v vs) (h1 : u.oneCell' = true)
    (hlen : vs.length ≤ 1000000) (hs : a.eval s = v) (hx : a.eval x = .slice (some ⟨wr.heap.size, 0, none⟩) 1 1)
    (h : ∀ v' w', Own 22 w' 0 w'.heap.size v' (vs ++ [u]) → Hid (v'.ownBlock = v.ownBlock ∨ v'.ownBlock = some (wr.heap.size + 1)) → (wr.alloc (.cells #[u] 22)).grownBy w' v.ownBlock → wpList Try.prog ops Q rest (a.put o.dst v') w') :
    wpList Try.prog ops Q (o :: rest) a (wr.alloc (.cells #[u] 22)) := by
  obtain ⟨i0, hi0, hz0, hz1, hz2⟩ := info_parts Try.infoS
  have hR2 := Own.alloc hR (.cells #[u] 22)
  have hb := blk_new wr (.cells #[u] 22)
  refine wpList_plain hgd fun K hK => ?_
  obtain ⟨v', w', hr, hown, hg, hlies⟩ := run_append_own2 (P := Try.prog) (wr.alloc (.cells #[u] 22)) 0 28 o.type 22 i0 (.slice none 0 0) 24 Try.underlying28 hi0 hz0 hz1 hz2 rfl v vs.length vs hR2.row ⟨wr.heap.size, 0, none⟩ 1 1 [u] rfl
    (fun j t hj => by
      match j, hj with
      | 0, hj => simp at hj; subst hj; exact blk_cell hb 0) (fun t ht => by simp at ht; subst ht; exact h1) (by omega) (by unfold maxLen; omega) (by omega) (Nat.zero_le _)
  have ho2 : Own 22 w' 0 w'.heap.size v' (vs ++ [u]) := by
    refine Own.of_row ?_
    rw [List.length_append]
    exact hown
  have hz : (wr.alloc (.cells #[u] 22)).heap.size = wr.heap.size + 1 := by simp
  unfold Oper.wp
  simp [execOp, ho, resolve, invoke, builtin, hs, hx, hr, Result.andThen]
  exact hK _ _ (h v' w' ho2 (by rw [hz] at hlies; exact hlies) hg)
theorem res_see (n ca cb lo : Nat) (hn : n ≤ 4) : SeeC n seeSet 194 ca cb lo (ResI n ca cb) where
  enters := fun args w => by kernel_rfl
  bound := fun w s X ⟨bm, D, v, vs, h⟩ k hk => by
    rcases (h.own k).1 hk with rfl | rfl | rfl | hv
    · exact lt_of_block h.box1
    · exact lt_of_block h.box2
    · exact h.map.lt
    · exact h.top.lt k hv
  keep := fun w w' s X ⟨bm, D, v, vs, h⟩ hb =>
    ⟨bm, D, v, vs, h.own, h.ne1, h.ne2, h.ne3, h.out1, h.out2, h.out3, h.some_, (hb.block ca (lt_of_block h.box1)).trans h.box1, (hb.block cb (lt_of_block h.box2)).trans h.box2, ownsMap_block h.map (hb.block bm h.map.lt), h.seen,
      Own.mono (Own.below h.top hb (Nat.le_refl _)) (Nat.le_refl _) hb.size, h.len, fun i u xs a b => by
        obtain ⟨l, hh, q1, q2, q3⟩ := h.rows i u xs a b
        exact ⟨l, hh, q1.below hb q2, Nat.le_trans q2 hb.size, q3⟩, h.nodup, h.sets⟩
  call := fun w s X lv vs0 path sv l2 h2 P hI hlo hL hV hh2 hx2 h0 => by
    obtain ⟨bm, D, v, vs, hS⟩ := hI
    have HS := Lib.hid hS
    have HV := Lib.hid hV
    have HX2 := Lib.hid hx2
    have hlv : ∃ ao2 L2 cap2, lv = .slice ao2 L2 cap2 := by
      obtain ⟨ao2, g2, cap2, e, -, -, -⟩ := hL.own.rows
      exact ⟨_, _, _, e⟩
    obtain ⟨ao2, L2, cap2, rfl⟩ := hlv
    have hl16 : (setI n P).length ≤ 16 := Nat.le_trans (setI_len n P) (show 2 ^ n ≤ 2 ^ 4 from Nat.pow_le_pow_right (by omega) hn)
    have HM := Lib.hid (setI_masks n P)
    obtain ⟨ao, b, off, cap, rfl, hcap, hao, hc⟩ := hV
    have HC := Lib.hid hc
    obtain ⟨S, hSS⟩ : ∃ S, S = setI n P := ⟨_, rfl⟩
    have HSS := Lib.hid hSS
    rw [← hSS] at hl16 HM hcap HC HV h0 ⊢
    obtain ⟨RES, hRES⟩ : ∃ R, R = seeSet s path S := ⟨_, rfl⟩
    have HRES : Hid (RES = (if S ∈ s then s else s ++ [S], false)) := hRES
    rw [← hRES]
    clear hRES
    obtain ⟨L, hLL⟩ : ∃ L, L = S.length := ⟨_, rfl⟩
    have HL := Lib.hid hLL
    rw [← hLL] at hl16 hcap HC HV h0 ⊢
    clear hSS hLL hS hL hx2 hc
    obtain ⟨rfl, hb1, hb2⟩ := hao (by omega)
    go_enter Try.func194, Try.ntmps194
    go_wp2_with fail
    go_loopw [7, 12] (fun kv i wr => ∃ (j K : Nat), j ≤ L ∧ i = .int .i64 j ∧ kv = .int .i64 K ∧ Hid (K = keyN (S.take j)) ∧ w = wr) (fun _ i _ => L - (intOf i).toNat)
    case atStart => exact ⟨0, 0, Nat.zero_le _, rfl, rfl, rfl, rfl⟩
    case round =>
      obtain ⟨j, K, hj, rfl, rfl, HK, rfl⟩ := hrel
      have hK16 : K < 65536 := by
        rw [HK.out]
        refine Nat.lt_of_lt_of_le (keyA_lt (b := 2 ^ n) _ 0 (Nat.pow_pos (by omega)) fun m hm => ?_) (show 2 ^ 2 ^ n ≤ 2 ^ 16 from Nat.pow_le_pow_right (by omega) (show 2 ^ n ≤ 2 ^ 4 from Nat.pow_le_pow_right (by omega) hn))
        obtain ⟨q, rfl, hq⟩ := HM.out m (List.mem_of_mem_take hm)
        simpa using hq
      by_cases hlt : j < L
      · have hji : (j : Int) < (L : Int) := by omega
        have c1 := HC.out j hlt
        have hsn := keyN_snoc S j (by rw [← HL.out]; exact hlt)
        obtain ⟨m, hm1, hm2⟩ := HM.out (S.getD j 0) (by rw [List.getD_eq_getElem?_getD, List.getElem?_eq_getElem (by rw [← HL.out]; exact hlt)]; exact List.getElem_mem _)
        rw [hm1] at c1 hsn
        have hm16 : m < 16 := Nat.lt_of_lt_of_le hm2 (show 2 ^ n ≤ 2 ^ 4 from Nat.pow_le_pow_right (by omega) hn)
        rw [Int.toNat_natCast, ← HK.out, Nat.one_shiftLeft] at hsn
        obtain ⟨Y, hY⟩ : ∃ Y, Y = 2 ^ m := ⟨_, rfl⟩
        have hY6 : Y < 65536 := by rw [hY]; exact Nat.pow_lt_pow_right (by omega) hm16
        have ex : ((2 : Int) ^ m) = (Y : Int) := by rw [hY]; push_cast; rfl
        rw [← hY] at hsn
        have or4 := or_i64 K Y (by omega) (by omega)
        have HSN := Lib.hid hsn
        clear hsn hY hm1 hm2
        go_wp2_with fail
        go_roundw
        case rel => exact ⟨j + 1, K ||| Y, by omega, by go_num, rfl, HSN.out.symm, trivial⟩
        case measure => simp [intOf]; omega
      · have hji : ¬ (j : Int) < (L : Int) := by omega
        have HKE : Hid (K = keyN (setI n P)) := by show _ = _; rw [HK.out, List.take_of_length_le (by rw [← HL.out]; omega), HSS.out]
        clear HK
        have hkey : keyOf Try.prog 3 (.int .i64 (K : Nat)) = some (.int .i64 (K : Nat)) := keyOf_int_mk Try.underlying3 (by rw [Lit.wf, show IntKind.i64.min = -9223372036854775808 from by decide, show IntKind.i64.max = 9223372036854775807 from by decide, Bool.and_eq_true, decide_eq_true_eq, decide_eq_true_eq]; omega)
        obtain ⟨bb, hrun, hbb⟩ : ∃ bb : Bool, (Instr.lookup 118 (.map (some bm)) (.int .i64 (K : Nat)) false).run Try.prog w = .ok (.bool bb) w ∧ Hid (bb = decide (S ∈ s)) := by
          obtain ⟨v1, ps, hrun, hv⟩ := HS.out.map.lookup (int_keyed Try.underlying3) Try.underlying118 (z := .bool false) (by kernel_rfl) (plainElem_bool Try.underlying4 false) hkey
          obtain ⟨bb, rfl, hz⟩ := plainElem_bool_inv hv
          have hs := HS.out.seen P
          rw [← HKE.out] at hs
          simp only [Prod.mk.injEq] at hz
          rw [hz.1] at hs
          exact ⟨bb, hrun, by show bb = _; rw [HSS.out]; injection hs with hs; injection hs⟩
        have hca := HS.out.box1
        have hcb := HS.out.box2
        have hca1 := blk_cell hca 0
        cases bb
        · have HIN : Hid (S ∉ s) := by show _ ∉ _; exact of_decide_eq_false hbb.out.symm
          have HSE : Hid (RES = (s ++ [S], false)) := by show _ = _; rw [HRES.out, if_neg HIN.out]
          have hown := HS.out.map
          have HLE := Lib.hid (sets_le hn HS.out.nodup HS.out.sets)
          have hs16 : s.length < maxLen := by have := HLE.out; unfold maxLen; omega
          have KEY := int_keyed (P := Try.prog) Try.underlying3
          have HCB1 : Hid (∀ w1, w.grownBy w1 (some bm) → w1.cell? ⟨cb, 0, none⟩ = some v) := fun w1 hg => by
            refine blk_cell ((hg.block cb (lt_of_block HS.out.box2) (fun e => HS.out.ne3 (by injection e))).trans HS.out.box2) 0
          have HTOP1 : Hid (∀ w1, w.grownBy w1 (some bm) → Own 22 w1 0 w1.heap.size v vs) := fun w1 hg =>
            ⟨ownsRow_of_block HS.out.top.row fun k hk => hg.block k (HS.out.top.lt k hk) (fun e => HS.out.out3 (by rw [hk, ← e])), fun k hk => Nat.lt_of_lt_of_le (HS.out.top.lt k hk) hg.size⟩
          have HVL : Hid (vs.length ≤ 1000000) := by show _ ≤ _; rw [HS.out.len]; have := HLE.out; omega
          have HCB2 : Hid (∀ w1 w2, w.grownBy w1 (some bm) → (w1.alloc (.cells #[.slice (some ⟨b, off, none⟩) L cap] 22)).grownBy w2 v.ownBlock → w2.heap[cb]? = some (.cells #[v] 28 (0, 0))) := fun w1 w2 hg1 hg2 => by
            have z := hg1.size
            have lcb := lt_of_block HS.out.box2
            refine (hg2.block cb (by simp; omega) (fun e => HS.out.out2 e.symm)).trans (((World.grownBy_alloc w1 _ none).block cb (by omega) (by simp)).trans ?_)
            exact (hg1.block cb lcb (fun e => HS.out.ne3 (by injection e))).trans HS.out.box2
          have HFIN : Hid (∀ (w1 w2 : World) (v2 : Value), w1.ownsMap Try.prog 3 (plainElem Try.prog 4) bm (s.length + 1) (D.put (.int .i64 (K : Nat)) (.lit (.bool true))) → w.grownBy w1 (some bm) → Own 22 w2 0 w2.heap.size v2 (vs ++ [.slice (some ⟨b, off, none⟩) L cap]) → (v2.ownBlock = v.ownBlock ∨ v2.ownBlock = some (w1.heap.size + 1)) →
              (w1.alloc (.cells #[.slice (some ⟨b, off, none⟩) L cap] 22)).grownBy w2 v.ownBlock → ∃ X', ResI n ca cb (w2.setCell ⟨cb, 0, none⟩ v2) (s ++ [S]) X' ∧ Kp X X' w (w2.setCell ⟨cb, 0, none⟩ v2)) := fun w1 w2 v2 q1 q2 q3 q4 q5 => by
            have hu := HV.out
            have hin := HIN.out
            rw [HSS.out] at hu hin ⊢
            exact res_add HS.out hu hh2 HX2.out hin HKE.out q1 q2 q3 q4 q5
          go_wp2_with (first | (at_builtin; refine wpList_app_row2 rfl (.tmp 27) (.tmp 29) rfl w1 (.slice (some ⟨b, off, none⟩) L cap) _ vs OW1.out rfl HVL.out rfl rfl ?_; intro v2 w2 ho2 hl2 hg2; obtain ⟨ao9, L9, c9, ev9⟩ : ∃ ao L c, v2 = .slice ao L c := (by obtain ⟨ao, g, c, e, -, -, -⟩ := ho2.view; exact ⟨_, _, _, e⟩); subst ev9; have c40 := blk_cell (HCB2.out w1 w2 GR1.out hg2) 0; have f40 := blk_free (HCB2.out w1 w2 GR1.out hg2) 0; have HFI := Lib.hid (HFIN.out w1 w2 _ OWN1.out GR1.out ho2 hl2.out hg2); clear ho2 hl2 hg2) | (at_mapUpdate; refine wpList_mapUpdate_own _ rfl _ _ _ 118 rfl 3 4 KEY Try.underlying118 (plainElem Try.prog 4) bm s.length D rfl hown hs16 _ _ _ rfl rfl hkey (.lit (.bool true)) [] (plainElem_bool Try.underlying4 true) ?_; intro w1 hown1 hgrow1; have OWN1 := Lib.hid hown1; have c30 : w1.cell? ⟨cb, 0, none⟩ = some v := HCB1.out w1 hgrow1; have OW1 : Hid (Own 22 w1 0 w1.heap.size v vs) := HTOP1.out w1 hgrow1; have GR1 := Lib.hid hgrow1; clear hown1 hgrow1))
          go_ret
          rw [HSE.out]
          exact ⟨rfl, HFI.out⟩
        · have HIN : Hid (S ∈ s) := by show _ ∈ _; exact of_decide_eq_true hbb.out.symm
          have HSE : Hid (RES = (s, false)) := by show _ = _; rw [HRES.out, if_pos HIN.out]
          go_wp2
          go_ret
          rw [HSE.out]
          exact ⟨rfl, X, ⟨bm, D, v, vs, HS.out⟩, Kp.of_below (Below.refl _ _)⟩
end Go.Proofs.Ytiodolbgapjmkaa
