/- The reference's sets after some comparators, by their contract. Conditions: at most 4 wires and 5 comparators. -/
import Derived.Test.YtiodolbgapjmkaaSetsO
import Derived.Test.YtiodolbgapjmkaaCountC
namespace Go.Proofs.Ytiodolbgapjmkaa
open Go.RowKit
set_option maxRecDepth 100000
set_option linter.unusedVariables false
set_option linter.unusedSimpArgs false

theorem any_same {n : Nat} {nx : List (List Int)} {X : List Int} (h : ∀ r ∈ nx, ∃ P, r = setI n P) (hX : ∃ Q, X = setI n Q) : (nx.any fun r => sameL r X) = decide (X ∈ nx) := by
  obtain ⟨Q, rfl⟩ := hX
  rw [Bool.eq_iff_iff, List.any_eq_true, decide_eq_true_eq]
  constructor
  · rintro ⟨r, hr, e⟩
    obtain ⟨P, rfl⟩ := h r hr
    rw [← sameL_set.1 e]; exact hr
  · intro hm
    exact ⟨_, hm, sameL_set.2 rfl⟩
theorem addr_add (g o j : Nat) : (⟨g, o, none⟩ : Addr).add j = ⟨g, o + j, none⟩ := by
  unfold Addr.add
  split
  · rename_i h; rw [h]; rfl
  · rfl
theorem addr_add0 (g j : Nat) : (⟨g, 0, none⟩ : Addr).add j = ⟨g, j, none⟩ := by rw [addr_add, Nat.zero_add]
namespace SetsO
variable {w : World} {lo hi : Nat} {vs : List Value} {xss : List (List Int)}
theorem one {v : Value} (h : SetsO w lo hi v vs xss) : ∀ t ∈ vs, t.oneCell' = true := fun t ht => by
  obtain ⟨i, hi, rfl⟩ := List.getElem_of_mem ht
  have hx : i < xss.length := by rw [← h.len]; exact hi
  exact (h.row i _ _ (List.getElem?_eq_getElem hi) (List.getElem?_eq_getElem hx)).one
theorem cells {g L c : Nat} (h : SetsO w lo hi (.slice (some ⟨g, 0, none⟩) L c) vs xss) (hL : xss.length = L) : vs.length = L ∧ (∀ (j : Nat) (t : Value), vs[j]? = some t → w.cell? ⟨g, j, none⟩ = some t) ∧ L ≤ c ∧ (0 < L → g < hi) := by
  obtain ⟨ao, g', c', e, h1, h2, -⟩ := h.view
  injection e with e1 e2 e3
  refine ⟨h.len.trans hL, fun j t hj => ?_, by omega, fun h0 => ?_⟩
  · have := h.top.row.cells (g := g) rfl j t hj
    rwa [show (⟨g, 0, none⟩ : Addr).add j = ⟨g, j, none⟩ from addr_add0 _ _] at this
  · obtain ⟨q1, -, q2⟩ := h2 (by omega)
    rw [q1] at e1
    injection e1 with e1
    injection e1 with e1
    omega
theorem «at» {g L c : Nat} (h : SetsO w lo hi (.slice (some ⟨g, 0, none⟩) L c) vs xss) (hL : xss.length = L) (k : Nat) (hk : k < L) : w.cell? ⟨g, k, none⟩ = some (vs.getD k undef) ∧ IntsV w lo hi (vs.getD k undef) (xss.getD k []) := by
  obtain ⟨ao, g', c', e, h1, h2, h3⟩ := h.view
  injection e with e1 e2 e3
  obtain ⟨q1, -, -⟩ := h2 (by omega)
  rw [q1] at e1
  injection e1 with e1
  injection e1 with e1
  subst e1
  exact h3 k (by omega)
/-- The rows with one more in between, the list's cells being new. -/
theorem insert {w9 wf : World} {v9 : Value} {k : Nat} {u : Value} {X : List Int} {ao : Option Addr} {L cap : Nat} (h : SetsO w9 lo w9.heap.size v9 vs xss) (hu : IntsV w9 lo w9.heap.size u X) (hk : k ≤ xss.length) (hb : Below w9.heap.size w9 wf)
    (ht : Own 22 wf w9.heap.size wf.heap.size (.slice ao L cap) ([] ++ vs.take k ++ [u] ++ vs.drop k)) (hlo : lo ≤ w9.heap.size := by omega) :
    ∃ g c, Value.slice ao L cap = .slice (some ⟨g, 0, none⟩) (insAt xss k X).length c ∧ SetsO wf lo wf.heap.size (.slice ao L cap) (vs.take k ++ [u] ++ vs.drop k) (insAt xss k X) := by
  rw [List.nil_append] at ht
  have hz := hb.size
  have hl := h.len
  obtain ⟨ao2, g, c, e, -, h2, -⟩ := ht.view
  have hlen : (vs.take k ++ [u] ++ vs.drop k).length = (insAt xss k X).length := by rw [insAt_len]; simp; omega
  rw [hlen] at e h2
  obtain ⟨rfl, -, -⟩ := h2 (by rw [insAt_len]; omega)
  exact ⟨g, c, e, (h.below hb (Nat.le_refl _) |>.mono (Nat.le_refl _) hz).ins ((hu.below hb (Nat.le_refl _)).mono (Nat.le_refl _) hz) hk (Own.mono ht hlo (Nat.le_refl _))⟩
end SetsO
/-- Cells of a list of lists appended to another such list. -/
theorem wpList_app_cells {ops : Array Oper} {rest : List Oper} {o : Oper} {a : Act} {Q : Exit → Act → World → Prop} (hgd : o.guard = none) (s x : Operand)
    (ho : o.op = .call { callee := .builtin .append, args := #[s, x], argTypes := #[28, 28] })
    (W : World) (lo hi : Nat) (v : Value) (vs : List Value) (ad : Addr) (m c : Nat) (ws : List Value) (hR : Own 22 W lo hi v vs) (hlo : lo ≤ W.heap.size)
    (hm : ws.length = m) (hcell : ∀ (j : Nat) (t : Value), ws[j]? = some t → W.cell? (ad.add j) = some t) (h1 : ∀ t ∈ ws, t.oneCell' = true) (hlen : vs.length + ws.length ≤ 1000000)
    (hs : a.eval s = v) (hx : a.eval x = .slice (some ad) m c)
    (h : ∀ ao L cap w', Hid (L = vs.length + ws.length) → Own 22 w' lo w'.heap.size (.slice ao L cap) (vs ++ ws) → Below lo W w' → wpList Try.prog ops Q rest (a.put o.dst (.slice ao L cap)) w') :
    wpList Try.prog ops Q (o :: rest) a W := by
  refine wpList_plain hgd fun K hK => ?_
  exact wp_app_cells s x ho W lo hi v vs ad m c ws hR hlo hm hcell h1 hlen hs hx fun ao L cap w' hL ho2 hg => hK _ _ (h ao L cap w' hL ho2 (grown_below hg hlo fun k hk => (hR.row.lt k hk).1))
/-- One row's cell appended to a list of lists. -/
theorem wpList_app_row {ops : Array Oper} {rest : List Oper} {o : Oper} {a : Act} {Q : Exit → Act → World → Prop} (hgd : o.guard = none) (s x : Operand)
    (ho : o.op = .call { callee := .builtin .append, args := #[s, x], argTypes := #[28, 28] })
    (wr : World) (u : Value) (lo hi : Nat) (v : Value) (vs : List Value) (hR : Own 22 wr lo hi v vs) (hlo : lo ≤ wr.heap.size) (h1 : u.oneCell' = true)
    (hlen : vs.length ≤ 100000) (hs : a.eval s = v) (hx : a.eval x = .slice (some ⟨wr.heap.size, 0, none⟩) 1 1)
    (h : ∀ ao L cap w', Hid (L = vs.length + 1) → Own 22 w' lo w'.heap.size (.slice ao L cap) (vs ++ [u]) → Below lo wr w' → lo ≤ w'.heap.size → wpList Try.prog ops Q rest (a.put o.dst (.slice ao L cap)) w') :
    wpList Try.prog ops Q (o :: rest) a (wr.alloc (.cells #[u] 22)) :=
  wpList_app_cells hgd s x ho (wr.alloc (.cells #[u] 22)) lo hi v vs ⟨wr.heap.size, 0, none⟩ 1 1 [u] (Own.alloc hR _) (by simp; omega) rfl
    (fun j t hj => by
      match j, hj with
      | 0, hj => simp at hj; subst hj; exact blk_cell (blk_new wr _) 0) (fun t ht => by simp at ht; subst ht; exact h1) (by simp; omega) hs hx fun ao L cap w' hL ho2 hb =>
    h ao L cap w' hL ho2 (((Below.refl lo wr).alloc hlo _).trans hb) (Nat.le_trans (by simp; omega) hb.size)
/-- A list of all that p comparators reach. -/
def SetsC (w : World) (n p : Nat) (e : Ending) (w' : World) : Prop :=
  ∃ v vs now, e = .returned v ∧ SetsO w' w.heap.size w'.heap.size v vs now ∧ ReachI n p (upI 0 (2 ^ n)) now ∧ Below w.heap.size w w'
set_option maxHeartbeats 4000000 in
theorem l12Sets_c (n p : Nat) (h1 : 1 ≤ n) (h4 : n ≤ 4) (hp : p ≤ 5) (w : World) : Calls Try.prog 166 #[.int .i64 n, .int .i64 p] w (SetsC w n p) := by
  have HM := Lib.hid (l04Masks_c n w (by omega))
  go_enter Try.func166, Try.ntmps166
  go_wp2_with fail
  refine HM.out.mono ?_
  rintro e w1 ⟨u1, rfl, o1, b1⟩
  obtain ⟨ao1, g1, cap1, e1, -, -, -⟩ := OwnI.view o1
  rw [upI_length] at e1
  obtain ⟨M, hM⟩ : ∃ M, M = 2 ^ n := ⟨_, rfl⟩
  rw [← hM] at e1
  subst e1
  have hz1 := b1.size
  have O1 := Lib.hid (ownR_one (lo := w.heap.size) o1 hz1)
  have B1 := Lib.hid (b1.alloc hz1 (.cells #[.slice ao1 M cap1] 22))
  clear o1 b1
  have HS0 : Hid (SetsO (w1.alloc (.cells #[.slice ao1 M cap1] 22)) w.heap.size (w1.alloc (.cells #[.slice ao1 M cap1] 22)).heap.size (.slice (some ⟨w1.heap.size, 0, none⟩) 1 1) [.slice ao1 M cap1] [upI 0 (2 ^ n)]) := SetsO.of_rows O1.out
  rw [hM] at HS0 B1
  clear O1
  go_wp2_with fail
  go_loopw [5, 6] (fun v i wr => ∃ (q : Nat) (vs : List Value) (now : List (List Int)), q ≤ p ∧ i = .int .i64 q ∧ SetsO wr w.heap.size wr.heap.size v vs now ∧ ReachI n q (upI 0 (2 ^ n)) now ∧ Below w.heap.size w wr) (fun _ i _ => p - (intOf i).toNat)
  case atStart => exact ⟨0, _, _, Nat.zero_le _, rfl, HS0.out, ReachI.start _ _, B1.out⟩
  case round =>
    obtain ⟨q, vs, now, hq, rfl, hs, hr, hb⟩ := hrel
    have HS := Lib.hid hs
    have HR := Lib.hid hr
    have HB := Lib.hid hb
    obtain ⟨ao2, g2, cap2, e2, hcap2, hao2, hrow2⟩ := hs.view
    have HROW := Lib.hid hrow2
    obtain ⟨N, hN⟩ : ∃ N, N = now.length := ⟨_, rfl⟩
    have HN := Lib.hid hN
    rw [← hN] at e2 hcap2 hao2 HROW
    subst e2
    clear hs hr hb hrow2 hN HM HS0 B1
    by_cases hlt : q < p
    · have hqi : (q : Int) < (p : Int) := by omega
      obtain ⟨W2, hW2⟩ : ∃ W, W = wr.alloc (.cells #[] 22) := ⟨_, rfl⟩
      have HS2 : Hid (SetsO W2 wr.heap.size W2.heap.size (.slice (some ⟨wr.heap.size, 0, none⟩) 0 0) [] []) := by
        show SetsO _ _ _ _ _ _
        rw [hW2]
        exact SetsO.of_rows ((ownR_empty wr).mono (Nat.le_refl _) (by simp))
      have HB2 : Hid (Below wr.heap.size wr W2) := by show Below _ _ _; rw [hW2]; exact (Below.refl _ _).alloc (Nat.le_refl _) _
      have HW2 := Lib.hid hW2
      clear hW2
      go_wp2_with fail
      try rw [← HW2.out]
      have HPR : Hid ((prs n).length ≤ 6) := by
        have : ∀ n < 5, (prs n).length ≤ 6 := by decide +kernel
        exact this n (by omega)
      have HNOW : Hid (N ≤ 7776) := by
        show N ≤ 7776
        rw [HN.out]
        refine Nat.le_trans HR.out.len (Nat.le_trans (Nat.pow_le_pow_left HPR.out q) (Nat.le_trans (Nat.pow_le_pow_right (by omega) (show q ≤ 5 by omega)) (by decide)))
      have HGOOD : Hid (∀ t, t < N → (∃ P, now.getD t [] = setI n P) ∧ 0 < (now.getD t []).length) := by
        intro t ht
        have hm : now.getD t [] ∈ now := by rw [List.getD_eq_getElem?_getD, List.getElem?_eq_getElem (by rw [← HN.out]; exact ht)]; exact List.getElem_mem _
        exact reach_good (by omega) q _ _ ⟨_, upI_setB n⟩ (by rw [upI_length]; exact Nat.pow_pos (by omega)) ((HR.out.mem _).1 hm)
      obtain ⟨w3, rfl⟩ : ∃ W : World, W = wr := ⟨_, rfl⟩
      go_loopw [7, 26] (fun v i wr => ∃ (t g c : Nat) (vs2 : List Value) (next : List (List Int)), t ≤ N ∧ i = .int .i64 t ∧ v = .slice (some ⟨g, 0, none⟩) next.length c ∧ SetsO wr w3.heap.size wr.heap.size v vs2 next ∧ NxtI n now t 0 next ∧ Below w3.heap.size w3 wr) (fun _ i _ => N - (intOf i).toNat)
      case atStart => exact ⟨0, _, _, _, [], Nat.zero_le _, rfl, rfl, HS2.out, NxtI.start _ _, HB2.out⟩
      case round =>
        obtain ⟨t, g, c, vs2, next, ht, rfl, rfl, hs2, hn2, hb2⟩ := hrel
        have HN2 := Lib.hid hn2
        have HS3 := Lib.hid hs2
        have HB3 := Lib.hid hb2
        have hz3 := hb2.size
        by_cases hlt2 : t < N
        · have hti : (t : Int) < (N : Int) := by omega
          obtain ⟨rfl, hg1, hg2⟩ := hao2 (by omega)
          obtain ⟨r0, r1⟩ := HROW.out t hlt2
          have c0 := (hb2.cell (p := ⟨g2, t, none⟩) (by show g2 < _; omega)).trans r0
          have HU : Hid (IntsV wr w.heap.size w3.heap.size (vs.getD t undef) (now.getD t [])) := r1.below hb2 (Nat.le_refl _)
          obtain ⟨u, hu⟩ : ∃ u, u = vs.getD t undef := ⟨_, rfl⟩
          rw [← hu] at c0 HU
          have HC := Lib.hid (l12All_c n wr (by omega))
          clear hn2 hs2 hb2 r0 r1 hu
          go_wp2_with fail
          refine HC.out.mono ?_
          rintro e w5 ⟨u5, us5, rfl, o5, b5⟩
          obtain ⟨ao5, g5, cap5, e5, hcap5, hao5, hrow5⟩ := o5.rows
          have HROW5 := Lib.hid hrow5
          have B5 := Lib.hid b5
          obtain ⟨K, hK⟩ : ∃ K, K = (prs n).length := ⟨_, rfl⟩
          have HK := Lib.hid hK
          have hK64 : K ≤ 64 := by rw [hK]; exact prs_len (by omega)
          rw [← hK] at e5 hcap5 hao5 HROW5
          subst e5
          clear hrow5 o5 b5 hK
          have HNS : Hid (NxtI n now t 0 next) := HN2.out
          go_wp2_with fail
          go_loopw [7, 33] (fun v i wr => ∃ (j g c : Nat) (vs3 : List Value) (nx3 : List (List Int)), j ≤ K ∧ i = .int .i64 j ∧ v = .slice (some ⟨g, 0, none⟩) nx3.length c ∧ SetsO wr w3.heap.size wr.heap.size v vs3 nx3 ∧ NxtI n now t j nx3 ∧ Below w5.heap.size w5 wr) (fun _ i _ => K - (intOf i).toNat)
          case atStart => exact ⟨0, g, c, vs2, next, Nat.zero_le _, rfl, rfl, HS3.out.later B5.out, HNS.out, Below.refl _ _⟩
          case round =>
            obtain ⟨j, g6, c6, vs3, nx3, hj, rfl, rfl, hs6, hn6, hb6⟩ := hrel
            by_cases hlt3 : j < K
            · have hji : (j : Int) < (K : Int) := by omega
              obtain ⟨a, b, hab, ha, hbn⟩ := prs_pair (n := n) (j := j) (by rw [← HK.out]; exact hlt3)
              obtain ⟨h2, h3⟩ := HROW5.out j hlt3
              rw [hab] at h3
              obtain ⟨ha1, hg0, hg1'⟩ := hao5 (by omega)
              subst ha1
              have c1 := (hb6.cell (p := ⟨g5, j, none⟩) (by show g5 < _; exact hg1')).trans h2
              obtain ⟨ao7, g7, cap7, e7, -, -, -⟩ := OwnI.view h3
              rw [e7] at c1 h3
              have hz6 := hb6.size
              have hz5 := B5.out.size
              have O7 : Hid (OwnI wr w3.heap.size wr.heap.size (.slice ao7 2 cap7) [(a : Int), (b : Int)]) := Own.mono (h3.later hb6) (by omega) hz6
              obtain ⟨W8, hW8⟩ : ∃ W, W = wr.alloc (.cells #[.slice ao7 2 cap7] 22) := ⟨_, rfl⟩
              have HW8 := Lib.hid hW8
              have O8 := Lib.hid (ownR_one O7.out (by omega))
              rw [← hW8] at O8
              have B8 : Hid (Below wr.heap.size wr W8) := by show Below _ _ _; rw [hW8]; exact (Below.refl _ _).alloc (Nat.le_refl _) _
              have HB8 : Hid (Below w5.heap.size w5 W8) := hb6.trans (B8.out.mono hz6)
              have HU8 : Hid (IntsV W8 w.heap.size w3.heap.size u (now.getD t [])) := HU.out.below (B5.out.trans (HB8.out.mono hz5)) (by omega)
              obtain ⟨⟨PY, hPY⟩, hY0⟩ := HGOOD.out t hlt2
              have hYm : masksP n (now.getD t []) := by rw [hPY]; exact setI_masks n PY
              have hYl : (now.getD t []).length ≤ 256 := by rw [hPY]; exact Nat.le_trans (setI_len n PY) (pow_le_256 n (by omega))
              have CA := Lib.hid (l04All_c n _ _ w.heap.size w3.heap.size _ _ _ (now.getD t []) a b W8 (by omega) O8.out (Nat.le_refl _) HU8.out (by have := HB8.out.size; omega) hYm hY0 hYl (by omega) hbn (by omega))
              have HXE : Hid (nxt n (now.getD t []) a b = nxr n (now.getD t []) ((prs n).getD j [])) := by show _ = _; rw [hab]; simp [nxr]
              obtain ⟨X, hX⟩ : ∃ X, X = nxt n (now.getD t []) a b := ⟨_, rfl⟩
              have HXQ : Hid (∃ Q, X = setI n Q) := ⟨_, hX⟩
              rw [← hX] at CA HXE
              have HS6 := Lib.hid hs6
              have HN6 := Lib.hid hn6
              have HB6 := Lib.hid hb6
              clear hX hW8 h2 h3 e7 hs6 hn6 hb6
              go_wp2_with fail
              try rw [← HW8.out]
              refine CA.out.mono ?_
              rintro e w9 ⟨u9, rfl, o9, b9⟩
              obtain ⟨ax9, gx9, cx9, ex9, -, -, -⟩ := OwnI.view o9
              obtain ⟨lx9, hlx9⟩ : ∃ l, l = X.length := ⟨_, rfl⟩
              rw [← hlx9] at ex9
              subst ex9
              clear hlx9
              have hz9 := b9.size
              have hz8 := B8.out.size
              have O9 := Lib.hid o9
              have HB9 : Hid (Below w5.heap.size w5 w9) := HB8.out.trans (b9.mono HB8.out.size)
              have HC9 : Hid (Below wr.heap.size wr w9) := B8.out.trans (b9.mono hz8)
              have HS9 : Hid (SetsO w9 w3.heap.size w9.heap.size (.slice (some ⟨g6, 0, none⟩) nx3.length c6) vs3 nx3) := HS6.out.later HC9.out
              obtain ⟨L3, hL3⟩ : ∃ L, L = nx3.length := ⟨_, rfl⟩
              have HL3 := Lib.hid hL3
              have hL3b : L3 ≤ 100000 := by
                have q1 := HN6.out.len
                have q2 := HNOW.out
                have q3 : t * (prs n).length ≤ 7776 * 6 := Nat.mul_le_mul (by omega) HPR.out
                have q4 := HPR.out
                have q5 := HK.out
                omega
              have hXl : X.length ≤ 100000 := by obtain ⟨Q, hQ⟩ := HXQ.out; rw [hQ]; exact Nat.le_trans (setI_len n Q) (Nat.le_trans (pow_le_256 n (by omega)) (by omega))
              have HALL : Hid (∀ r ∈ nx3, ∃ P, r = setI n P) := fun r hr => by
                rcases (HN6.out.mem r).1 hr with ⟨y, -, r2, -, e⟩ | ⟨r2, -, e⟩
                · exact ⟨_, e⟩
                · exact ⟨_, e⟩
              have HALEN : Hid (∀ r ∈ nx3, r.length ≤ 100000) := fun r hr => by
                obtain ⟨P, e⟩ := HALL.out r hr
                rw [e]
                exact Nat.le_trans (setI_len n P) (Nat.le_trans (pow_le_256 n (by omega)) (by omega))
              have CH := Lib.hid (l12Has_c w3.heap.size w9.heap.size W8.heap.size w9.heap.size _ vs3 nx3 (.slice ax9 lx9 cx9) X w9 HS9.out.rowsV o9.ints (by rw [← hL3]; exact hL3b) HALEN.out hXl)
              rw [any_same HALL.out HXQ.out, ← hL3] at CH
              rw [← hL3] at HS9 HS6
              clear o9 b9
              rw [← HL3.out]
              clear hL3
              by_cases hin : X ∈ nx3
              · have HIN := Lib.hid hin
                have HDT : Hid (decide (X ∈ nx3) = true) := decide_eq_true hin
                rw [HDT.out] at CH
                clear hin
                go_wp2_with ((with_reducible refine CH.out.mono ?_); rintro e w' ⟨rfl, rfl⟩)
                go_roundw
                case rel => exact ⟨j + 1, g6, c6, vs3, nx3, by omega, by go_num, by rw [HL3.out], HS9.out, HN6.out.hit (by rw [← HK.out]; exact hlt3) (by rw [← HXE.out]; exact HIN.out), HB9.out⟩
                case measure => simp [intOf]; omega
              · have HMISS : Hid (∀ k, NxtI n now t (j + 1) (insAt nx3 k X)) := by
                  intro k
                  rw [HXE.out] at hin ⊢
                  exact HN6.out.miss (by rw [← HK.out]; exact hlt3) hin k
                have HDT : Hid (decide (X ∈ nx3) = false) := decide_eq_false hin
                rw [HDT.out] at CH
                clear hin
                have hz59 : w5.heap.size ≤ w9.heap.size := HB9.out.size
                have HU9 : Hid (IntsV w9 w3.heap.size w9.heap.size (.slice ax9 lx9 cx9) X) := O9.out.ints.mono (by omega) (Nat.le_refl _)
                have HU1 : Hid ((Value.slice ax9 lx9 cx9).oneCell' = true) := HU9.out.one
                obtain ⟨HVL, HVC, hcc, hg6⟩ := HS9.out.cells HL3.out.symm
                have HE : Hid (Own 22 (w9.alloc (.cells #[] 22)) w9.heap.size (w9.heap.size + 1) (.slice (some ⟨w9.heap.size, 0, none⟩) 0 0) []) := own_emptyS w9
                have HZE : Hid (w9.heap.size ≤ (w9.alloc (.cells #[] 22)).heap.size) := by show _ ≤ _; simp
                have HBE : Hid (Below w9.heap.size w9 (w9.alloc (.cells #[] 22))) := (Below.refl _ _).alloc (Nat.le_refl _) _
                have HTL : Hid (∀ k, k ≤ L3 → (vs3.take k).length = k) := fun k hk => by rw [List.length_take, HVL]; omega
                have HDL : Hid (∀ k, k ≤ L3 → (vs3.drop k).length = L3 - k) := fun k hk => by rw [List.length_drop, HVL]
                have HTC : Hid (∀ k, k ≤ L3 → ∀ (j : Nat) (t : Value), (vs3.take k)[j]? = some t → (w9.alloc (.cells #[] 22)).cell? ((⟨g6, 0, none⟩ : Addr).add j) = some t) := by
                  show ∀ k, _
                  intro k hk j t hj
                  rw [show (⟨g6, 0, none⟩ : Addr).add j = ⟨g6, j, none⟩ from addr_add0 _ _]
                  have hjk : j < k := by have := (List.getElem?_eq_some_iff.1 hj).1; rw [List.length_take] at this; omega
                  rw [List.getElem?_take_of_lt hjk] at hj
                  exact (HBE.out.cell (p := ⟨g6, j, none⟩) (hg6 (by omega))).trans (HVC j t hj)
                have HONE : Hid (∀ t ∈ vs3, t.oneCell' = true) := HS9.out.one
                have HTO : Hid (∀ k, ∀ t ∈ vs3.take k, t.oneCell' = true) := fun k t ht => HONE.out t (List.mem_of_mem_take ht)
                have HDO : Hid (∀ k, ∀ t ∈ vs3.drop k, t.oneCell' = true) := fun k t ht => HONE.out t (List.mem_of_mem_drop ht)
                have HLT : Hid (∀ k, k ≤ L3 → ([] : List Value).length + (vs3.take k).length ≤ 1000000) := fun k hk => by rw [HTL.out k hk]; simp; omega
                have HLT1 : Hid (∀ k, k ≤ L3 → ([] ++ vs3.take k).length ≤ 100000) := fun k hk => by rw [List.nil_append, HTL.out k hk]; omega
                have HLD : Hid (∀ k, k ≤ L3 → ([] ++ vs3.take k ++ [Value.slice ax9 lx9 cx9]).length + (vs3.drop k).length ≤ 1000000) := fun k hk => by rw [HDL.out k hk, List.nil_append, List.length_append, HTL.out k hk]; simp; omega
                have HGEN : Hid (∀ k, k ≤ L3 → ∀ off : Nat, (L3 = k ∨ off = k) → ∀ w7, Below w9.heap.size w9 w7 → ∀ (j : Nat) (t : Value), (vs3.drop k)[j]? = some t → w7.cell? ((⟨g6, off, none⟩ : Addr).add j) = some t) := by
                  show ∀ k, _
                  intro k hk off ho w7 hb7 j t hj
                  have hjl := (List.getElem?_eq_some_iff.1 hj).1
                  rw [HDL.out k hk] at hjl
                  obtain rfl : off = k := by omega
                  rw [show (⟨g6, off, none⟩ : Addr).add j = ⟨g6, off + j, none⟩ from addr_add _ _ _]
                  rw [List.getElem?_drop] at hj
                  exact (hb7.cell (p := ⟨g6, off + j, none⟩) (hg6 (by omega))).trans (HVC _ t hj)
                have HKF : Hid (∀ k : Nat, k ≤ L3 → (0 : Int) ≤ (k : Int) ∧ (k : Int) ≤ (L3 : Int) ∧ (k : Int) ≤ (c6 : Int) ∧ (L3 : Int) ≤ (c6 : Int) ∧ (k : Int).toNat = k ∧ k ≤ c6) := fun k hk => ⟨by omega, by omega, by omega, by omega, by omega, by omega⟩
                have HR9 : Hid (∀ k, k < L3 → w9.cell? ⟨g6, k, none⟩ = some (vs3.getD k undef) ∧ Calls Try.prog 193 #[vs3.getD k undef, .slice ax9 lx9 cx9] w9 (TellC w9)) := by
                  intro k hk
                  obtain ⟨q1, q2⟩ := HS9.out.at HL3.out.symm k hk
                  refine ⟨q1, l12Less_c _ _ _ _ _ _ _ X w9 q2 HU9.out ?_ hXl⟩
                  refine HALEN.out _ ?_
                  rw [List.getD_eq_getElem?_getD, List.getElem?_eq_getElem (by rw [← HL3.out]; exact hk)]
                  exact List.getElem_mem _
                clear HVC HONE
                go_wp2_with ((with_reducible refine CH.out.mono ?_); rintro e w' ⟨rfl, rfl⟩)
                obtain ⟨w9, rfl⟩ : ∃ W : World, W = w' := ⟨_, rfl⟩
                go_loopw [13] (fun i wr => ∃ k : Nat, k ≤ L3 ∧ i = .int .i64 k ∧ w9 = wr) (fun i _ => L3 - (intOf i).toNat)
                case atStart => exact ⟨0, Nat.zero_le _, rfl, rfl⟩
                case round =>
                  obtain ⟨k, hk4, rfl, rfl⟩ := hrel
                  by_cases hlt4 : k < L3
                  · have hki4 : (k : Int) < (L3 : Int) := by omega
                    obtain ⟨c9, r9⟩ := HR9.out k hlt4
                    obtain ⟨z9, hz9'⟩ : ∃ z, z = vs3.getD k undef := ⟨_, rfl⟩
                    rw [← hz9'] at c9 r9
                    have R9 := Lib.hid r9
                    clear r9 hz9'
                    obtain ⟨hc1, hc2, hc3, hc4, hc5, hc6⟩ := HKF.out k hk4
                    by_cases hck : c6 = k
                    · have hck1 : (c6 = k) = True := eq_true hck
                      have HG0 := Lib.hid (HGEN.out k hk4 0 (Or.inl (by omega)))
                      clear hck
                      go_wp2_with (first | ((with_reducible refine R9.out.mono ?_); rintro e w' ⟨bb, rfl, hw9⟩; obtain rfl := hw9.symm; cases bb) | (at_builtin; first | (refine wpList_app_cells rfl (.tmp 60) (.tmp 63) rfl (w9.alloc (.cells #[] 22)) w9.heap.size (w9.heap.size + 1) _ [] ⟨g6, 0, none⟩ k c6 (vs3.take k) HE.out HZE.out (HTL.out k hk4) (HTC.out k hk4) (HTO.out k) (HLT.out k hk4) rfl rfl ?_; intro ao10 L10 cap10 w10 hL10 o10 b10; have O10 := Lib.hid o10; have Z10 : Hid (w9.heap.size ≤ w10.heap.size) := Nat.le_trans HZE.out b10.size; have B10 : Hid (Below w9.heap.size w9 w10) := HBE.out.trans b10; clear o10 b10) | (refine wpList_app_row rfl (.tmp 65) (.tmp 67) rfl w10 (.slice ax9 lx9 cx9) w9.heap.size w10.heap.size _ _ O10.out Z10.out HU1.out (HLT1.out k hk4) rfl rfl ?_; intro ao11 L11 cap11 w11 hL11 o11 b11 z11; have O11 := Lib.hid o11; have Z11 := Lib.hid z11; have B11 : Hid (Below w9.heap.size w9 w11) := B10.out.trans b11; clear o11 b11 z11) | (refine wpList_app_cells rfl (.tmp 69) (.tmp 72) rfl w11 w9.heap.size w11.heap.size _ _ ⟨g6, 0, none⟩ (L3 - k) (c6 - k) (vs3.drop k) O11.out Z11.out (HDL.out k hk4) (HG0.out w11 B11.out) (HDO.out k) (HLD.out k hk4) rfl rfl ?_; intro ao12 L12 cap12 w12 hL12 o12 b12; have O12 := Lib.hid o12; have B12 : Hid (Below w9.heap.size w9 w12) := B11.out.trans b12; clear o12 b12)))
                      iterate 2 first | (go_roundw; (case rel => first | exact ⟨k + 1, by omega, by go_num, trivial⟩ | (obtain ⟨gf, cf, ef, sf⟩ := HS9.out.insert HU9.out (by rw [← HL3.out]; exact hk4) B12.out O12.out; exact ⟨j + 1, gf, cf, _, insAt nx3 k X, by omega, by go_num, ef, sf, HMISS.out k, HB9.out.trans (B12.out.mono hz59)⟩)); (case measure => simp [intOf]; omega)) | done
                    · have HG0 := Lib.hid (HGEN.out k hk4 k (Or.inr rfl))
                      go_wp2_with (first | ((with_reducible refine R9.out.mono ?_); rintro e w' ⟨bb, rfl, hw9⟩; obtain rfl := hw9.symm; cases bb) | (at_builtin; first | (refine wpList_app_cells rfl (.tmp 60) (.tmp 63) rfl (w9.alloc (.cells #[] 22)) w9.heap.size (w9.heap.size + 1) _ [] ⟨g6, 0, none⟩ k c6 (vs3.take k) HE.out HZE.out (HTL.out k hk4) (HTC.out k hk4) (HTO.out k) (HLT.out k hk4) rfl rfl ?_; intro ao10 L10 cap10 w10 hL10 o10 b10; have O10 := Lib.hid o10; have Z10 : Hid (w9.heap.size ≤ w10.heap.size) := Nat.le_trans HZE.out b10.size; have B10 : Hid (Below w9.heap.size w9 w10) := HBE.out.trans b10; clear o10 b10) | (refine wpList_app_row rfl (.tmp 65) (.tmp 67) rfl w10 (.slice ax9 lx9 cx9) w9.heap.size w10.heap.size _ _ O10.out Z10.out HU1.out (HLT1.out k hk4) rfl rfl ?_; intro ao11 L11 cap11 w11 hL11 o11 b11 z11; have O11 := Lib.hid o11; have Z11 := Lib.hid z11; have B11 : Hid (Below w9.heap.size w9 w11) := B10.out.trans b11; clear o11 b11 z11) | (refine wpList_app_cells rfl (.tmp 69) (.tmp 72) rfl w11 w9.heap.size w11.heap.size _ _ ⟨g6, k, none⟩ (L3 - k) (c6 - k) (vs3.drop k) O11.out Z11.out (HDL.out k hk4) (HG0.out w11 B11.out) (HDO.out k) (HLD.out k hk4) rfl rfl ?_; intro ao12 L12 cap12 w12 hL12 o12 b12; have O12 := Lib.hid o12; have B12 : Hid (Below w9.heap.size w9 w12) := B11.out.trans b12; clear o12 b12)))
                      iterate 2 first | (go_roundw; (case rel => first | exact ⟨k + 1, by omega, by go_num, trivial⟩ | (obtain ⟨gf, cf, ef, sf⟩ := HS9.out.insert HU9.out (by rw [← HL3.out]; exact hk4) B12.out O12.out; exact ⟨j + 1, gf, cf, _, insAt nx3 k X, by omega, by go_num, ef, sf, HMISS.out k, HB9.out.trans (B12.out.mono hz59)⟩)); (case measure => simp [intOf]; omega)) | done
                  · have hki4 : ¬ (k : Int) < (L3 : Int) := by omega
                    clear hlt4
                    obtain ⟨hc1, hc2, hc3, hc4, hc5, hc6⟩ := HKF.out k hk4
                    by_cases hck : c6 = k
                    · have hck1 : (c6 = k) = True := eq_true hck
                      have HG0 := Lib.hid (HGEN.out k hk4 0 (Or.inl (by omega)))
                      clear hck
                      go_wp2_with (at_builtin; first | (refine wpList_app_cells rfl (.tmp 60) (.tmp 63) rfl (w9.alloc (.cells #[] 22)) w9.heap.size (w9.heap.size + 1) _ [] ⟨g6, 0, none⟩ k c6 (vs3.take k) HE.out HZE.out (HTL.out k hk4) (HTC.out k hk4) (HTO.out k) (HLT.out k hk4) rfl rfl ?_; intro ao10 L10 cap10 w10 hL10 o10 b10; have O10 := Lib.hid o10; have Z10 : Hid (w9.heap.size ≤ w10.heap.size) := Nat.le_trans HZE.out b10.size; have B10 : Hid (Below w9.heap.size w9 w10) := HBE.out.trans b10; clear o10 b10) | (refine wpList_app_row rfl (.tmp 65) (.tmp 67) rfl w10 (.slice ax9 lx9 cx9) w9.heap.size w10.heap.size _ _ O10.out Z10.out HU1.out (HLT1.out k hk4) rfl rfl ?_; intro ao11 L11 cap11 w11 hL11 o11 b11 z11; have O11 := Lib.hid o11; have Z11 := Lib.hid z11; have B11 : Hid (Below w9.heap.size w9 w11) := B10.out.trans b11; clear o11 b11 z11) | (refine wpList_app_cells rfl (.tmp 69) (.tmp 72) rfl w11 w9.heap.size w11.heap.size _ _ ⟨g6, 0, none⟩ (L3 - k) (c6 - k) (vs3.drop k) O11.out Z11.out (HDL.out k hk4) (HG0.out w11 B11.out) (HDO.out k) (HLD.out k hk4) rfl rfl ?_; intro ao12 L12 cap12 w12 hL12 o12 b12; have O12 := Lib.hid o12; have B12 : Hid (Below w9.heap.size w9 w12) := B11.out.trans b12; clear o12 b12))
                      go_roundw
                      case rel =>
                        obtain ⟨gf, cf, ef, sf⟩ := HS9.out.insert HU9.out (by rw [← HL3.out]; exact hk4) B12.out O12.out
                        exact ⟨j + 1, gf, cf, _, insAt nx3 k X, by omega, by go_num, ef, sf, HMISS.out k, HB9.out.trans (B12.out.mono hz59)⟩
                      case measure => simp [intOf]; omega
                    · have HG0 := Lib.hid (HGEN.out k hk4 k (Or.inr rfl))
                      go_wp2_with (at_builtin; first | (refine wpList_app_cells rfl (.tmp 60) (.tmp 63) rfl (w9.alloc (.cells #[] 22)) w9.heap.size (w9.heap.size + 1) _ [] ⟨g6, 0, none⟩ k c6 (vs3.take k) HE.out HZE.out (HTL.out k hk4) (HTC.out k hk4) (HTO.out k) (HLT.out k hk4) rfl rfl ?_; intro ao10 L10 cap10 w10 hL10 o10 b10; have O10 := Lib.hid o10; have Z10 : Hid (w9.heap.size ≤ w10.heap.size) := Nat.le_trans HZE.out b10.size; have B10 : Hid (Below w9.heap.size w9 w10) := HBE.out.trans b10; clear o10 b10) | (refine wpList_app_row rfl (.tmp 65) (.tmp 67) rfl w10 (.slice ax9 lx9 cx9) w9.heap.size w10.heap.size _ _ O10.out Z10.out HU1.out (HLT1.out k hk4) rfl rfl ?_; intro ao11 L11 cap11 w11 hL11 o11 b11 z11; have O11 := Lib.hid o11; have Z11 := Lib.hid z11; have B11 : Hid (Below w9.heap.size w9 w11) := B10.out.trans b11; clear o11 b11 z11) | (refine wpList_app_cells rfl (.tmp 69) (.tmp 72) rfl w11 w9.heap.size w11.heap.size _ _ ⟨g6, k, none⟩ (L3 - k) (c6 - k) (vs3.drop k) O11.out Z11.out (HDL.out k hk4) (HG0.out w11 B11.out) (HDO.out k) (HLD.out k hk4) rfl rfl ?_; intro ao12 L12 cap12 w12 hL12 o12 b12; have O12 := Lib.hid o12; have B12 : Hid (Below w9.heap.size w9 w12) := B11.out.trans b12; clear o12 b12))
                      go_roundw
                      case rel =>
                        obtain ⟨gf, cf, ef, sf⟩ := HS9.out.insert HU9.out (by rw [← HL3.out]; exact hk4) B12.out O12.out
                        exact ⟨j + 1, gf, cf, _, insAt nx3 k X, by omega, by go_num, ef, sf, HMISS.out k, HB9.out.trans (B12.out.mono hz59)⟩
                      case measure => simp [intOf]; omega
            · have hji : ¬ (j : Int) < (K : Int) := by omega
              have HRW : Hid (NxtI n now (t + 1) 0 nx3) := by
                have hj' : j = (prs n).length := by rw [← HK.out]; omega
                rw [hj'] at hn6
                exact hn6.row (by rw [← HN.out]; exact hlt2)
              have HS6 := Lib.hid hs6
              have HBW : Hid (Below w3.heap.size w3 wr) := HB3.out.trans ((B5.out.trans (hb6.mono B5.out.size)).mono hz3)
              clear hs6 hn6 hb6
              have hN64 : N ≤ 7776 := HNOW.out
              go_wp2_with fail
              go_roundw
              case rel => exact ⟨t + 1, g6, c6, vs3, nx3, by omega, by go_num, rfl, HS6.out, HRW.out, HBW.out⟩
              case measure => simp [intOf]; omega
        · have hti : ¬ (t : Int) < (N : Int) := by omega
          have HFI : Hid (ReachI n (q + 1) (upI 0 (2 ^ n)) next) := by
            have ht' : t = now.length := by rw [← HN.out]; omega
            rw [ht'] at hn2
            exact hn2.fin HR.out
          have HSF : Hid (SetsO wr w.heap.size wr.heap.size (.slice (some ⟨g, 0, none⟩) next.length c) vs2 next) := hs2.mono (by have := HB.out.size; omega) (Nat.le_refl _)
          have HBF : Hid (Below w.heap.size w wr) := HB.out.trans (hb2.mono HB.out.size)
          clear hs2 hn2 hb2
          go_wp2_with fail
          go_roundw
          case rel => exact ⟨q + 1, vs2, next, by omega, by go_num, HSF.out, HFI.out, HBF.out⟩
          case measure => simp [intOf]; omega
    · have hqi : ¬ (q : Int) < (p : Int) := by omega
      have HE : Hid (q = p) := by show _ = _; omega
      have HF : Hid (SetsC w n p (.returned (.slice ao2 N cap2)) wr) := ⟨_, _, _, rfl, HS.out, by rw [← HE.out]; exact HR.out, HB.out⟩
      go_wp2
      go_ret
      exact HF.out
end Go.Proofs.Ytiodolbgapjmkaa
