/- LiveNetwork: the comparators on which some wires depend: both functions. Conditions: the network is valid. -/
import Derived.Test.YtiodolbgapjmkaaCopy2
import Derived.Test.YtiodolbgapjmkaaRowApp
import Derived.Test.YtiodolbgapjmkaaWalkU
import Derived.Test.YtiodolbgapjmkaaMaskL
import Derived.Test.YtiodolbgapjmkaaPast
namespace Go.Proofs.Ytiodolbgapjmkaa
open Go.RowKit
set_option maxRecDepth 100000
set_option linter.unusedVariables false

theorem Try.infoBool : (Try.prog.info? 4).map (fun i => (i.zero, i.size, i.bytes)) = some (some (.bool false), 1, 1) := by kernel_rfl
def rowA (p : List Int) : Nat := (p.getD 0 0).toNat
def rowB (p : List Int) : Nat := (p.getD 1 0).toNat
def upB (W : Nat → Bool) (i : Nat) : Nat → Bool := fun j => j == i || W j
/-- The wires that are wanted ahead of a list of comparators. -/
def liveW (W : Nat → Bool) : List (List Int) → Nat → Bool
  | [] => W
  | p :: r => if liveW W r (rowA p) || liveW W r (rowB p) then upB (upB (liveW W r) (rowA p)) (rowB p) else liveW W r
/-- The comparators that are kept. -/
def liveP (W : Nat → Bool) : List (List Int) → List (List Int)
  | [] => []
  | p :: r => if liveW W r (rowA p) || liveW W r (rowB p) then p :: liveP W r else liveP W r
def keepB (W : Nat → Bool) (xss : List (List Int)) (k : Nat) : Bool := liveW W (xss.drop (k + 1)) (rowA (xss.getD k [])) || liveW W (xss.drop (k + 1)) (rowB (xss.getD k []))
theorem drop_getD {xss : List (List Int)} {k : Nat} (hk : k < xss.length) : xss.drop k = xss.getD k [] :: xss.drop (k + 1) := by
  rw [List.drop_eq_getElem_cons hk]
  simp [List.getD, hk]
theorem liveW_yes {W : Nat → Bool} {xss : List (List Int)} {k : Nat} (hk : k < xss.length) (h : keepB W xss k = true) : liveW W (xss.drop k) = upB (upB (liveW W (xss.drop (k + 1))) (rowA (xss.getD k []))) (rowB (xss.getD k [])) := by
  rw [drop_getD hk, liveW]
  unfold keepB at h
  rw [if_pos h]
theorem liveW_no {W : Nat → Bool} {xss : List (List Int)} {k : Nat} (hk : k < xss.length) (h : keepB W xss k = false) : liveW W (xss.drop k) = liveW W (xss.drop (k + 1)) := by
  rw [drop_getD hk, liveW]
  unfold keepB at h
  rw [if_neg (by rw [h]; simp)]
theorem liveP_yes {W : Nat → Bool} {xss : List (List Int)} {k : Nat} (hk : k < xss.length) (h : keepB W xss k = true) : liveP W (xss.drop k) = xss.getD k [] :: liveP W (xss.drop (k + 1)) := by
  rw [drop_getD hk, liveP]
  unfold keepB at h
  rw [if_pos h]
theorem liveP_no {W : Nat → Bool} {xss : List (List Int)} {k : Nat} (hk : k < xss.length) (h : keepB W xss k = false) : liveP W (xss.drop k) = liveP W (xss.drop (k + 1)) := by
  rw [drop_getD hk, liveP]
  unfold keepB at h
  rw [if_neg (by rw [h]; simp)]
/-- The first k comparators that are kept. -/
def keptK (W : Nat → Bool) (xss : List (List Int)) (k : Nat) : List (List Int) := ((List.range k).filter (keepB W xss)).map fun j => xss.getD j []
theorem keptK_yes {W : Nat → Bool} {xss : List (List Int)} {k : Nat} (h : keepB W xss k = true) : keptK W xss (k + 1) = keptK W xss k ++ [xss.getD k []] := by simp [keptK, List.range_succ, List.filter_append, h]
theorem keptK_no {W : Nat → Bool} {xss : List (List Int)} {k : Nat} (h : keepB W xss k = false) : keptK W xss (k + 1) = keptK W xss k := by simp [keptK, List.range_succ, List.filter_append, h]
theorem keptK_le (W : Nat → Bool) (xss : List (List Int)) (k : Nat) : (keptK W xss k).length ≤ k := by
  have := List.length_filter_le (keepB W xss) (List.range k)
  simpa [keptK] using this
theorem keptK_all (W : Nat → Bool) (xss : List (List Int)) : keptK W xss xss.length = liveP W xss := by
  have : ∀ k, k ≤ xss.length → keptK W xss k ++ liveP W (xss.drop k) = liveP W xss := by
    intro k
    induction k with
    | zero => intro _; simp [keptK]
    | succ k ih =>
      intro hk
      rw [← ih (by omega)]
      cases h : keepB W xss k with
      | true => rw [keptK_yes h, liveP_yes (by omega) h, List.append_assoc]; rfl
      | false => rw [keptK_no h, liveP_no (by omega) h]
  have h := this xss.length (Nat.le_refl _)
  rwa [List.drop_length, liveP, List.append_nil] at h
theorem liveP_le (W : Nat → Bool) (xss : List (List Int)) : (liveP W xss).length ≤ xss.length := by
  rw [← keptK_all]; exact keptK_le _ _ _
/-- The wires of a list. -/
def wantB (xs : List Int) (k : Nat) : Nat → Bool := fun j => (xs.take k).contains (j : Int)
theorem wantB_zero (xs : List Int) (j : Nat) : wantB xs 0 j = false := by simp [wantB]
theorem wantB_succ {xs : List Int} {k : Nat} (hk : k < xs.length) {i : Nat} (h : xs.getD k 0 = (i : Int)) (j : Nat) : wantB xs (k + 1) j = if j = i then true else wantB xs k j := by
  unfold wantB
  rw [take_snoc_getD 0 hk, h]
  by_cases e : j = i
  · rw [if_pos e, e]; simp
  · rw [if_neg e]
    simp only [List.contains_eq_any_beq, List.any_append, List.any_cons, List.any_nil, Bool.or_false]
    have : ((j : Int) == (i : Int)) = false := by rw [beq_eq_false_iff_ne]; omega
    rw [this, Bool.or_false]
def wiresOk (n : Nat) (xs : List Int) : Bool := xs.all fun x => inB x 0 ((n : Int) - 1)
theorem wiresOk_at {n : Nat} {xs : List Int} (h : wiresOk n xs = true) {k : Nat} (hk : k < xs.length) : ∃ i : Nat, xs.getD k 0 = (i : Int) ∧ i < n := by
  simp only [wiresOk, List.all_eq_true] at h
  have := inB_of (h (xs.getD k 0) (by simp [List.getD, List.getElem?_eq_getElem hk]))
  exact ⟨(xs.getD k 0).toNat, by omega, by omega⟩
theorem wiresOk_no {n : Nat} {xs : List Int} (h : wiresOk n xs = false) : ∃ K, K < xs.length ∧ inB (xs.getD K 0) 0 ((n : Int) - 1) = false ∧ ∀ k, k < K → inB (xs.getD k 0) 0 ((n : Int) - 1) = true := by
  have hex : ∃ K, K < xs.length ∧ inB (xs.getD K 0) 0 ((n : Int) - 1) = false := by
    unfold wiresOk at h
    rw [List.all_eq_false] at h
    obtain ⟨x, hx, h2⟩ := h
    obtain ⟨k, hk, rfl⟩ := List.getElem_of_mem hx
    exact ⟨k, hk, by simpa [List.getD, hk] using h2⟩
  obtain ⟨K0, h1, h2⟩ := hex
  have : ∀ K0, (K0 < xs.length ∧ inB (xs.getD K0 0) 0 ((n : Int) - 1) = false) → ∃ K, K ≤ K0 ∧ inB (xs.getD K 0) 0 ((n : Int) - 1) = false ∧ ∀ k, k < K → inB (xs.getD k 0) 0 ((n : Int) - 1) = true := by
    intro K0
    induction K0 using Nat.strongRecOn with
    | ind K0 ih =>
      intro ⟨a, b⟩
      by_cases hc : ∃ m, m < K0 ∧ inB (xs.getD m 0) 0 ((n : Int) - 1) = false
      · obtain ⟨m, hm, hp⟩ := hc
        obtain ⟨K, c1, c2, c3⟩ := ih m hm ⟨by omega, hp⟩
        exact ⟨K, by omega, c2, c3⟩
      · refine ⟨K0, Nat.le_refl _, b, fun k hk => ?_⟩
        cases e : inB (xs.getD k 0) 0 ((n : Int) - 1) with
        | true => rfl
        | false => exact absurd ⟨k, hk, e⟩ hc
  obtain ⟨K, c1, c2, c3⟩ := this K0 ⟨h1, h2⟩
  exact ⟨K, by omega, c2, c3⟩


/-- Rows ahead of others: the ones ahead lie in newer blocks. -/
theorem wp_app_rowsR {o : Oper} {a : Act} {K : Act → World → Prop} {Q : Exit → Act → World → Prop} (s x : Operand)
    (ho : o.op = .call { callee := .builtin .append, args := #[s, x], argTypes := #[28, 28] })
    (W : World) (lo mid : Nat) (v u : Value) (vs us : List Value) (xss yss : List (List Int)) (hR : OwnR W mid W.heap.size v vs xss) (hS : OwnR W lo mid u us yss) (hlo : lo ≤ mid) (hmid : mid ≤ W.heap.size)
    (hlen : xss.length + yss.length ≤ 1000000) (hs : a.eval s = v) (hx : a.eval x = u)
    (h : ∀ ao L cap w' vs', Hid (L = xss.length + yss.length) → OwnR w' lo w'.heap.size (.slice ao L cap) vs' (xss ++ yss) → Below mid W w' → mid ≤ w'.heap.size → K (a.put o.dst (.slice ao L cap)) w') :
    o.wp Try.prog a W K Q := by
  obtain ⟨i0, hi, hz0, hz1, hz2⟩ := info_parts Try.infoS
  have hl1 := hR.len
  have hl2 := hS.len
  have hR0 : OwnR W lo W.heap.size v vs xss := hR.mono hlo (Nat.le_refl _)
  rcases hS.top.row.2 with ⟨hu, hn⟩ | ⟨g, cap, cur, hu, hg, hh, hnc, hm, hcs, ht⟩
  · have hus : us = [] := List.eq_nil_of_length_eq_zero hn
    have hys : yss = [] := List.eq_nil_of_length_eq_zero (by omega)
    have hrun := run_append_owned_none (P := Try.prog) (w := W) lo 28 o.type 22 i0 1 Try.underlying28 hi v vs.length vs hR0.top.row
    have hK : K (a.put o.dst v) W := by
      obtain ⟨ao, g, cap, e, -, -, -⟩ := hR.rows
      rw [e]
      refine h ao _ cap W vs (by show _ = _; rw [hys]; rfl) ?_ (Below.refl _ _) hmid
      rw [← e, hys, List.append_nil]
      exact hR0
    rw [hu] at hx
    unfold Oper.wp
    simp [execOp, ho, resolve, invoke, builtin, hs, hx, hrun, Result.andThen]
    exact hK
  · have hcell : ∀ (j : Nat) (t : Value), us[j]? = some t → W.cell? ((⟨g, 0, none⟩ : Addr).add j) = some t := hS.top.row.cells (g := g) (by rw [hu]; rfl)
    refine wp_append_own W s x 28 ho mid 22 i0 (.slice none 0 0) 1 24 Try.underlying28 hi hz0 hz1 hz2 rfl (by decide) v vs.length vs hs hR.top.row ⟨g, 0, none⟩ us.length cap us (by rw [hx, hu]) (by simp) ?_ ?_ ?_ ?_ ?_ ?_
    · exact hcell
    · exact hS.oneCell
    · unfold maxLen; omega
    · omega
    · omega
    · intro v' w' hown hg2 hnil
      have hbs : ∀ t ∈ us, ∀ k, t.ownBlock = some k → k < mid := by
        intro t ht' k hk
        obtain ⟨i, hi', rfl⟩ := List.getElem_of_mem ht'
        exact (hS.row i us[i] (yss[i]'(by omega)) (List.getElem?_eq_getElem hi') (List.getElem?_eq_getElem (by omega))).lt k hk
      have hbr : ∀ t ∈ vs, ∀ k, t.ownBlock = some k → mid ≤ k := by
        intro t ht' k hk
        obtain ⟨i, hi', rfl⟩ := List.getElem_of_mem ht'
        exact ((hR.row i vs[i] (xss[i]'(by omega)) (List.getElem?_eq_getElem hi') (List.getElem?_eq_getElem (by omega))).row.lt k hk).1
      have ho2 : OwnR w' lo w'.heap.size v' (vs ++ us) (xss ++ yss) := by
        refine hR0.appended (hi2 := mid) hl2 (fun i t xs a b => hS.row i t xs a b) hS.sep ?_ ?_ (ownsRow_mono hown hlo) hg2
        · intro u' hu' t ht'
          unfold apartV
          cases hob : u'.ownBlock with
          | none => exact Or.inl rfl
          | some k =>
            right
            intro e
            have l1 := hbr u' hu' k hob
            have l2 := hbs t ht' k e.symm
            omega
        · intro t ht'
          cases hob : t.ownBlock with
          | none => exact Or.inl rfl
          | some k =>
            right
            intro e
            have l1 := hbs t ht' k hob
            have l2 := (hR.top.row.lt k e.symm).1
            omega
      obtain ⟨ao, g2, cap2, e, -, -, -⟩ := ho2.rows
      rw [List.length_append] at e
      subst e
      refine h ao _ cap2 w' _ rfl ho2 ((Below.refl _ _).grown hg2 hmid fun k hk => (hR.top.row.lt k hk).1) ?_
      have := hg2.size; omega
theorem wp_app_pairF {o : Oper} {a : Act} {K : Act → World → Prop} {Q : Exit → Act → World → Prop} (s x : Operand)
    (ho : o.op = .call { callee := .builtin .append, args := #[s, x], argTypes := #[28, 28] })
    (wr : World) (p q : Int) (lo : Nat) (v : Value) (vs : List Value) (xss : List (List Int)) (hR : OwnR wr lo wr.heap.size v vs xss) (hlo : lo ≤ wr.heap.size) (hlen : xss.length ≤ 100000)
    (hs : a.eval s = .slice (some ⟨wr.heap.size + 1, 0, none⟩) 1 1) (hx : a.eval x = v)
    (h : ∀ ao L cap w' vs', Hid (L = 1 + xss.length) → OwnR w' lo w'.heap.size (.slice ao L cap) vs' ([p, q] :: xss) → Below wr.heap.size wr w' → K (a.put o.dst (.slice ao L cap)) w') :
    o.wp Try.prog a ((wr.alloc (.cells #[.int .i64 p, .int .i64 q] 3)).alloc (.cells #[.slice (some ⟨wr.heap.size, 0, none⟩) 2 2] 22)) K Q := by
  have h1 : OwnI (wr.alloc (.cells #[.int .i64 p, .int .i64 q] 3)) wr.heap.size (wr.alloc (.cells #[.int .i64 p, .int .i64 q] 3)).heap.size (.slice (some ⟨wr.heap.size, 0, none⟩) 2 2) [p, q] := Own.mono (ownI_pair wr p q) (Nat.le_refl _) (by simp)
  have hb1 : Below wr.heap.size wr (wr.alloc (.cells #[.int .i64 p, .int .i64 q] 3)) := (Below.refl _ _).alloc (Nat.le_refl _) _
  have hz : (wr.alloc (.cells #[.int .i64 p, .int .i64 q] 3)).heap.size = wr.heap.size + 1 := by simp
  have h2 := ownR_one h1 (by omega)
  rw [hz] at h2
  have hb2 : Below wr.heap.size wr ((wr.alloc (.cells #[.int .i64 p, .int .i64 q] 3)).alloc (.cells #[.slice (some ⟨wr.heap.size, 0, none⟩) 2 2] 22)) := hb1.alloc (by omega) _
  have hold : OwnR ((wr.alloc (.cells #[.int .i64 p, .int .i64 q] 3)).alloc (.cells #[.slice (some ⟨wr.heap.size, 0, none⟩) 2 2] 22)) lo wr.heap.size v vs xss := hR.below hb2 (Nat.le_refl _)
  refine wp_app_rowsR s x ho _ lo wr.heap.size _ v _ vs [[p, q]] xss h2 hold hlo (by simp; omega) (by simp; omega) hs hx ?_
  intro ao L cap w' vs' h3 h4 h5 h6
  exact h ao L cap w' vs' h3 h4 (hb2.trans h5)

end Go.Proofs.Ytiodolbgapjmkaa
