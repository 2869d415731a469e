/- The plain law of FnStandard, second part: primitive networks need one list; a wire can be cut out of a network that sorts. Conditions: at most eight wires. -/
import Derived.Test.YtiodolbgapjmkaaPStd
import Derived.Test.YtiodolbgapjmkaaParts
namespace Go.Proofs.Ytiodolbgapjmkaa
open Go.RowKit
set_option maxRecDepth 100000
set_option linter.unusedVariables false
set_option linter.unusedSimpArgs false

/- Primitive networks. -/
/-- How many ones the first j wires have. -/
def pcx (m j : Nat) : Nat := popc (m % 2 ^ j)
theorem pcx_step (m i j : Nat) (hm : m < 256) (hi : i < 7) (hj : j < 9) : pcx (stp m i (i + 1)) j = if j = i + 1 then max (pcx m i) (pcx m (i + 2) - 1) else pcx m j := by
  have : ∀ m < 256, ∀ i < 7, ∀ j < 9, pcx (stp m i (i + 1)) j = if j = i + 1 then max (pcx m i) (pcx m (i + 2) - 1) else pcx m j := by decide +kernel
  exact this m hm i hi j hj
theorem pcx_top (m j : Nat) (hm : m < 256) (hj : j < 9) : pcx m j ≤ pcx (2 ^ popc m - 1) j := by
  have : ∀ m < 256, ∀ j < 9, pcx m j ≤ pcx (2 ^ popc m - 1) j := by decide +kernel
  exact this m hm j hj
theorem pcx_srt (n m j : Nat) (hn : n < 9) (hm : m < 2 ^ n) (hj : j < 9) : pcx (srt n m) j ≤ pcx m j := by
  have : ∀ n < 9, ∀ m < 2 ^ n, ∀ j < 9, pcx (srt n m) j ≤ pcx m j := by decide +kernel
  exact this n hn m hm j hj
theorem pcx_same (n m : Nat) (hn : n < 9) (hm : m < 2 ^ n) (h : ∀ j < 9, pcx m j = pcx (srt n m) j) : m = srt n m := by
  have : ∀ n < 9, ∀ m < 2 ^ n, (∀ j < 9, pcx m j = pcx (srt n m) j) → m = srt n m := by decide +kernel
  exact this n hn m hm h
theorem prim_pair {n : Nat} {xss : List (List Int)} (hP : pairsOf n xss) (h : primB xss = true) {p : List Int} (hp : p ∈ xss) : ∃ i : Nat, p = [(i : Int), ((i + 1 : Nat) : Int)] ∧ i + 1 < n := by
  unfold primB stdB at h
  simp only [Bool.and_eq_true, Bool.not_eq_true', List.any_eq_false] at h
  obtain ⟨i, j, rfl, hi, hj, hne⟩ := pairsOf_mem hP hp
  have := h.2 _ hp
  simp [farP] at this
  exact ⟨i, by simp [this], by omega⟩
theorem prim_dom {n : Nat} (hn : n ≤ 8) : ∀ {xss : List (List Int)}, (∀ p ∈ xss, ∃ i : Nat, p = [(i : Int), ((i + 1 : Nat) : Int)] ∧ i + 1 < n) → ∀ a b, a < 256 → b < 256 → (∀ j < 9, pcx a j ≤ pcx b j) → ∀ j < 9, pcx (bitsP xss a) j ≤ pcx (bitsP xss b) j
  | [], _, a, b, _, _, h => h
  | p :: r, hp, a, b, ha, hb, h => by
    obtain ⟨i, rfl, hi⟩ := hp _ (List.mem_cons_self ..)
    have e : ∀ m, bitsP ([(i : Int), ((i + 1 : Nat) : Int)] :: r) m = bitsP r (stp m i (i + 1)) := fun m => by simp [bitsP]
    rw [e, e]
    refine prim_dom hn (fun p hq => hp p (by simp [hq])) _ _ (stp_lt _ _ _ ha (by omega) (by omega)) (stp_lt _ _ _ hb (by omega) (by omega)) fun j hj => ?_
    rw [pcx_step a i j ha (by omega) hj, pcx_step b i j hb (by omega) hj]
    split
    · have := h i (by omega)
      have := h (i + 2) (by omega)
      omega
    · exact h j hj
/-- The numbers below n, falling. -/
def dnL (n : Nat) : List Int := (List.range n).map fun k : Nat => (n : Int) - 1 - k
theorem dnL_len (n : Nat) : (dnL n).length = n := by simp [dnL]
theorem dnL_getD (n k : Nat) (h : k < n) : (dnL n).getD k 0 = (n : Int) - 1 - k := by simp [dnL, h]
theorem thr_dnL (n c : Nat) (hc : c ≤ n) : thr ((n : Int) - c) (dnL n) = 2 ^ c - 1 := by
  apply mask_ext
  intro k
  rw [thr_bit, dnL_len, bit_test, Nat.testBit_two_pow_sub_one]
  by_cases h : k < c
  · rw [dnL_getD n k (by omega), if_pos ⟨by omega, by omega⟩]; simp [h]
  · by_cases hk : k < n
    · rw [dnL_getD n k hk, if_neg (by omega)]; simp [h]
    · rw [if_neg (by omega)]; simp [h]
/-- A primitive network sorts exactly if it sorts the falling list. -/
theorem prim_sorts {n : Nat} {xss : List (List Int)} (hok : netOk n xss = true) (hp : primB xss = true) : sortsR n xss = risesB (applyP xss (dnL n)) := by
  have hP := pairsOf_of_ok hok
  have h8 : n ≤ 8 := by have := (netOk_n hok).2; omega
  rw [Bool.eq_iff_iff]
  constructor
  · intro h; exact (sorts_iff hok).1 h _ (dnL_len n)
  intro h
  have hpr : ∀ p ∈ xss, ∃ i : Nat, p = [(i : Int), ((i + 1 : Nat) : Int)] ∧ i + 1 < n := fun p hq => prim_pair hP hp hq
  unfold sortsR
  rw [hok, Bool.true_and, Int.toNat_natCast, allB_iffS]
  intro m hm
  simp only [sortB, beq_iff_eq]
  have h256 := pow_le_256 n h8
  have hc := popc_lt n m h8 hm
  have hpo := popc_ones (popc m) (by omega)
  have h2c : 2 ^ popc m - 1 < 2 ^ n := by
    have : 2 ^ popc m ≤ 2 ^ n := Nat.pow_le_pow_right (by omega) hc
    have : 0 < 2 ^ popc m := Nat.pow_pos (by omega)
    omega
  have t1 := thr_apply ((n : Int) - popc m) hP (dnL n) (dnL_len n) h8
  have t2 := thr_srt (a := applyP xss (dnL n)) (by rw [applyP_len, dnL_len]; exact h8) h ((n : Int) - popc m)
  rw [t1, applyP_len, dnL_len, thr_dnL n _ hc] at t2
  have b1 := bitsP_lt' hok hm
  have b2 := bitsP_lt' hok h2c
  have es : srt n (bitsP xss (2 ^ popc m - 1)) = srt n (bitsP xss m) := by unfold srt; rw [b2.2, hpo.1, b1.2]
  rw [es] at t2
  have hd := prim_dom h8 hpr m (2 ^ popc m - 1) (by omega) hpo.2 fun j hj => pcx_top m j (by omega) hj
  have hfin := pcx_same n (bitsP xss m) (by omega) b1.1 fun j hj => by
    have q1 := hd j hj
    rw [t2] at q1
    have q2 := pcx_srt n (bitsP xss m) j (by omega) b1.1 hj
    omega
  rw [hfin]
  unfold srt
  rw [b1.2]

/- A wire is cut out. -/
def cutStp (most : Bool) (s : List Int × Nat × List (List Int)) (i k : Nat) : List Int × Nat × List (List Int) :=
  if i ≠ s.2.1 ∧ k ≠ s.2.1 then (s.1, s.2.1, s.2.2 ++ [[s.1.getD i 0, s.1.getD k 0]])
  else if (if most then k else i) ≠ s.2.1 then ((s.1.set i (s.1.getD k 0)).set k (s.1.getD i 0), (if most then k else i), s.2.2) else s
def cutX (most : Bool) (n w : Nat) (xss : List (List Int)) : List Int × Nat × List (List Int) := xss.foldl (fun s p => cutStp most s (p.getD 0 0).toNat (p.getD 1 0).toNat) (upI 0 n, w, [])
theorem cutX_snoc (most : Bool) (n w : Nat) (xss : List (List Int)) (i k : Nat) : cutX most n w (xss ++ [[(i : Int), (k : Int)]]) = cutStp most (cutX most n w xss) i k := by
  unfold cutX; rw [List.foldl_append]; simp
/-- What the cut keeps: an order of the wires, the special wire, comparators that do not touch the special value. -/
structure CutP (n w : Nat) (s : List Int × Nat × List (List Int)) : Prop where
  perm : permP n s.1
  sp : s.2.1 < n
  at_sp : s.1.getD s.2.1 0 = (w : Int)
  kept : ∀ r ∈ s.2.2, ∃ a b : Nat, r = [(a : Int), (b : Int)] ∧ a < n ∧ b < n ∧ a ≠ b ∧ a ≠ w ∧ b ≠ w
theorem cutP_start {n w : Nat} (hw : w < n) : CutP n w (upI 0 n, w, []) := ⟨permP_up n, hw, upI_getD n w hw, by simp⟩
theorem cutP_step {n w : Nat} {s : List Int × Nat × List (List Int)} (h : CutP n w s) (most : Bool) {i k : Nat} (hi : i < n) (hk : k < n) (hne : i ≠ k) : CutP n w (cutStp most s i k) := by
  obtain ⟨h1, h2, h3, h4⟩ := h
  unfold cutStp
  by_cases hc : i ≠ s.2.1 ∧ k ≠ s.2.1
  · rw [if_pos hc]
    refine ⟨h1, h2, h3, fun r hr => ?_⟩
    rcases List.mem_append.1 hr with hr | hr
    · exact h4 r hr
    · rw [List.mem_singleton] at hr
      subst hr
      have a1 := h1.2.1 i hi
      have a2 := h1.2.1 k hk
      have a3 := h1.2.2 i k hi hk hne
      have a4 := h1.2.2 i _ hi h2 hc.1
      have a5 := h1.2.2 k _ hk h2 hc.2
      refine ⟨(s.1.getD i 0).toNat, (s.1.getD k 0).toNat, ?_, by omega, by omega, by omega, by omega, by omega⟩
      rw [Int.toNat_of_nonneg a1.1, Int.toNat_of_nonneg a2.1]
  · rw [if_neg hc]
    by_cases ht : (if most then k else i) ≠ s.2.1
    · rw [if_pos ht]
      have e := fun t => swap_getD s.1 i k t (by rw [h1.1]; exact hi) (by rw [h1.1]; exact hk) hne
      refine ⟨permP_swap h1 hi hk hne, ?_, ?_, h4⟩
      · show (if most then k else i) < n
        split <;> assumption
      · show ((s.1.set i (s.1.getD k 0)).set k (s.1.getD i 0)).getD (if most then k else i) 0 = _
        rw [e]
        cases most
        · simp only [Bool.false_eq_true, if_false, if_true] at ht ⊢
          have : k = s.2.1 := by omega
          rw [this]; exact h3
        · simp only [if_true] at ht ⊢
          rw [if_neg (Ne.symm hne)]
          have : i = s.2.1 := by omega
          rw [this]; exact h3
    · rw [if_neg ht]
      exact ⟨h1, h2, h3, h4⟩
theorem cutX_take {most : Bool} {n w : Nat} {xss : List (List Int)} {k : Nat} (hk : k < xss.length) {i j : Nat} (hr : xss.getD k [] = [(i : Int), (j : Int)]) : cutX most n w (xss.take (k + 1)) = cutStp most (cutX most n w (xss.take k)) i j := by
  rw [take_snoc_getD [] hk, hr, cutX_snoc]
theorem cutX_p {most : Bool} {n w : Nat} {xss : List (List Int)} (hP : pairsOf n xss) (hw : w < n) : ∀ k, k ≤ xss.length → CutP n w (cutX most n w (xss.take k)) := by
  intro k
  induction k with
  | zero => intro _; exact cutP_start hw
  | succ k ih =>
    intro hk
    obtain ⟨i, j, hr, hi, hj, hne⟩ := hP k (by omega)
    rw [cutX_take (by omega) hr]
    exact cutP_step (ih (by omega)) most hi hj hne
theorem cutX_len {most : Bool} {n w : Nat} {xss : List (List Int)} : ∀ k, (cutX most n w (xss.take k)).2.2.length ≤ k := by
  intro k
  have : ∀ (yss : List (List Int)), (cutX most n w yss).2.2.length ≤ yss.length := by
    intro yss
    have key : ∀ (zss : List (List Int)) (s : List Int × Nat × List (List Int)), (zss.foldl (fun s p => cutStp most s (p.getD 0 0).toNat (p.getD 1 0).toNat) s).2.2.length ≤ s.2.2.length + zss.length := by
      intro zss
      induction zss with
      | nil => intro s; simp
      | cons p zss ih =>
        intro s
        rw [List.foldl_cons]
        have h1 := ih (cutStp most s (p.getD 0 0).toNat (p.getD 1 0).toNat)
        have h2 : (cutStp most s (p.getD 0 0).toNat (p.getD 1 0).toNat).2.2.length ≤ s.2.2.length + 1 := by
          unfold cutStp
          generalize (if most then (p.getD 1 0).toNat else (p.getD 0 0).toNat) = q
          split
          · simp
          · split
            · exact Nat.le_succ _
            · exact Nat.le_succ _
        rw [List.length_cons]
        omega
    have := key yss (upI 0 n, w, [])
    simpa [cutX] using this
  have := this (xss.take k)
  rw [List.length_take] at this
  omega
theorem kept_same {n w : Nat} : ∀ {ks : List (List Int)}, (∀ r ∈ ks, ∃ a b : Nat, r = [(a : Int), (b : Int)] ∧ a < n ∧ b < n ∧ a ≠ b ∧ a ≠ w ∧ b ≠ w) → ∀ l : List Int, l.length = n → (applyP ks l).getD w 0 = l.getD w 0
  | [], _, l, _ => rfl
  | p :: r, h, l, hl => by
    obtain ⟨a, b, rfl, ha, hb, hne, h1, h2⟩ := h p (List.mem_cons_self ..)
    show (applyP r (cmpx [(a : Int), (b : Int)] l)).getD w 0 = _
    rw [kept_same (fun r hr => h r (by simp [hr])) _ (by rw [cmpx_len, hl]), cmpx_getD' _ _ _ _ (by omega) (by omega) hne, if_neg (Ne.symm h2), if_neg (Ne.symm h1)]
/-- The comparators that are kept do on the values what all do on the wires, where the special value is a bound. -/
theorem cutX_apply {most : Bool} {n w : Nat} {xss : List (List Int)} (hP : pairsOf n xss) (hup : ∀ r ∈ xss, r.getD 0 0 < r.getD 1 0) (hw : w < n) (l : List Int) (hl : l.length = n) (hM : ∀ x ∈ l, if most then x ≤ l.getD w 0 else l.getD w 0 ≤ x) :
    ∀ k, k ≤ xss.length → gathS (cutX most n w (xss.take k)).1 (applyP (cutX most n w (xss.take k)).2.2 l) = applyP (xss.take k) l := by
  intro k
  induction k with
  | zero =>
    intro _
    show gathS (upI 0 n) l = l
    refine getD_ext (by rw [gathS_len, upI_length, hl]) fun t ht => ?_
    rw [gathS_len, upI_length] at ht
    rw [gathS_getD _ _ _ (by rw [upI_length]; exact ht), upI_getD n t ht, Int.toNat_natCast]
  | succ k ih =>
    intro hk
    obtain ⟨i, j, hr, hi, hj, hne⟩ := hP k (by omega)
    have hij : i < j := by
      have := hup (xss.getD k []) (by rw [List.getD_eq_getElem?_getD, List.getElem?_eq_getElem (by omega)]; exact List.getElem_mem _)
      rw [hr] at this
      simpa using this
    have hc := cutX_p (most := most) hP hw k (by omega)
    have ih := ih (by omega)
    have hpm := applyP_perm (xss := xss.take k) (n := n) (fun t ht => by
      rw [List.length_take] at ht
      obtain ⟨a, b, e, q⟩ := hP t (by omega)
      exact ⟨a, b, by rw [List.getD_eq_getElem?_getD, List.getElem?_take, if_pos (by omega), ← List.getD_eq_getElem?_getD]; exact e, q⟩) l hl
    rw [cutX_take (by omega) hr, take_snoc_getD [] (by omega), applyP_snoc, hr, ← ih]
    have hB : ∀ t, t < n → if most then (gathS (cutX most n w (xss.take k)).1 (applyP (cutX most n w (xss.take k)).2.2 l)).getD t 0 ≤ l.getD w 0 else l.getD w 0 ≤ (gathS (cutX most n w (xss.take k)).1 (applyP (cutX most n w (xss.take k)).2.2 l)).getD t 0 := by
      intro t ht
      rw [ih]
      refine hM _ (hpm.mem_iff.1 ?_)
      rw [List.getD_eq_getElem?_getD, List.getElem?_eq_getElem (by rw [applyP_len]; omega)]
      exact List.getElem_mem _
    clear ih hpm
    generalize cutX most n w (xss.take k) = s at hc hB ⊢
    obtain ⟨at_, sp, ks⟩ := s
    obtain ⟨h1, h2, h3, h4⟩ := hc
    have hS : (gathS at_ (applyP ks l)).getD sp 0 = l.getD w 0 := by
      show _ = _
      rw [gathS_getD _ _ _ (by rw [h1.1]; exact h2)]
      show (applyP ks l).getD (at_.getD sp 0).toNat 0 = _
      rw [show at_.getD sp 0 = (w : Int) from h3, Int.toNat_natCast]
      exact kept_same h4 l hl
    simp only at h1 h2 hB hS ⊢
    unfold cutStp
    by_cases hcc : i ≠ sp ∧ j ≠ sp
    · rw [if_pos hcc]
      have a1 := h1.2.1 i hi
      have a2 := h1.2.1 j hj
      obtain ⟨a, ha⟩ : ∃ a : Nat, at_.getD i 0 = (a : Int) := ⟨(at_.getD i 0).toNat, by omega⟩
      obtain ⟨b, hb⟩ : ∃ b : Nat, at_.getD j 0 = (b : Int) := ⟨(at_.getD j 0).toNat, by omega⟩
      show gathS at_ (applyP (ks ++ [[at_.getD i 0, at_.getD j 0]]) l) = _
      rw [applyP_snoc, ha, hb, gathS_cmpx h1 (by rw [applyP_len, hl]) hi hj hne ha hb]
    · rw [if_neg hcc]
      have hBi := hB i hi
      have hBj := hB j hj
      have hlen : (gathS at_ (applyP ks l)).length = n := by rw [gathS_len, h1.1]
      have swp : gathS ((at_.set i (at_.getD j 0)).set j (at_.getD i 0)) (applyP ks l) = ((gathS at_ (applyP ks l)).set i ((gathS at_ (applyP ks l)).getD j 0)).set j ((gathS at_ (applyP ks l)).getD i 0) := by
        refine getD_ext (by simp [gathS_len]) fun t ht => ?_
        have ht2 : t < n := by simpa [gathS_len, h1.1] using ht
        rw [gathS_getD _ _ _ (by simp [h1.1]; exact ht2), swap_getD _ _ _ _ (by rw [h1.1]; exact hi) (by rw [h1.1]; exact hj) hne, swap_getD _ _ _ _ (by omega) (by omega) hne,
          gathS_getD _ _ i (by rw [h1.1]; exact hi), gathS_getD _ _ j (by rw [h1.1]; exact hj), gathS_getD _ _ t (by rw [h1.1]; exact ht2)]
        split
        · rfl
        · split <;> rfl
      by_cases ht : (if most then j else i) ≠ sp
      · rw [if_pos ht]
        show gathS ((at_.set i (at_.getD j 0)).set j (at_.getD i 0)) (applyP ks l) = _
        rw [swp]
        refine getD_ext (by simp [cmpx_len]) fun t ht3 => ?_
        rw [swap_getD _ _ _ _ (by omega) (by omega) hne, cmpx_getD' _ _ _ _ (by omega) (by omega) hne]
        cases most
        · simp only [Bool.false_eq_true, if_false] at ht hBi hBj
          have : j = sp := by omega
          subst this
          rw [hS]
          by_cases q1 : t = i
          · rw [if_pos q1, if_neg (by omega), if_pos q1]; omega
          · rw [if_neg q1]
            by_cases q2 : t = j
            · rw [if_pos q2, if_pos q2]; omega
            · rw [if_neg q2, if_neg q2, if_neg q1]
        · simp only [if_true] at ht hBi hBj
          have : i = sp := by omega
          subst this
          rw [hS]
          by_cases q1 : t = i
          · rw [if_pos q1, if_neg (by omega), if_pos q1]; omega
          · rw [if_neg q1]
            by_cases q2 : t = j
            · rw [if_pos q2, if_pos q2]; omega
            · rw [if_neg q2, if_neg q2, if_neg q1]
      · rw [if_neg ht]
        show gathS at_ (applyP ks l) = _
        refine (cmpx_fix (by omega) (by omega) hne ?_).symm
        cases most
        · simp only [Bool.false_eq_true, if_false, ne_eq, Decidable.not_not] at ht hBj
          rw [ht, hS]; exact hBj
        · simp only [if_true, ne_eq, Decidable.not_not] at ht hBi
          rw [ht, hS]; exact hBi
/-- Where a wire's number goes that is not the special one. -/
def posn (sp k : Nat) : Nat := if k < sp then k else k - 1
/-- The network without the wire: the comparators kept, by their wires' new names. -/
def cutN (nm : List Int) (ks : List (List Int)) : List (List Int) := ks.map fun p => [nm.getD (p.getD 0 0).toNat 0, nm.getD (p.getD 1 0).toNat 0]
theorem cutN_len (nm : List Int) (ks : List (List Int)) : (cutN nm ks).length = ks.length := by simp [cutN]
/-- New names: each wire's number but the special one's, in order. -/
def nmP (n : Nat) (s : List Int × Nat × List (List Int)) (nm : List Int) : Prop := nm.length = n ∧ ∀ k, k < n → k ≠ s.2.1 → nm.getD (s.1.getD k 0).toNat 0 = (posn s.2.1 k : Int)
theorem nodup_leS {α : Type} [DecidableEq α] : ∀ (l m : List α), l.Nodup → (∀ x ∈ l, x ∈ m) → l.length ≤ m.length
  | [], m, _, _ => Nat.zero_le _
  | a :: l, m, hn, hs => by
    have ha := hs a (by simp)
    rw [List.nodup_cons] at hn
    have := nodup_leS l (m.erase a) hn.2 fun x hx => (List.mem_erase_of_ne (fun e => hn.1 (by rw [← e]; exact hx))).2 (hs x (by simp [hx]))
    rw [List.length_erase_of_mem ha] at this
    have := List.length_pos_of_mem ha
    rw [List.length_cons]
    omega
theorem perm_onto {n : Nat} {ns : List Int} (h : permP n ns) (x : Nat) (hx : x < n) : ∃ k, k < n ∧ ns.getD k 0 = (x : Int) := by
  have hnd : ns.Nodup := by
    rw [List.nodup_iff_pairwise_ne, List.pairwise_iff_getElem]
    intro i j hi hj hij e
    refine h.2.2 i j (by rw [← h.1]; exact hi) (by rw [← h.1]; exact hj) (by omega) ?_
    simpa [List.getD, hi, hj] using e
  have hsub : ∀ y ∈ ns, y ∈ upI 0 n := by
    intro y hy
    obtain ⟨k, hk, rfl⟩ := List.getElem_of_mem hy
    have := h.2.1 k (by rw [← h.1]; exact hk)
    simp [List.getD, hk] at this
    unfold upI
    exact List.mem_map.2 ⟨(ns[k]).toNat, by rw [List.mem_range]; omega, by omega⟩
  have hm : (x : Int) ∈ ns := by
    refine Decidable.byContradiction fun hno => ?_
    have hxm : (x : Int) ∈ upI 0 n := List.mem_map.2 ⟨x, by simpa using hx, by simp⟩
    have := nodup_leS ns ((upI 0 n).erase x) hnd fun y hy => (List.mem_erase_of_ne (fun e => hno (by rw [← e]; exact hy))).2 (hsub y hy)
    rw [List.length_erase_of_mem hxm, upI_length, h.1] at this
    omega
  obtain ⟨k, hk, e⟩ := List.getElem_of_mem hm
  exact ⟨k, by rw [← h.1]; exact hk, by simp [List.getD, hk, e]⟩
theorem posn_lt {n sp k : Nat} (hk : k < n) (hne : k ≠ sp) (hsp : sp < n) : posn sp k < n - 1 := by unfold posn; split <;> omega
theorem posn_inj {sp k q : Nat} (h1 : k ≠ sp) (h2 : q ≠ sp) (h : posn sp k = posn sp q) : k = q := by unfold posn at h; split at h <;> split at h <;> omega
theorem nm_kept {n w : Nat} {s : List Int × Nat × List (List Int)} {nm : List Int} (hc : CutP n w s) (hn : nmP n s nm) {x : Nat} (hx : x < n) (hxw : x ≠ w) : ∃ k, k < n ∧ k ≠ s.2.1 ∧ s.1.getD k 0 = (x : Int) ∧ nm.getD x 0 = (posn s.2.1 k : Int) := by
  obtain ⟨k, hk, e⟩ := perm_onto hc.perm x hx
  have hks : k ≠ s.2.1 := fun q => hxw (by have := hc.at_sp; rw [← q, e] at this; omega)
  have := hn.2 k hk hks
  rw [e, Int.toNat_natCast] at this
  exact ⟨k, hk, hks, e, this⟩
theorem cutN_up {n w : Nat} {s : List Int × Nat × List (List Int)} {nm : List Int} (hc : CutP n w s) (hn : nmP n s nm) : pairUp (n - 1) false (cutN nm s.2.2) := by
  intro r hr
  obtain ⟨p, hp, rfl⟩ := List.mem_map.1 hr
  obtain ⟨a, b, rfl, ha, hb, hne, haw, hbw⟩ := hc.kept p hp
  obtain ⟨k, hk, hks, e1, e2⟩ := nm_kept hc hn ha haw
  obtain ⟨q, hq, hqs, e3, e4⟩ := nm_kept hc hn hb hbw
  refine ⟨posn s.2.1 k, posn s.2.1 q, ?_, posn_lt hk hks hc.sp, posn_lt hq hqs hc.sp, fun e => ?_, fun h => by cases h⟩
  · simp only [List.getD_cons_zero, List.getD_cons_succ, Int.toNat_natCast, e2, e4]
  · have := posn_inj hks hqs e
    subst this
    rw [e1] at e3
    omega
/-- The names with the special value's last. -/
theorem cutN_apply {n w : Nat} {s : List Int × Nat × List (List Int)} {nm : List Int} (hc : CutP n w s) (hn : nmP n s nm) (hw : w < n) : ∀ (ks : List (List Int)), (∀ r ∈ ks, r ∈ s.2.2) → ∀ (u l : List Int), u.length = n - 1 → l.length = n →
    (∀ x, x < n → x ≠ w → l.getD x 0 = u.getD (nm.getD x 0).toNat 0) → ∀ x, x < n → x ≠ w → (applyP ks l).getD x 0 = (applyP (cutN nm ks) u).getD (nm.getD x 0).toNat 0
  | [], _, u, l, _, _, h => h
  | p :: r, hk, u, l, hu, hl, h => by
    obtain ⟨a, b, rfl, ha, hb, hne, haw, hbw⟩ := hc.kept p (hk _ (List.mem_cons_self ..))
    obtain ⟨ka, hka, hkas, ea, ea2⟩ := nm_kept hc hn ha haw
    obtain ⟨kb, hkb, hkbs, eb, eb2⟩ := nm_kept hc hn hb hbw
    have la := posn_lt hka hkas hc.sp
    have lb := posn_lt hkb hkbs hc.sp
    have hpne : posn s.2.1 ka ≠ posn s.2.1 kb := fun e => by
      have := posn_inj hkas hkbs e
      subst this
      rw [ea] at eb
      omega
    have e0 : cutN nm ([(a : Int), (b : Int)] :: r) = [(posn s.2.1 ka : Int), (posn s.2.1 kb : Int)] :: cutN nm r := by
      simp only [cutN, List.map_cons, List.getD_cons_zero, List.getD_cons_succ, Int.toNat_natCast, ea2, eb2]
    rw [e0]
    refine cutN_apply hc hn hw r (fun r hr => hk r (by simp [hr])) (cmpx [(posn s.2.1 ka : Int), (posn s.2.1 kb : Int)] u) (cmpx [(a : Int), (b : Int)] l) (by rw [cmpx_len, hu]) (by rw [cmpx_len, hl]) ?_
    intro x hx hxw
    obtain ⟨kx, hkx, hkxs, ex, ex2⟩ := nm_kept hc hn hx hxw
    rw [cmpx_getD' _ _ _ _ (by omega) (by omega) hne, ex2, Int.toNat_natCast, cmpx_getD' _ _ _ _ (by omega) (by omega) hpne]
    have ha2 := h a ha haw
    have hb2 := h b hb hbw
    have hx2 := h x hx hxw
    rw [ea2, Int.toNat_natCast] at ha2
    rw [eb2, Int.toNat_natCast] at hb2
    rw [ex2, Int.toNat_natCast] at hx2
    rw [← ha2, ← hb2, ← hx2]
    by_cases q1 : x = b
    · subst q1
      have : posn s.2.1 kx = posn s.2.1 kb := by rw [ex2] at eb2; omega
      rw [if_pos rfl, if_pos this]
    · have : posn s.2.1 kx ≠ posn s.2.1 kb := fun e => q1 (by have := posn_inj hkxs hkbs e; subst this; rw [ex] at eb; omega)
      rw [if_neg q1, if_neg this]
      by_cases q2 : x = a
      · subst q2
        have : posn s.2.1 kx = posn s.2.1 ka := by rw [ex2] at ea2; omega
        rw [if_pos rfl, if_pos this]
      · have : posn s.2.1 kx ≠ posn s.2.1 ka := fun e => q2 (by have := posn_inj hkxs hkas e; subst this; rw [ex] at ea; omega)
        rw [if_neg q2, if_neg this]
/-- A bound of a list. -/
def topL (l : List Int) : Int := l.foldl max 0
def lowL (l : List Int) : Int := l.foldl min 0
theorem topL_le (l : List Int) : ∀ x ∈ l, x ≤ topL l := by
  have : ∀ (l : List Int) (a : Int), a ≤ l.foldl max a ∧ ∀ x ∈ l, x ≤ l.foldl max a := by
    intro l
    induction l with
    | nil => intro a; simp
    | cons y l ih =>
      intro a
      obtain ⟨h1, h2⟩ := ih (max a y)
      rw [List.foldl_cons]
      refine ⟨by omega, fun x hx => ?_⟩
      rcases List.mem_cons.1 hx with rfl | hx
      · omega
      · exact h2 x hx
  exact (this l 0).2
theorem lowL_le (l : List Int) : ∀ x ∈ l, lowL l ≤ x := by
  have : ∀ (l : List Int) (a : Int), l.foldl min a ≤ a ∧ ∀ x ∈ l, l.foldl min a ≤ x := by
    intro l
    induction l with
    | nil => intro a; simp
    | cons y l ih =>
      intro a
      obtain ⟨h1, h2⟩ := ih (min a y)
      rw [List.foldl_cons]
      refine ⟨by omega, fun x hx => ?_⟩
      rcases List.mem_cons.1 hx with rfl | hx
      · omega
      · exact h2 x hx
  exact (this l 0).2
/-- A network that sorts, without one wire, sorts. -/
theorem cut_sorts {most : Bool} {n w : Nat} {xss : List (List Int)} (hok : netOk n xss = true) (hup : ∀ r ∈ xss, r.getD 0 0 < r.getD 1 0) (hs : sortsR n xss = true) (h2 : 2 ≤ n) (hw : w < n) {nm : List Int} (hn : nmP n (cutX most n w xss) nm) :
    netOk ((n - 1 : Nat) : Int) (cutN nm (cutX most n w xss).2.2) = true ∧ sortsR ((n - 1 : Nat) : Int) (cutN nm (cutX most n w xss).2.2) = true := by
  have hP := pairsOf_of_ok hok
  have hc := cutX_p (most := most) hP hw xss.length (Nat.le_refl _)
  have hlen := cutX_len (most := most) (n := n) (w := w) (xss := xss) xss.length
  have hap := fun l hl hM => cutX_apply (most := most) hP hup hw l hl hM xss.length (Nat.le_refl _)
  rw [List.take_length] at hc hlen
  simp only [List.take_length] at hap
  have h60 := netOk_len hok
  have hn8 := (netOk_n hok).2
  have hok2 : netOk ((n - 1 : Nat) : Int) (cutN nm (cutX most n w xss).2.2) = true := netOk_of_pairUp (cutN_up hc hn) (by omega) (by omega) (by rw [cutN_len]; omega)
  refine ⟨hok2, (sorts_iff hok2).2 fun u hu => ?_⟩
  rw [sorts_iff hok] at hs
  generalize cutX most n w xss = s at *
  obtain ⟨M, hM⟩ : ∃ M : Int, ∀ x ∈ u, if most then x ≤ M else M ≤ x := by
    cases most
    · exact ⟨lowL u, fun x hx => by simpa using lowL_le u x hx⟩
    · exact ⟨topL u, fun x hx => by simpa using topL_le u x hx⟩
  obtain ⟨l, hl⟩ : ∃ l, l = (List.range n).map fun x => if x = w then M else u.getD (nm.getD x 0).toNat 0 := ⟨_, rfl⟩
  have hll : l.length = n := by rw [hl]; simp
  have hlg : ∀ x, x < n → l.getD x 0 = if x = w then M else u.getD (nm.getD x 0).toNat 0 := by intro x hx; rw [hl]; simp [hx]
  have hlw : l.getD w 0 = M := by rw [hlg w hw, if_pos rfl]
  have hlM : ∀ x ∈ l, if most then x ≤ l.getD w 0 else l.getD w 0 ≤ x := by
    intro x hx
    rw [hlw]
    rw [hl] at hx
    obtain ⟨k, hk, rfl⟩ := List.mem_map.1 hx
    rw [List.mem_range] at hk
    by_cases hkw : k = w
    · rw [if_pos hkw]; cases most <;> simp
    · rw [if_neg hkw]
      obtain ⟨q, hq, hqs, e1, e2⟩ := nm_kept hc hn hk hkw
      have := posn_lt hq hqs hc.sp
      rw [e2, Int.toNat_natCast]
      refine hM _ ?_
      rw [List.getD_eq_getElem?_getD, List.getElem?_eq_getElem (by omega)]
      exact List.getElem_mem _
  have hB := hs l hll
  rw [← hap l hll hlM] at hB
  have hv := cutN_apply hc hn hw s.2.2 (fun r hr => hr) u l hu hll fun x hx hxw => by rw [hlg x hx, if_neg hxw]
  have key : ∀ q, q < n - 1 → (applyP (cutN nm s.2.2) u).getD q 0 = (gathS s.1 (applyP s.2.2 l)).getD (if q < s.2.1 then q else q + 1) 0 := by
    intro q hq
    obtain ⟨k, hk⟩ : ∃ k, k = if q < s.2.1 then q else q + 1 := ⟨_, rfl⟩
    rw [← hk]
    have hkn : k < n := by rw [hk]; split <;> omega
    have hks : k ≠ s.2.1 := by rw [hk]; split <;> omega
    have hpk : posn s.2.1 k = q := by
      unfold posn
      rw [hk]
      by_cases h9 : q < s.2.1
      · rw [if_pos h9, if_pos h9]
      · rw [if_neg h9, if_neg (by omega)]; omega
    have a1 := hc.perm.2.1 k hkn
    have a2 := hc.perm.2.2 k _ hkn hc.sp hks
    rw [gathS_getD _ _ _ (by rw [hc.perm.1]; exact hkn), hv _ (by omega) (by have := hc.at_sp; omega), hn.2 k hkn hks, Int.toNat_natCast, hpk]
  rw [risesB_iff] at hB ⊢
  rw [gathS_len, hc.perm.1] at hB
  have hmono : ∀ a b, a ≤ b → b < n → (gathS s.1 (applyP s.2.2 l)).getD a 0 ≤ (gathS s.1 (applyP s.2.2 l)).getD b 0 := by
    intro a b hab
    induction b with
    | zero => intro _; rw [show a = 0 by omega]; exact Int.le_refl _
    | succ b ih =>
      intro hb
      by_cases h : a = b + 1
      · rw [h]; exact Int.le_refl _
      · exact Int.le_trans (ih (by omega) (by omega)) (hB b (by omega))
  intro q hq
  rw [applyP_len, hu] at hq
  rw [key q (by omega), key (q + 1) (by omega)]
  refine hmono _ _ ?_ ?_
  · split <;> split <;> omega
  · split <;> omega
theorem set_getD_ne (l : List Int) (w t : Nat) (x : Int) (h : t ≠ w) : (l.set w x).getD t 0 = l.getD t 0 := getD_set_ne' _ _ _ _ (Ne.symm h)
theorem set_getD_eq (l : List Int) (w : Nat) (x : Int) (h : w < l.length) : (l.set w x).getD w 0 = x := by simp [List.getD, h]
/-- A wire that no comparator touches goes through. -/
theorem untouched {n w : Nat} (hw : w < n) : ∀ {xss : List (List Int)}, (∀ r ∈ xss, ∃ a b : Nat, r = [(a : Int), (b : Int)] ∧ a < n ∧ b < n ∧ a ≠ b ∧ a ≠ w ∧ b ≠ w) → ∀ (l : List Int) (x : Int), l.length = n → applyP xss (l.set w x) = (applyP xss l).set w x
  | [], _, l, x, _ => rfl
  | p :: r, h, l, x, hl => by
    obtain ⟨a, b, rfl, ha, hb, hne, h1, h2⟩ := h p (List.mem_cons_self ..)
    show applyP r (cmpx [(a : Int), (b : Int)] (l.set w x)) = (applyP r (cmpx [(a : Int), (b : Int)] l)).set w x
    rw [← untouched hw (fun r hr => h r (by simp [hr])) _ _ (by rw [cmpx_len, hl])]
    congr 1
    refine getD_ext (by simp [cmpx_len]) fun t ht => ?_
    have ht2 : t < n := by simpa [cmpx_len, hl] using ht
    rw [cmpx_getD' _ _ _ _ (by simp; omega) (by simp; omega) hne, set_getD_ne _ _ _ _ h1, set_getD_ne _ _ _ _ h2]
    by_cases q : t = w
    · subst q
      rw [if_neg (Ne.symm h2), if_neg (Ne.symm h1), set_getD_eq _ _ _ (by omega), set_getD_eq _ _ _ (by rw [cmpx_len]; omega)]
    · rw [set_getD_ne _ _ _ _ q, set_getD_ne _ _ _ _ q, cmpx_getD' _ _ _ _ (by omega) (by omega) hne]
theorem cut_all {most : Bool} {n w : Nat} {xss : List (List Int)} (hP : pairsOf n xss) (hw : w < n) : ∀ k, k ≤ xss.length → (cutX most n w (xss.take k)).2.2.length = k → (cutX most n w (xss.take k)).2.1 = w ∧ ∀ r ∈ xss.take k, ∃ a b : Nat, r = [(a : Int), (b : Int)] ∧ a < n ∧ b < n ∧ a ≠ b ∧ a ≠ w ∧ b ≠ w := by
  intro k
  induction k with
  | zero => intro _ _; exact ⟨rfl, by simp⟩
  | succ k ih =>
    intro hk he
    obtain ⟨i, j, hr, hi, hj, hne⟩ := hP k (by omega)
    rw [cutX_take (by omega) hr] at he ⊢
    have hle := cutX_len (most := most) (n := n) (w := w) (xss := xss) k
    have ih := ih (by omega)
    generalize cutX most n w (xss.take k) = s at ih he hle ⊢
    unfold cutStp at he ⊢
    by_cases hc : i ≠ s.2.1 ∧ j ≠ s.2.1
    · rw [if_pos hc] at he ⊢
      simp at he
      obtain ⟨i1, i2⟩ := ih (by omega)
      refine ⟨i1, fun r hr2 => ?_⟩
      rw [take_snoc_getD [] (by omega), hr] at hr2
      rcases List.mem_append.1 hr2 with h | h
      · exact i2 r h
      · rw [List.mem_singleton] at h
        exact ⟨i, j, h, hi, hj, hne, by rw [← i1]; exact hc.1, by rw [← i1]; exact hc.2⟩
    · exfalso
      rw [if_neg hc] at he
      have h9 : ∀ q : Nat, (if q ≠ s.2.1 then ((s.1.set i (s.1.getD j 0)).set j (s.1.getD i 0), q, s.2.2) else s).2.2.length = s.2.2.length := fun q => by split <;> rfl
      rw [h9] at he
      omega
/-- The cut takes at least one comparator of a network that sorts. -/
theorem cut_less {most : Bool} {n w : Nat} {xss : List (List Int)} (hok : netOk n xss = true) (hs : sortsR n xss = true) (h2 : 2 ≤ n) (hw : w < n) : (cutX most n w xss).2.2.length < xss.length := by
  have hP := pairsOf_of_ok hok
  have hlen := cutX_len (most := most) (n := n) (w := w) (xss := xss) xss.length
  have hall := cut_all (most := most) hP hw xss.length (Nat.le_refl _)
  rw [List.take_length] at hlen hall
  by_cases he : (cutX most n w xss).2.2.length = xss.length
  · exfalso
    have hun := (hall he).2
    rw [sorts_iff hok] at hs
    have hz : applyP xss (List.replicate n 0) = List.replicate n 0 := (List.perm_replicate.1 (applyP_perm hP (List.replicate n 0) (by simp)))
    by_cases hwn : w + 1 < n
    · have := hs ((List.replicate n 0).set w 1) (by simp)
      rw [untouched hw hun _ _ (by simp), hz, risesB_iff] at this
      have := this w (by simpa using hwn)
      rw [set_getD_eq _ _ _ (by simpa using hw), set_getD_ne _ _ _ _ (by omega)] at this
      simp [hwn] at this
    · have := hs ((List.replicate n 0).set w (-1)) (by simp)
      rw [untouched hw hun _ _ (by simp), hz, risesB_iff] at this
      have := this (w - 1) (by simp; omega)
      rw [show w - 1 + 1 = w by omega, set_getD_eq _ _ _ (by simpa using hw), set_getD_ne _ _ _ _ (by omega)] at this
      simp [show w - 1 < n by omega] at this
  · omega
end Go.Proofs.Ytiodolbgapjmkaa
