/- The plain law of FnStandard, first part: networks as changes of lists: sorting is sorting lists, standard forms, mirrors, turned networks. Conditions: at most eight wires. -/
import Derived.Test.YtiodolbgapjmkaaThrL
import Derived.Test.YtiodolbgapjmkaaStdS
import Derived.Test.YtiodolbgapjmkaaStdB
import Derived.Test.YtiodolbgapjmkaaIsSorting
namespace Go.Proofs.Ytiodolbgapjmkaa
open Go.RowKit
set_option maxRecDepth 100000
set_option linter.unusedVariables false
set_option linter.unusedSimpArgs false

theorem pairsOf_of_ok {n : Nat} {xss : List (List Int)} (h : netOk n xss = true) : pairsOf n xss := fun k hk => netOk_pair h k hk
theorem pairsOf_of_up {n : Nat} {up : Bool} {xss : List (List Int)} (h : pairUp n up xss) : pairsOf n xss := fun k hk => by
  obtain ⟨a, b, e, h1, h2, h3, -⟩ := h (xss.getD k []) (by rw [List.getD_eq_getElem?_getD, List.getElem?_eq_getElem hk]; exact List.getElem_mem hk)
  exact ⟨a, b, e, h1, h2, h3⟩
theorem getD_ext {a b : List Int} (hl : a.length = b.length) (h : ∀ k, k < a.length → a.getD k 0 = b.getD k 0) : a = b := by
  refine List.ext_getElem hl fun k h1 h2 => ?_
  have := h k h1
  simpa [List.getD, h1, h2] using this
theorem cmpx_getD' (l : List Int) (i j k : Nat) (hi : i < l.length) (hj : j < l.length) (hne : i ≠ j) : (cmpx [(i : Int), (j : Int)] l).getD k 0 = if k = j then max (l.getD i 0) (l.getD j 0) else if k = i then min (l.getD i 0) (l.getD j 0) else l.getD k 0 := by
  have e : cmpx [(i : Int), (j : Int)] l = (l.set i (min (l.getD i 0) (l.getD j 0))).set j (max (l.getD i 0) (l.getD j 0)) := rfl
  rw [e]
  by_cases h : k = j
  · subst h
    rw [if_pos rfl]
    simp [List.getD, hj]
  · rw [if_neg h, getD_set_ne' _ _ _ _ (Ne.symm h)]
    by_cases h2 : k = i
    · subst h2
      rw [if_pos rfl]
      simp [List.getD, hi]
    · rw [if_neg h2, getD_set_ne' _ _ _ _ (Ne.symm h2)]
theorem applyP_snoc (xss : List (List Int)) (p : List Int) (l : List Int) : applyP (xss ++ [p]) l = cmpx p (applyP xss l) := by rw [applyP, List.foldl_append]; rfl
theorem applyP_app (xss yss : List (List Int)) (l : List Int) : applyP (xss ++ yss) l = applyP yss (applyP xss l) := by rw [applyP, List.foldl_append]; rfl
theorem allB_iffS (f : Nat → Bool) (N : Nat) : allB f N = true ↔ ∀ k, k < N → f k = true := by rw [allB, List.all_eq_true]; exact ⟨fun h k hk => h k (List.mem_range.2 hk), fun h k hk => h k (List.mem_range.1 hk)⟩
/-- The list of a mask's bits. -/
def bitsL (n m : Nat) : List Int := (List.range n).map fun k => ((m / 2 ^ k % 2 : Nat) : Int)
theorem bitsL_len (n m : Nat) : (bitsL n m).length = n := by simp [bitsL]
theorem bitsL_getD (n m k : Nat) (h : k < n) : (bitsL n m).getD k 0 = ((m / 2 ^ k % 2 : Nat) : Int) := by simp [bitsL, h]
theorem thr_bitsL {n m : Nat} (hm : m < 2 ^ n) : thr 1 (bitsL n m) = m := by
  apply mask_ext
  intro k
  rw [thr_bit, bitsL_len]
  by_cases hk : k < n
  · rw [bitsL_getD n m k hk]
    by_cases h : m / 2 ^ k % 2 = 0
    · rw [if_neg (by omega), h]
    · rw [if_pos ⟨hk, by omega⟩]; omega
  · rw [if_neg (by omega)]
    have : 2 ^ n ≤ 2 ^ k := Nat.pow_le_pow_right (by omega) (by omega)
    rw [Nat.div_eq_of_lt (by omega)]
/-- A network sorts exactly if it sorts all lists. -/
theorem sorts_iff {n : Nat} {xss : List (List Int)} (hok : netOk n xss = true) : sortsR n xss = true ↔ ∀ l : List Int, l.length = n → risesB (applyP xss l) = true := by
  have h8 := (netOk_n hok).2
  have hP := pairsOf_of_ok hok
  unfold sortsR
  rw [hok, Bool.true_and, Int.toNat_natCast, allB_iffS]
  simp only [sortB, beq_iff_eq]
  refine ⟨fun h l hl => zero_one hP (by omega) h l hl, fun h m hm => ?_⟩
  have h1 := thr_apply 1 hP (bitsL n m) (bitsL_len n m) (by omega)
  rw [thr_bitsL hm] at h1
  have h2 := thr_srt (a := applyP xss (bitsL n m)) (by rw [applyP_len, bitsL_len]; omega) (h _ (bitsL_len n m)) 1
  rw [h1, applyP_len, bitsL_len] at h2
  rw [h2]
  unfold srt
  rw [(bitsP_lt' hok hm).2]
theorem sorts_congr {n : Nat} {xss yss : List (List Int)} (hx : netOk n xss = true) (hy : netOk n yss = true) (h : ∀ l : List Int, l.length = n → applyP xss l = applyP yss l) : sortsR n xss = sortsR n yss := by
  rw [Bool.eq_iff_iff, sorts_iff hx, sorts_iff hy]
  exact ⟨fun q l hl => h l hl ▸ q l hl, fun q l hl => (h l hl).symm ▸ q l hl⟩

/- Standard forms. -/
def gathS (ws l : List Int) : List Int := ws.map fun x => l.getD x.toNat 0
theorem gathS_len (ws l : List Int) : (gathS ws l).length = ws.length := by simp [gathS]
theorem gathS_getD (ws l : List Int) (t : Nat) (h : t < ws.length) : (gathS ws l).getD t 0 = l.getD (ws.getD t 0).toNat 0 := by simp [gathS, List.getD, h]
theorem gathS_cmpx {n : Nat} {ws l : List Int} (h : permP n ws) (hl : l.length = n) {i j a b : Nat} (hi : i < n) (hj : j < n) (hne : i ≠ j) (ha : ws.getD i 0 = a) (hb : ws.getD j 0 = b) :
    gathS ws (cmpx [(a : Int), (b : Int)] l) = cmpx [(i : Int), (j : Int)] (gathS ws l) := by
  obtain ⟨hw, hr, hi2⟩ := h
  have han : a < n := by have := hr i hi; omega
  have hbn : b < n := by have := hr j hj; omega
  have hab : a ≠ b := by have := hi2 i j hi hj hne; omega
  refine getD_ext (by rw [gathS_len, cmpx_len, gathS_len]) fun t ht => ?_
  rw [gathS_len] at ht
  rw [gathS_getD _ _ _ ht, cmpx_getD' _ _ _ _ (by rw [gathS_len]; omega) (by rw [gathS_len]; omega) hne, cmpx_getD' _ _ _ _ (by omega) (by omega) hab, gathS_getD _ _ _ (by omega), gathS_getD _ _ _ (by omega), gathS_getD _ _ _ ht, ha, hb, Int.toNat_natCast, Int.toNat_natCast]
  have ht0 := hr t (by omega)
  by_cases h1 : t = j
  · subst h1
    rw [if_pos (by omega), if_pos rfl]
  · have := hi2 t j (by omega) hj h1
    rw [if_neg (by omega), if_neg h1]
    by_cases h2 : t = i
    · subst h2
      rw [if_pos (by omega), if_pos rfl]
    · have := hi2 t i (by omega) hi h2
      rw [if_neg (by omega), if_neg h2]
theorem gathS_swap {n : Nat} {ws l : List Int} (hw : ws.length = n) {i j : Nat} (hi : i < n) (hj : j < n) (hne : i ≠ j) :
    cmpx [(i : Int), (j : Int)] (gathS ((ws.set i (ws.getD j 0)).set j (ws.getD i 0)) l) = cmpx [(i : Int), (j : Int)] (gathS ws l) := by
  have e := fun k => swap_getD ws i j k (by omega) (by omega) hne
  refine getD_ext (by simp [gathS_len, cmpx_len]) fun t ht => ?_
  have ht2 : t < n := by simpa [gathS_len, cmpx_len, hw] using ht
  rw [cmpx_getD' _ _ _ _ (by simp [gathS_len]; omega) (by simp [gathS_len]; omega) hne, cmpx_getD' _ _ _ _ (by rw [gathS_len]; omega) (by rw [gathS_len]; omega) hne,
    gathS_getD _ _ _ (by simp; omega), gathS_getD _ _ _ (by simp; omega), gathS_getD _ _ _ (by simp; omega), gathS_getD _ _ _ (by omega), gathS_getD _ _ _ (by omega), gathS_getD _ _ _ (by omega), e i, e j, e t]
  rw [if_pos rfl, if_neg (Ne.symm hne), if_pos rfl]
  by_cases h1 : t = j
  · rw [if_pos h1, if_pos h1]; omega
  · rw [if_neg h1, if_neg h1]
    by_cases h2 : t = i
    · rw [if_pos h2, if_pos h2]; omega
    · rw [if_neg h2, if_neg h2, if_neg h2, if_neg h1]
/-- One comparator's step of the standard form: the names of the wires and the comparators so far. -/
def stdNs (ns : List Int) (i j : Nat) : List Int := if ns.getD j 0 < ns.getD i 0 then (ns.set i (ns.getD j 0)).set j (ns.getD i 0) else ns
def stdStp (s : List Int × List (List Int)) (p : List Int) : List Int × List (List Int) :=
  (stdNs s.1 (p.getD 0 0).toNat (p.getD 1 0).toNat, s.2 ++ [[(stdNs s.1 (p.getD 0 0).toNat (p.getD 1 0).toNat).getD (p.getD 0 0).toNat 0, (stdNs s.1 (p.getD 0 0).toNat (p.getD 1 0).toNat).getD (p.getD 1 0).toNat 0]])
def stdX (n : Nat) (xss : List (List Int)) : List Int × List (List Int) := xss.foldl stdStp (upI 0 n, [])
theorem stdNs_perm {n : Nat} {ns : List Int} (h : permP n ns) {i j : Nat} (hi : i < n) (hj : j < n) (hne : i ≠ j) : permP n (stdNs ns i j) := by
  unfold stdNs
  split
  · exact permP_swap h hi hj hne
  · exact h
theorem stdNs_lt {n : Nat} {ns : List Int} (h : permP n ns) {i j : Nat} (hi : i < n) (hj : j < n) (hne : i ≠ j) : (stdNs ns i j).getD i 0 < (stdNs ns i j).getD j 0 := by
  have h3 := h.2.2 i j hi hj hne
  have h1 := h.1
  unfold stdNs
  split
  · rw [swap_getD _ _ _ _ (by omega) (by omega) hne, swap_getD _ _ _ _ (by omega) (by omega) hne, if_pos rfl, if_neg (Ne.symm hne), if_pos rfl]
    assumption
  · omega
theorem stdX_inv {n : Nat} {xss : List (List Int)} (hP : pairsOf n xss) : ∀ k, k ≤ xss.length →
    permP n (stdX n (xss.take k)).1 ∧ pairUp n true (stdX n (xss.take k)).2 ∧ (stdX n (xss.take k)).2.length = k ∧ ∀ l : List Int, l.length = n → gathS (stdX n (xss.take k)).1 (applyP (stdX n (xss.take k)).2 l) = applyP (xss.take k) l := by
  intro k
  induction k with
  | zero =>
    intro _
    refine ⟨permP_up n, pairUp_nil _ _, rfl, fun l hl => ?_⟩
    show gathS (upI 0 n) l = l
    refine getD_ext (by rw [gathS_len, upI_length, hl]) fun t ht => ?_
    rw [gathS_len, upI_length] at ht
    rw [gathS_getD _ _ _ (by rw [upI_length]; exact ht), upI_getD n t ht, Int.toNat_natCast]
  | succ k ih =>
    intro hk
    obtain ⟨i1, i2, i3, i4⟩ := ih (by omega)
    obtain ⟨i, j, hr, hi, hj, hne⟩ := hP k (by omega)
    have e : stdX n (xss.take (k + 1)) = stdStp (stdX n (xss.take k)) [(i : Int), (j : Int)] := by
      rw [take_snoc_getD [] (by omega), hr]; unfold stdX; rw [List.foldl_append]; rfl
    have e2 : stdStp (stdX n (xss.take k)) [(i : Int), (j : Int)] = (stdNs (stdX n (xss.take k)).1 i j, (stdX n (xss.take k)).2 ++ [[(stdNs (stdX n (xss.take k)).1 i j).getD i 0, (stdNs (stdX n (xss.take k)).1 i j).getD j 0]]) := by
      unfold stdStp; simp
    rw [e, e2]
    generalize stdX n (xss.take k) = s at i1 i2 i3 i4 ⊢
    obtain ⟨ns, ys⟩ := s
    simp only at i1 i2 i3 i4 ⊢
    have hp2 := stdNs_perm i1 hi hj hne
    have hlt := stdNs_lt i1 hi hj hne
    obtain ⟨a, ha⟩ : ∃ a : Nat, (stdNs ns i j).getD i 0 = (a : Int) := ⟨((stdNs ns i j).getD i 0).toNat, by have := hp2.2.1 i hi; omega⟩
    obtain ⟨b, hb⟩ : ∃ b : Nat, (stdNs ns i j).getD j 0 = (b : Int) := ⟨((stdNs ns i j).getD j 0).toNat, by have := hp2.2.1 j hj; omega⟩
    have han := hp2.2.1 i hi
    have hbn := hp2.2.1 j hj
    refine ⟨hp2, ?_, by simp [i3], fun l hl => ?_⟩
    · show pairUp n true (ys ++ [[(stdNs ns i j).getD i 0, (stdNs ns i j).getD j 0]])
      rw [ha, hb]
      exact pairUp_snoc i2 (by omega) (by omega) (by omega) (fun _ => by omega)
    · show gathS (stdNs ns i j) (applyP (ys ++ [[(stdNs ns i j).getD i 0, (stdNs ns i j).getD j 0]]) l) = _
      rw [applyP_snoc, ha, hb, gathS_cmpx hp2 (by rw [applyP_len, hl]) hi hj hne ha hb, take_snoc_getD [] (by omega), applyP_snoc, hr, ← i4 l hl]
      show cmpx _ (gathS (stdNs ns i j) (applyP ys l)) = cmpx _ (gathS ns (applyP ys l))
      unfold stdNs
      split
      · exact gathS_swap i1.1 hi hj hne
      · rfl
theorem stdX_facts {n : Nat} {xss : List (List Int)} (hP : pairsOf n xss) : permP n (stdX n xss).1 ∧ pairUp n true (stdX n xss).2 ∧ (stdX n xss).2.length = xss.length ∧ ∀ l : List Int, l.length = n → gathS (stdX n xss).1 (applyP (stdX n xss).2 l) = applyP xss l := by
  have := stdX_inv hP xss.length (Nat.le_refl _)
  rwa [List.take_length] at this
theorem cmpx_fix {l : List Int} {i j : Nat} (hi : i < l.length) (hj : j < l.length) (hne : i ≠ j) (h : l.getD i 0 ≤ l.getD j 0) : cmpx [(i : Int), (j : Int)] l = l := by
  refine getD_ext (cmpx_len _ _) fun t ht => ?_
  rw [cmpx_getD' _ _ _ _ hi hj hne]
  by_cases h1 : t = j
  · subst h1; rw [if_pos rfl]; omega
  · rw [if_neg h1]
    by_cases h2 : t = i
    · subst h2; rw [if_pos rfl]; omega
    · rw [if_neg h2]
theorem up_fix {n : Nat} : ∀ {xss : List (List Int)}, pairUp n true xss → applyP xss (upI 0 n) = upI 0 n
  | [], _ => rfl
  | p :: r, h => by
    obtain ⟨a, b, rfl, ha, hb, hne, hlt⟩ := h p (List.mem_cons_self ..)
    have hlt := hlt rfl
    show applyP r (cmpx [(a : Int), (b : Int)] (upI 0 n)) = _
    rw [cmpx_fix (by rw [upI_length]; exact ha) (by rw [upI_length]; exact hb) hne (by rw [upI_getD n a ha, upI_getD n b hb]; omega)]
    exact up_fix fun r hr => h r (by simp [hr])
theorem rises_upI (n : Nat) : risesB (upI 0 n) = true := by
  rw [risesB_iff]
  intro i hi
  rw [upI_length] at hi
  rw [upI_getD n i (by omega), upI_getD n (i + 1) (by omega)]
  omega
/-- The standard form of a network that sorts sorts. -/
theorem stdX_sorts {n : Nat} {xss : List (List Int)} (hok : netOk n xss = true) (hok2 : netOk n (stdX n xss).2 = true) (hs : sortsR n xss = true) : sortsR n (stdX n xss).2 = true := by
  have hP := pairsOf_of_ok hok
  obtain ⟨h1, h2, h3, h4⟩ := stdX_facts hP
  rw [sorts_iff hok] at hs
  have a1 : applyP xss (upI 0 n) = upI 0 n := by
    have q1 := applyP_perm hP (upI 0 n) (upI_length _ _)
    have q2 := sortI_eq q1 (rises_up.1 (hs _ (upI_length _ _)))
    have q3 := sortI_eq (List.Perm.refl (upI 0 n)) (rises_up.1 (rises_upI n))
    exact q2.symm.trans q3
  have a2 : (stdX n xss).1 = upI 0 n := by
    have q := h4 (upI 0 n) (upI_length _ _)
    rw [a1, up_fix h2] at q
    rw [← q]
    refine getD_ext (by rw [gathS_len]) fun t ht => ?_
    have := h1.2.1 t (by rw [h1.1] at ht; exact ht)
    rw [gathS_getD _ _ _ ht, upI_getD n _ (by omega)]
    omega
  rw [sorts_iff hok2]
  intro l hl
  have q := h4 l hl
  have e : gathS (upI 0 n) (applyP (stdX n xss).2 l) = applyP (stdX n xss).2 l := by
    refine getD_ext (by rw [gathS_len, upI_length, applyP_len, hl]) fun t ht => ?_
    rw [gathS_len, upI_length] at ht
    rw [gathS_getD _ _ _ (by rw [upI_length]; exact ht), upI_getD n t ht, Int.toNat_natCast]
  rw [a2, e] at q
  rw [q]
  exact hs l hl

/- Mirrors. -/
def mirP (n : Nat) (xss : List (List Int)) : List (List Int) := xss.map fun p => [(n : Int) - 1 - p.getD 1 0, (n : Int) - 1 - p.getD 0 0]
theorem mirP_len (n : Nat) (xss : List (List Int)) : (mirP n xss).length = xss.length := by simp [mirP]
theorem pairsOf_mem {n : Nat} {xss : List (List Int)} (h : pairsOf n xss) {p : List Int} (hp : p ∈ xss) : ∃ i j : Nat, p = [(i : Int), (j : Int)] ∧ i < n ∧ j < n ∧ i ≠ j := by
  obtain ⟨k, hk, rfl⟩ := List.getElem_of_mem hp
  have := h k hk
  rwa [List.getD_eq_getElem?_getD, List.getElem?_eq_getElem hk] at this
theorem mirP_up {n : Nat} {xss : List (List Int)} (hP : pairsOf n xss) : pairUp n false (mirP n xss) := by
  intro r hr
  obtain ⟨p, hp, rfl⟩ := List.mem_map.1 hr
  obtain ⟨i, j, rfl, hi, hj, hne⟩ := pairsOf_mem hP hp
  exact ⟨n - 1 - j, n - 1 - i, by simp; omega, by omega, by omega, by omega, fun h => by cases h⟩
theorem mirP_ok {n : Nat} {xss : List (List Int)} (hok : netOk n xss = true) : netOk n (mirP n xss) = true :=
  netOk_of_pairUp (mirP_up (pairsOf_of_ok hok)) (by have := (netOk_n hok).1; omega) (by have := (netOk_n hok).2; omega) (by rw [mirP_len]; exact netOk_len hok)
theorem mirP_twice {n : Nat} {xss : List (List Int)} (hP : pairsOf n xss) : mirP n (mirP n xss) = xss := by
  unfold mirP
  rw [List.map_map]
  have : ∀ p ∈ xss, ((fun p : List Int => [(n : Int) - 1 - p.getD 1 0, (n : Int) - 1 - p.getD 0 0]) ∘ fun p : List Int => [(n : Int) - 1 - p.getD 1 0, (n : Int) - 1 - p.getD 0 0]) p = id p := by
    intro p hp
    obtain ⟨i, j, rfl, hi, hj, hne⟩ := pairsOf_mem hP hp
    simp; omega
  rw [List.map_congr_left this, List.map_id]
/-- A list backwards, its numbers turned. -/
def nrv (l : List Int) : List Int := (l.map fun x => -x).reverse
theorem nrv_len (l : List Int) : (nrv l).length = l.length := by simp [nrv]
theorem nrv_nrv (l : List Int) : nrv (nrv l) = l := by simp [nrv, List.map_reverse, Function.comp_def]
theorem nrv_getD (l : List Int) (k : Nat) (h : k < l.length) : (nrv l).getD k 0 = - l.getD (l.length - 1 - k) 0 := by
  unfold nrv
  rw [List.getD_eq_getElem?_getD, List.getElem?_reverse (by simpa using h), List.getElem?_map, List.length_map, List.getElem?_eq_getElem (by omega), List.getD_eq_getElem?_getD, List.getElem?_eq_getElem (by omega)]
  rfl
theorem nrv_cmpx {n : Nat} {l : List Int} (hl : l.length = n) {i j : Nat} (hi : i < n) (hj : j < n) (hne : i ≠ j) : cmpx [((n - 1 - j : Nat) : Int), ((n - 1 - i : Nat) : Int)] (nrv l) = nrv (cmpx [(i : Int), (j : Int)] l) := by
  refine getD_ext (by rw [cmpx_len, nrv_len, nrv_len, cmpx_len]) fun t ht => ?_
  rw [cmpx_len, nrv_len, hl] at ht
  rw [cmpx_getD' _ _ _ _ (by rw [nrv_len]; omega) (by rw [nrv_len]; omega) (by omega), nrv_getD _ _ (by omega), nrv_getD _ _ (by omega), nrv_getD _ _ (by omega), nrv_getD _ _ (by rw [cmpx_len]; omega), cmpx_len, hl,
    cmpx_getD' _ _ _ _ (by omega) (by omega) hne, show n - 1 - (n - 1 - j) = j by omega, show n - 1 - (n - 1 - i) = i by omega]
  by_cases h1 : t = n - 1 - i
  · rw [if_pos h1, if_neg (by omega), if_pos (by omega)]; omega
  · rw [if_neg h1]
    by_cases h2 : t = n - 1 - j
    · rw [if_pos h2, if_pos (by omega)]; omega
    · rw [if_neg h2, if_neg (by omega), if_neg (by omega)]
theorem mirP_apply {n : Nat} {xss : List (List Int)} (hP : pairsOf n xss) (l : List Int) (hl : l.length = n) : applyP (mirP n xss) (nrv l) = nrv (applyP xss l) := by
  have key : ∀ k, k ≤ xss.length → applyP (mirP n (xss.take k)) (nrv l) = nrv (applyP (xss.take k) l) := by
    intro k
    induction k with
    | zero => intro _; rfl
    | succ k ih =>
      intro hk
      obtain ⟨i, j, hr, hi, hj, hne⟩ := hP k (by omega)
      have e : mirP n (xss.take (k + 1)) = mirP n (xss.take k) ++ [[((n - 1 - j : Nat) : Int), ((n - 1 - i : Nat) : Int)]] := by
        rw [take_snoc_getD [] (by omega), hr]; simp [mirP]; omega
      rw [e, applyP_snoc, ih (by omega), nrv_cmpx (by rw [applyP_len, hl]) hi hj hne, take_snoc_getD [] (by omega), applyP_snoc, hr]
  have := key xss.length (Nat.le_refl _)
  rwa [List.take_length] at this
theorem rises_nrv {l : List Int} (h : risesB l = true) : risesB (nrv l) = true := by
  rw [risesB_iff] at h ⊢
  intro i hi
  rw [nrv_len] at hi
  have := h (l.length - 1 - (i + 1)) (by omega)
  rw [nrv_getD _ _ (by omega), nrv_getD _ _ (by omega)]
  rw [show l.length - 1 - (i + 1) + 1 = l.length - 1 - i by omega] at this
  omega
theorem mirP_sorts {n : Nat} {xss : List (List Int)} (hok : netOk n xss = true) : sortsR n (mirP n xss) = sortsR n xss := by
  have hP := pairsOf_of_ok hok
  rw [Bool.eq_iff_iff, sorts_iff hok, sorts_iff (mirP_ok hok)]
  constructor
  · intro h l hl
    have := h (nrv l) (by rw [nrv_len, hl])
    rw [mirP_apply hP l hl] at this
    have := rises_nrv this
    rwa [nrv_nrv] at this
  · intro h l hl
    have := mirP_apply hP (nrv l) (by rw [nrv_len, hl])
    rw [nrv_nrv] at this
    rw [this]
    exact rises_nrv (h _ (by rw [nrv_len, hl]))
theorem mirP_std {n : Nat} {xss : List (List Int)} (hP : pairsOf n xss) : stdB (mirP n xss) = stdB xss := by
  unfold stdB mirP
  rw [List.any_map]
  congr 1
  rw [Bool.eq_iff_iff, List.any_eq_true, List.any_eq_true]
  have : ∀ p ∈ xss, (downP ∘ fun p : List Int => [(n : Int) - 1 - p.getD 1 0, (n : Int) - 1 - p.getD 0 0]) p = downP p := by
    intro p hp
    obtain ⟨i, j, rfl, hi, hj, hne⟩ := pairsOf_mem hP hp
    simp [downP]
  exact ⟨fun ⟨p, h1, h2⟩ => ⟨p, h1, by rw [← this p h1]; exact h2⟩, fun ⟨p, h1, h2⟩ => ⟨p, h1, by rw [this p h1]; exact h2⟩⟩
end Go.Proofs.Ytiodolbgapjmkaa
