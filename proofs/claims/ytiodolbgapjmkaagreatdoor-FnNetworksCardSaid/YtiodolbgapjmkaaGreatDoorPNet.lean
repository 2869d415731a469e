/- The plain law of FnNetworks: levels, orders of comparators, names of wires, places. Conditions: at most six wires. -/
import Derived.Test.YtiodolbgapjmkaaGreatDoorByLev
import Derived.Test.YtiodolbgapjmkaaGreatDoorRenamed
import Derived.Test.YtiodolbgapjmkaaGreatDoorApplyN
namespace Go.Proofs.YtiodolbgapjmkaaGreatDoor
open Go.RowKit
set_option linter.unusedVariables false

/-- Two comparators share a wire. -/
def meetB (r s : List Int) : Bool := r.getD 0 0 == s.getD 0 0 || r.getD 0 0 == s.getD 1 0 || r.getD 1 0 == s.getD 0 0 || r.getD 1 0 == s.getD 1 0
def updL (last : Nat → Nat) (r : List Int) (j : Nat) : Nat := if j = (r.getD 1 0).toNat then lvl1 last r else if j = (r.getD 0 0).toNat then lvl1 last r else last j
theorem lastK_succ (xss : List (List Int)) (k : Nat) : lastK xss (k + 1) = updL (lastK xss k) (xss.getD k []) := rfl
theorem lvl1_ge (last : Nat → Nat) (r : List Int) : last (r.getD 0 0).toNat < lvl1 last r ∧ last (r.getD 1 0).toNat < lvl1 last r ∧ 1 ≤ lvl1 last r := by unfold lvl1; omega
theorem lastK_up (xss : List (List Int)) (j k : Nat) : lastK xss k j ≤ lastK xss (k + 1) j := by
  rw [lastK_succ]
  have h := lvl1_ge (lastK xss k) (xss.getD k [])
  unfold updL
  split
  · rename_i e; rw [e]; omega
  · split
    · rename_i e; rw [e]; omega
    · exact Nat.le_refl _
theorem lastK_mono (xss : List (List Int)) (j k : Nat) : ∀ d, lastK xss k j ≤ lastK xss (k + d) j
  | 0 => Nat.le_refl _
  | d + 1 => Nat.le_trans (lastK_mono xss j k d) (lastK_up xss j (k + d))
theorem lvAt_meet {xss : List (List Int)} {k i : Nat} (h : k < i) (hm : meetB (xss.getD i []) (xss.getD k []) = true) : lvAt xss k < lvAt xss i := by
  have h1 := lvl1_ge (lastK xss i) (xss.getD i [])
  have h0 : ∀ j, j = ((xss.getD k []).getD 0 0).toNat ∨ j = ((xss.getD k []).getD 1 0).toNat → lvAt xss k ≤ lastK xss i j := by
    intro j hj
    have e : lastK xss (k + 1) j = lvAt xss k := by
      rw [lastK_succ]
      unfold updL lvAt
      rcases hj with rfl | rfl
      · split
        · rfl
        · rw [if_pos rfl]
      · rw [if_pos rfl]
    have := lastK_mono xss j (k + 1) (i - (k + 1))
    rw [show k + 1 + (i - (k + 1)) = i by omega] at this
    omega
  unfold meetB at hm
  simp only [Bool.or_eq_true, beq_iff_eq] at hm
  show lvAt xss k < lvl1 _ _
  rcases hm with ((e | e) | e) | e
  · have := h0 ((xss.getD i []).getD 0 0).toNat (.inl (by rw [e])); omega
  · have := h0 ((xss.getD i []).getD 0 0).toNat (.inr (by rw [e])); omega
  · have := h0 ((xss.getD i []).getD 1 0).toNat (.inl (by rw [e])); omega
  · have := h0 ((xss.getD i []).getD 1 0).toNat (.inr (by rw [e])); omega
theorem lvAt_pos (xss : List (List Int)) (k : Nat) : 1 ≤ lvAt xss k := (lvl1_ge _ _).2.2
/-- The depth of a list of comparators behind others. -/
def dep (last : Nat → Nat) : List (List Int) → Nat
  | [] => 0
  | r :: rs => max (lvl1 last r) (dep (updL last r) rs)
theorem dep_depth (xss : List (List Int)) : ∀ d k, k + d = xss.length → depthP xss xss.length = max (depthP xss k) (dep (lastK xss k) (xss.drop k))
  | 0, k, h => by
    rw [show k = xss.length by omega, List.drop_length]
    simp [dep]
  | d + 1, k, h => by
    rw [dep_depth xss d (k + 1) (by omega), List.drop_eq_getElem_cons (by omega : k < xss.length)]
    show max (max (depthP xss k) (lvAt xss k)) _ = max (depthP xss k) (max (lvl1 (lastK xss k) xss[k]) (dep (updL (lastK xss k) xss[k]) (xss.drop (k + 1))))
    have e : xss.getD k [] = xss[k] := by simp [List.getD, List.getElem?_eq_getElem (by omega : k < xss.length)]
    rw [lastK_succ, e]
    unfold lvAt
    rw [e]
    omega
theorem dep_depth0 (xss : List (List Int)) : depthP xss xss.length = dep (fun _ => 0) xss := by
  have := dep_depth xss xss.length 0 (by omega)
  rw [List.drop_zero] at this
  rw [this]
  show max 0 (dep (lastK xss 0) xss) = _
  rw [Nat.zero_max]
  rfl
/-- Two comparators touch no common wire. -/
def djN (r s : List Int) : Prop := (r.getD 0 0).toNat ≠ (s.getD 0 0).toNat ∧ (r.getD 0 0).toNat ≠ (s.getD 1 0).toNat ∧ (r.getD 1 0).toNat ≠ (s.getD 0 0).toNat ∧ (r.getD 1 0).toNat ≠ (s.getD 1 0).toNat
theorem dj_of_meet {n : Nat} {X : List (List Int)} (hX : pairUp n false X) {r s : List Int} (hr : r ∈ X) (hs : s ∈ X) (h : meetB r s = false) : djN r s := by
  obtain ⟨a, b, rfl, -⟩ := hX r hr
  obtain ⟨c, d, rfl, -⟩ := hX s hs
  unfold meetB at h
  simp at h
  unfold djN
  simp
  omega
theorem lvl1_dj {last : Nat → Nat} {r s : List Int} (h : djN r s) : lvl1 (updL last s) r = lvl1 last r := by
  obtain ⟨h1, h2, h3, h4⟩ := h
  have e1 : updL last s (r.getD 0 0).toNat = last (r.getD 0 0).toNat := by unfold updL; rw [if_neg h2, if_neg h1]
  have e2 : updL last s (r.getD 1 0).toNat = last (r.getD 1 0).toNat := by unfold updL; rw [if_neg h4, if_neg h3]
  unfold lvl1
  rw [e1, e2]
theorem djN.symm {r s : List Int} (h : djN r s) : djN s r := ⟨h.1.symm, h.2.2.1.symm, h.2.1.symm, h.2.2.2.symm⟩
theorem updL_dj {last : Nat → Nat} {r s : List Int} (h : djN r s) : updL (updL last s) r = updL (updL last r) s := by
  funext j
  have e1 := lvl1_dj (last := last) h
  have e2 := lvl1_dj (last := last) h.symm
  obtain ⟨h1, h2, h3, h4⟩ := h
  have q : updL (updL last s) r j = if j = (r.getD 1 0).toNat then lvl1 last r else if j = (r.getD 0 0).toNat then lvl1 last r else updL last s j := by
    show (if _ then lvl1 (updL last s) r else if _ then lvl1 (updL last s) r else _) = _
    rw [e1]
  have q2 : updL (updL last r) s j = if j = (s.getD 1 0).toNat then lvl1 last s else if j = (s.getD 0 0).toNat then lvl1 last s else updL last r j := by
    show (if _ then lvl1 (updL last r) s else if _ then lvl1 (updL last r) s else _) = _
    rw [e2]
  rw [q, q2]
  unfold updL
  by_cases a1 : j = (r.getD 1 0).toNat
  · rw [if_pos a1, if_neg (by omega), if_neg (by omega), if_pos a1]
  · rw [if_neg a1]
    by_cases a2 : j = (r.getD 0 0).toNat
    · rw [if_pos a2, if_neg (by omega), if_neg (by omega), if_neg a1, if_pos a2]
    · rw [if_neg a2]
      by_cases a3 : j = (s.getD 1 0).toNat
      · rw [if_pos a3]
        rw [if_pos a3]
      · rw [if_neg a3, if_neg a3, if_neg a1, if_neg a2]
theorem dep_move (r : List Int) (A2 : List (List Int)) : ∀ (A1 : List (List Int)) (last : Nat → Nat), (∀ s ∈ A1, djN r s) → dep last (A1 ++ r :: A2) = dep last (r :: (A1 ++ A2))
  | [], last, _ => rfl
  | s :: A1, last, h => by
    have hs := h s (by simp)
    show max (lvl1 last s) (dep (updL last s) (A1 ++ r :: A2)) = max (lvl1 last r) (max (lvl1 (updL last r) s) (dep (updL (updL last r) s) (A1 ++ A2)))
    rw [dep_move r A2 A1 _ fun t ht => h t (by simp [ht])]
    show max (lvl1 last s) (max (lvl1 (updL last s) r) (dep (updL (updL last s) r) (A1 ++ A2))) = _
    rw [lvl1_dj hs, lvl1_dj hs.symm, updL_dj hs]
    omega
def dj4 (a b c d : Nat) : Bool := (a == c) || (a == d) || (b == c) || (b == d)
theorem stp_dj6' : ∀ m < 64, ∀ a < 6, ∀ b < 6, ∀ c < 6, ∀ d < 6, (dj4 a b c d || stp (stp m a b) c d == stp (stp m c d) a b) = true := by decide +kernel
theorem stp_dj6 (m : Nat) (hm : m < 64) (a : Nat) (ha : a < 6) (b : Nat) (hb : b < 6) (c : Nat) (hc : c < 6) (d : Nat) (hd : d < 6) (h1 : a ≠ c) (h2 : a ≠ d) (h3 : b ≠ c) (h4 : b ≠ d) : stp (stp m a b) c d = stp (stp m c d) a b := by
  have := stp_dj6' m hm a ha b hb c hc d hd
  have e : dj4 a b c d = false := by simp [dj4, h1, h2, h3, h4]
  rw [e, Bool.false_or] at this
  exact eq_of_beq this
theorem stp_in6 : ∀ n < 7, ∀ m < 2 ^ n, ∀ i < n, ∀ k < n, stp m i k < 2 ^ n := by decide +kernel
theorem bits_move {n : Nat} (hn : n ≤ 6) (r : List Int) (A2 : List (List Int)) : ∀ (A1 : List (List Int)) (m : Nat), m < 2 ^ n → pairUp n false (A1 ++ r :: A2) → (∀ s ∈ A1, djN r s) → bitsP (A1 ++ r :: A2) m = bitsP (r :: (A1 ++ A2)) m
  | [], m, _, _, _ => rfl
  | s :: A1, m, hm, hP, h => by
    have hs := h s (by simp)
    obtain ⟨c, d, rfl, hc, hd, -⟩ := hP s (by simp)
    obtain ⟨a, b, hr, ha, hb, -⟩ := hP r (by simp)
    have h64 : 2 ^ n ≤ 2 ^ 6 := Nat.pow_le_pow_right (by omega) hn
    show bitsP (A1 ++ r :: A2) (stp m c d) = bitsP (A1 ++ A2) (stp (stp m (r.getD 0 0).toNat (r.getD 1 0).toNat) c d)
    rw [bits_move hn r A2 A1 _ (stp_in6 n (by omega) m hm c hc d hd) (fun t ht => hP t (by
      rcases List.mem_append.1 ht with q | q
      · simp [q]
      · rw [List.mem_cons] at q
        rcases q with q | q <;> simp [q])) fun t ht => h t (by simp [ht])]
    show bitsP (A1 ++ A2) (stp (stp m c d) (r.getD 0 0).toNat (r.getD 1 0).toNat) = _
    subst hr
    unfold djN at hs
    simp at hs
    congr 1
    exact stp_dj6 m (by omega) c (by omega) d (by omega) a (by omega) b (by omega) (by omega) (by omega) (by omega) (by omega)
/-- One list of comparators is another in an order that leaves those that share a wire. -/
def Tr : List (List Int) → List (List Int) → Prop
  | A, [] => A = []
  | A, r :: B => ∃ A1 A2 : List (List Int), A = A1 ++ r :: A2 ∧ (∀ s ∈ A1, meetB r s = false) ∧ Tr (A1 ++ A2) B
theorem Tr.perm : ∀ {B A : List (List Int)}, Tr A B → A.Perm B
  | [], A, h => by
    have h' : A = [] := h
    rw [h']
  | r :: B, A, ⟨A1, A2, e, _, h⟩ => by
    rw [e]
    exact List.perm_middle.trans ((Tr.perm h).cons r)
theorem pairUp_perm {n : Nat} {up : Bool} {A B : List (List Int)} (h : pairUp n up A) (hp : A.Perm B) : pairUp n up B := fun r hr => h r (hp.mem_iff.2 hr)
theorem Tr.same {n : Nat} (hn : n ≤ 6) : ∀ {B A : List (List Int)}, Tr A B → pairUp n false A → (∀ m, m < 2 ^ n → bitsP A m = bitsP B m) ∧ ∀ last, dep last A = dep last B
  | [], A, h, _ => by
    have h' : A = [] := h
    rw [h']
    exact ⟨fun _ _ => rfl, fun _ => rfl⟩
  | r :: B, A, ⟨A1, A2, e, hmt, h⟩, hP => by
    subst e
    have hd : ∀ s ∈ A1, djN r s := fun s hs => dj_of_meet hP (by simp) (by simp [hs]) (hmt s hs)
    have hP2 : pairUp n false (A1 ++ A2) := fun t ht => hP t (by
      rcases List.mem_append.1 ht with q | q <;> simp [q])
    obtain ⟨i1, i2⟩ := Tr.same hn h hP2
    refine ⟨fun m hm => ?_, fun last => ?_⟩
    · rw [bits_move hn r A2 A1 m hm hP hd]
      obtain ⟨a, b, rfl, ha, hb, -⟩ := hP r (by simp)
      exact i1 _ (stp_in6 n (by omega) m hm a ha b hb)
    · rw [dep_move r A2 A1 last hd]
      show max (lvl1 last r) (dep (updL last r) (A1 ++ A2)) = max (lvl1 last r) (dep (updL last r) B)
      rw [i2]
theorem tr_of (row : Int → List Int) (key : Int → Int) : ∀ l a : List Int, l.Perm a → l.Pairwise (fun x y => key x ≤ key y) → a.Pairwise (fun k i => meetB (row i) (row k) = true → key k < key i) → Tr (a.map row) (l.map row)
  | [], a, hp, _, _ => by
    have : a = [] := (List.nil_perm.1 hp)
    rw [this]
    exact rfl
  | x :: l, a, hp, hl, ha => by
    have hx : x ∈ a := hp.mem_iff.1 (by simp)
    obtain ⟨a1, a2, rfl⟩ := List.append_of_mem hx
    have hp2 : l.Perm (a1 ++ a2) := (List.perm_cons x).1 (hp.trans List.perm_middle)
    rw [List.pairwise_cons] at hl
    refine ⟨a1.map row, a2.map row, by simp, fun s hs => ?_, ?_⟩
    · obtain ⟨k, hk, rfl⟩ := List.mem_map.1 hs
      rw [List.pairwise_append] at ha
      have h1 := ha.2.2 k hk x (by simp)
      have h2 := hl.1 k (hp2.mem_iff.2 (by simp [hk]))
      cases hb : meetB (row x) (row k)
      · rfl
      · have := h1 hb
        omega
    · rw [← List.map_append]
      refine tr_of row key l (a1 ++ a2) hp2 hl.2 (ha.sublist ?_)
      exact List.Sublist.append_left (List.sublist_cons_self x a2) a1
theorem pw_upI (R : Int → Int → Prop) (n : Nat) (h : ∀ k i : Nat, k < i → i < n → R (k : Int) (i : Int)) : (upI 0 n).Pairwise R := by
  rw [List.pairwise_iff_getElem]
  intro i j hi hj hij
  rw [upI_length] at hi hj
  have e : ∀ (q : Nat) (hq : q < (upI 0 n).length), (upI 0 n)[q] = (q : Int) := by
    intro q hq
    simp [upI]
  rw [e i (by rw [upI_length]; omega), e j (by rw [upI_length]; omega)]
  exact h i j hij hj
theorem rowsAt_up (xss : List (List Int)) : (upI 0 xss.length).map (fun x => xss.getD x.toNat []) = xss := by
  refine List.ext_getElem (by simp [upI]) fun i h1 h2 => ?_
  simp [upI, List.getD, List.getElem?_eq_getElem h2]
/-- The comparators sorted by levels. -/
theorem tr_lev {n : Nat} {xss : List (List Int)} (hn : n ≤ 6) (hX : pairUp n false xss) {l : List Int} (h : SortP (levKey xss) (upI 0 xss.length) l 0 xss.length) : Tr xss (rowsAt xss l) := by
  have hl : l.length = xss.length := by rw [h.len, upI_length]
  have := tr_of (fun x => xss.getD x.toNat []) (levKey xss) l (upI 0 xss.length) h.perm (by
    rw [List.pairwise_iff_getElem]
    intro i j hi hj hij
    have := h.ord i j (Nat.zero_le _) hij (by omega)
    rwa [List.getD_eq_getElem?_getD, List.getD_eq_getElem?_getD, List.getElem?_eq_getElem hi, List.getElem?_eq_getElem hj] at this) (pw_upI _ _ fun k i hki hi hm => ?_)
  · rwa [rowsAt_up] at this
  · have hm' : meetB (xss.getD i []) (xss.getD k []) = true := by simpa using hm
    have h1 := lvAt_meet hki hm'
    have key : ∀ q, q < xss.length → ∃ v : Int, 0 ≤ v ∧ v < 64 ∧ levKey xss (q : Int) = (lvAt xss q : Int) * 64 + v := by
      intro q hq
      have hmem : xss.getD q [] ∈ xss := by rw [List.getD_eq_getElem?_getD, List.getElem?_eq_getElem hq]; exact List.getElem_mem hq
      obtain ⟨a, b, e, ha, hb, -⟩ := hX _ hmem
      refine ⟨min (a : Int) b, by omega, by omega, ?_⟩
      unfold levKey
      rw [Int.toNat_natCast, e, minOf_two]
      congr 2
      simp [levelsP, List.getD, hq]
    obtain ⟨v1, a1, a2, e1⟩ := key k (by omega)
    obtain ⟨v2, b1, b2, e2⟩ := key i hi
    rw [e1, e2]
    omega
/-- What ByLevels leaves as it was. -/
theorem by_facts {n : Nat} {xss : List (List Int)} (h1 : 1 ≤ n) (hn : n ≤ 6) (hX : pairUp n false xss) (h60 : xss.length ≤ 60) {l : List Int} (h : SortP (levKey xss) (upI 0 xss.length) l 0 xss.length) :
    pairUp n false (rowsAt xss l) ∧ (rowsAt xss l).length = xss.length ∧ (∀ m, m < 2 ^ n → bitsP xss m = bitsP (rowsAt xss l) m) ∧ depthP (rowsAt xss l) (rowsAt xss l).length = depthP xss xss.length := by
  have ht := tr_lev hn hX h
  obtain ⟨q1, q2⟩ := ht.same hn hX
  exact ⟨pairUp_perm hX ht.perm, ht.perm.length_eq.symm, q1, by rw [dep_depth0, dep_depth0, q2]⟩
/-- A network and then another one. -/
theorem applyP_append (xs ys : List (List Int)) (l : List Int) : applyP (xs ++ ys) l = applyP ys (applyP xs l) := by
  unfold applyP
  rw [List.foldl_append]

/-- Other names of wires. -/
def namF (names : List Int) (x : Int) : Int := names.getD x.toNat 0
/-- The names are the numbers below n, each once. -/
def NamP (n : Nat) (names : List Int) : Prop := names.length = n ∧ (∀ k, k < n → ∃ q : Nat, names.getD k 0 = (q : Int) ∧ q < n) ∧ ∀ i k, i < n → k < n → names.getD i 0 = names.getD k 0 → i = k
theorem namP_of_perm {n : Nat} {names : List Int} (h : names.Perm (upI 0 n)) : NamP n names := by
  have hl : names.length = n := by rw [h.length_eq, upI_length]
  have hnd : names.Nodup := by
    refine h.nodup_iff.2 ?_
    unfold upI
    rw [List.nodup_iff_pairwise_ne, List.pairwise_map]
    exact (List.nodup_iff_pairwise_ne.1 List.nodup_range).imp fun h e => h (by omega)
  have hg : ∀ k (hk : k < n), names.getD k 0 = names[k]'(by omega) := fun k hk => by
    rw [List.getD_eq_getElem?_getD, List.getElem?_eq_getElem (by omega)]
    rfl
  refine ⟨hl, fun k hk => ?_, fun i k hi hk e => ?_⟩
  · have hm : names.getD k 0 ∈ upI 0 n := by rw [hg k hk]; exact h.mem_iff.1 (List.getElem_mem _)
    unfold upI at hm
    obtain ⟨q, hq, e⟩ := List.mem_map.1 hm
    exact ⟨q, by omega, by simpa using hq⟩
  · rw [hg i hi, hg k hk] at e
    exact (List.getElem_inj hnd).1 e
/-- A list under the names of its wires. -/
def Moved (n : Nat) (names l m : List Int) : Prop := l.length = n ∧ m.length = n ∧ ∀ k, k < n → m.getD (names.getD k 0).toNat 0 = l.getD k 0
theorem getD_set_eq {l : List Int} {i : Nat} {x : Int} (h : i < l.length) : (l.set i x).getD i 0 = x := by simp [List.getD, h]
theorem getD_set_neq {l : List Int} {i j : Nat} {x : Int} (h : i ≠ j) : (l.set i x).getD j 0 = l.getD j 0 := by simp [List.getD, List.getElem?_set_ne h]
theorem cmpx_getD {l : List Int} {a b : Nat} (ha : a < l.length) (hb : b < l.length) (hne : a ≠ b) (k : Nat) :
    (cmpx [(a : Int), (b : Int)] l).getD k 0 = if k = b then max (l.getD a 0) (l.getD b 0) else if k = a then min (l.getD a 0) (l.getD b 0) else l.getD k 0 := by
  show ((l.set a (min (l.getD a 0) (l.getD b 0))).set b (max (l.getD a 0) (l.getD b 0))).getD k 0 = _
  by_cases h1 : k = b
  · subst h1
    rw [if_pos rfl, getD_set_eq (by simpa using hb)]
  · rw [if_neg h1, getD_set_neq (Ne.symm h1)]
    by_cases h2 : k = a
    · subst h2
      rw [if_pos rfl, getD_set_eq ha]
    · rw [if_neg h2, getD_set_neq (Ne.symm h2)]
theorem moved_apply {n : Nat} {names : List Int} (hN : NamP n names) : ∀ (xss : List (List Int)) (l m : List Int), pairUp n false xss → Moved n names l m → Moved n names (applyP xss l) (applyP (renP (namF names) xss) m)
  | [], l, m, _, h => h
  | r :: xss, l, m, hX, h => by
    obtain ⟨a, b, rfl, ha, hb, hne, -⟩ := hX r (by simp)
    obtain ⟨h1, h2, h3⟩ := h
    obtain ⟨n1, n2, n3⟩ := hN
    obtain ⟨a', ea, ha'⟩ := n2 a ha
    obtain ⟨b', eb, hb'⟩ := n2 b hb
    have hne' : a' ≠ b' := fun e => hne (n3 a b ha hb (by rw [ea, eb, e]))
    have er : (namF names (a : Int)) = (a' : Int) ∧ namF names (b : Int) = (b' : Int) := by
      unfold namF
      rw [Int.toNat_natCast, Int.toNat_natCast]
      exact ⟨ea, eb⟩
    show Moved n names (applyP xss (cmpx [(a : Int), (b : Int)] l)) (applyP (renP (namF names) xss) (cmpx [namF names (a : Int), namF names (b : Int)] m))
    rw [er.1, er.2]
    refine moved_apply ⟨n1, n2, n3⟩ xss _ _ (fun r hr => hX r (by simp [hr])) ⟨by rw [cmpx_len, h1], by rw [cmpx_len, h2], fun k hk => ?_⟩
    obtain ⟨k', ek, hk'⟩ := n2 k hk
    have h3a := h3 a ha
    have h3b := h3 b hb
    have h3k := h3 k hk
    rw [ea, Int.toNat_natCast] at h3a
    rw [eb, Int.toNat_natCast] at h3b
    rw [ek, Int.toNat_natCast] at h3k ⊢
    rw [cmpx_getD (by omega) (by omega) hne', cmpx_getD (by omega) (by omega) hne, h3a, h3b, h3k]
    have kb : k' = b' ↔ k = b := ⟨fun e => n3 k b hk hb (by rw [ek, eb, e]), fun e => by subst e; rw [ek] at eb; omega⟩
    have ka : k' = a' ↔ k = a := ⟨fun e => n3 k a hk ha (by rw [ek, ea, e]), fun e => by subst e; rw [ek] at ea; omega⟩
    by_cases c1 : k = b
    · rw [if_pos (kb.2 c1), if_pos c1]
    · rw [if_neg (fun e => c1 (kb.1 e)), if_neg c1]
      by_cases c2 : k = a
      · rw [if_pos (ka.2 c2), if_pos c2]
      · rw [if_neg (fun e => c2 (ka.1 e)), if_neg c2]
theorem pairUp_nam {n : Nat} {names : List Int} (hN : NamP n names) {xss : List (List Int)} (hX : pairUp n false xss) : pairUp n false (renP (namF names) xss) := by
  intro r hr
  obtain ⟨s, hs, rfl⟩ := List.mem_map.1 hr
  obtain ⟨a, b, rfl, ha, hb, hne, -⟩ := hX s hs
  obtain ⟨n1, n2, n3⟩ := hN
  obtain ⟨a', ea, ha'⟩ := n2 a ha
  obtain ⟨b', eb, hb'⟩ := n2 b hb
  refine ⟨a', b', ?_, ha', hb', fun e => hne (n3 a b ha hb (by rw [ea, eb, e])), by simp⟩
  show [namF names (a : Int), namF names (b : Int)] = _
  unfold namF
  rw [Int.toNat_natCast, Int.toNat_natCast, ea, eb]
/-- Among more wires. -/
theorem place_apply (d : Nat) (z : List Int) (hz : z.length = d) : ∀ (xss : List (List Int)) (n : Nat) (l : List Int), pairUp n false xss → l.length = n → applyP (renP (fun x => (d : Int) + x) xss) (z ++ l) = z ++ applyP xss l
  | [], n, l, _, _ => rfl
  | r :: xss, n, l, hX, hl => by
    obtain ⟨a, b, rfl, ha, hb, hne, -⟩ := hX r (by simp)
    show applyP (renP _ xss) (cmpx [(d : Int) + a, (d : Int) + b] (z ++ l)) = z ++ applyP xss (cmpx [(a : Int), (b : Int)] l)
    rw [← place_apply d z hz xss n _ (fun r hr => hX r (by simp [hr])) (by rw [cmpx_len, hl])]
    congr 1
    show ((z ++ l).set ((d : Int) + a).toNat (min ((z ++ l).getD ((d : Int) + a).toNat 0) ((z ++ l).getD ((d : Int) + b).toNat 0))).set ((d : Int) + b).toNat (max ((z ++ l).getD ((d : Int) + a).toNat 0) ((z ++ l).getD ((d : Int) + b).toNat 0)) = z ++ (l.set a (min (l.getD a 0) (l.getD b 0))).set b (max (l.getD a 0) (l.getD b 0))
    have g : ∀ k : Nat, (z ++ l).getD ((d : Int) + k).toNat 0 = l.getD k 0 := by
      intro k
      rw [show ((d : Int) + k).toNat = d + k by omega, List.getD_eq_getElem?_getD, List.getElem?_append_right (by omega), hz, show d + k - d = k by omega, List.getD_eq_getElem?_getD]
    rw [g, g, show ((d : Int) + a).toNat = d + a by omega, show ((d : Int) + b).toNat = d + b by omega]
    rw [List.set_append_right _ _ (by omega), List.set_append_right _ _ (by omega), hz]
    congr 2
    · congr 1
      omega
    · omega
theorem pairUp_place {n d : Nat} {xss : List (List Int)} (hX : pairUp n false xss) : pairUp (d + n) false (renP (fun x => (d : Int) + x) xss) := by
  intro r hr
  obtain ⟨s, hs, rfl⟩ := List.mem_map.1 hr
  obtain ⟨a, b, rfl, ha, hb, hne, -⟩ := hX s hs
  exact ⟨d + a, d + b, by simp, by omega, by omega, by omega, by simp⟩
end Go.Proofs.YtiodolbgapjmkaaGreatDoor
