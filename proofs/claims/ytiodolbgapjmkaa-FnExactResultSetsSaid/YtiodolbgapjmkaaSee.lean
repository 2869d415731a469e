/- The program's walk over all networks (standardLists), for whatever function it is given: memory kept by all but the function's own blocks, and the contract. Conditions: at most four wires, at most five comparators. -/
import Derived.Test.YtiodolbgapjmkaaVisit
import Derived.Test.YtiodolbgapjmkaaPairC
namespace Go.Proofs.Ytiodolbgapjmkaa
open Go.RowKit Go.Sort
set_option maxRecDepth 100000
set_option linter.unusedVariables false
set_option linter.unusedSimpArgs false

/-- All blocks but those of X are as they were; X has become X', of X and new blocks alone. -/
structure Kp (X X' : Nat → Prop) (w w' : World) : Prop where
  os : w'.os = w.os
  tape : w'.tape = w.tape
  output : w'.output = w.output
  size : w.heap.size ≤ w'.heap.size
  block : ∀ k, k < w.heap.size → ¬ X k → w'.heap[k]? = w.heap[k]?
  grow : ∀ k, X' k → X k ∨ w.heap.size ≤ k
theorem Kp.of_below {X : Nat → Prop} {w w' : World} (h : Below w.heap.size w w') : Kp X X w w' := ⟨h.os, h.tape, h.output, h.size, fun k hk _ => h.block k hk, fun _ h => .inl h⟩
theorem Kp.trans {X X' X2 : Nat → Prop} {a b c : World} (h : Kp X X' a b) (k : Kp X' X2 b c) : Kp X X2 a c :=
  ⟨k.os.trans h.os, k.tape.trans h.tape, k.output.trans h.output, Nat.le_trans h.size k.size,
   fun i hi hx => (k.block i (Nat.lt_of_lt_of_le hi h.size) (fun q => (h.grow i q).elim hx (by omega))).trans (h.block i hi hx),
   fun i hi => (k.grow i hi).elim (h.grow i) fun q => .inr (Nat.le_trans h.size q)⟩
theorem Kp.later {X X' : Nat → Prop} {a b c : World} (h : Kp X X' a b) (k : Below b.heap.size b c) : Kp X X' a c := h.trans (Kp.of_below k)
theorem Kp.below {X X' : Nat → Prop} {B : Nat} {w w' : World} (h : Kp X X' w w') (hB : B ≤ w.heap.size) (hX : ∀ k, k < B → ¬ X k) : Below B w w' :=
  ⟨h.os, h.tape, h.output, h.size, fun k hk => h.block k (by omega) (hX k hk)⟩
theorem Kp.out {X X' : Nat → Prop} {w w' : World} (h : Kp X X' w w') {k : Nat} (hk : k < w.heap.size) (hx : ¬ X k) : ¬ X' k := fun q => (h.grow k q).elim hx (by omega)
theorem Kp.cell {X X' : Nat → Prop} {w w' : World} (h : Kp X X' w w') {b o : Nat} (hk : b < w.heap.size) (hx : ¬ X b) : w'.cell? ⟨b, o, none⟩ = w.cell? ⟨b, o, none⟩ :=
  World.cell?_of_block (w := w) (h.block b hk hx)
theorem Kp.ints {X X' : Nat → Prop} {w w' : World} {lo hi : Nat} {v : Value} {xs : List Int} (h : Kp X X' w w') (hv : IntsV w lo hi v xs) (hhi : hi ≤ w.heap.size) (hx : ∀ k, lo ≤ k → k < hi → ¬ X k) : IntsV w' lo hi v xs := by
  obtain ⟨ao, b, off, cap, e, h1, h2, h3⟩ := hv
  refine ⟨ao, b, off, cap, e, h1, h2, fun i hi => ?_⟩
  obtain ⟨-, q1, q2⟩ := h2 (by omega)
  exact (h.cell (by omega) (hx b q1 q2)).trans (h3 i hi)

/-- A slice of slices of ints in blocks of Z. -/
structure OwnZ (w : World) (Z : Nat → Prop) (v : Value) (vs : List Value) (xss : List (List Int)) : Prop where
  own : OwnR w 0 w.heap.size v vs xss
  top : ∀ k, v.ownBlock = some k → Z k
  rows : ∀ u ∈ vs, ∀ k, u.ownBlock = some k → Z k
theorem OwnZ.nil (w : World) (Z : Nat → Prop) : OwnZ w Z (.slice none 0 0) [] [] := ⟨OwnR.nil _ _ _, by simp [Value.ownBlock], by simp⟩
theorem OwnZ.keep {w w' : World} {Z Z' : Nat → Prop} {v : Value} {vs : List Value} {xss : List (List Int)} (h : OwnZ w Z v vs xss) (hz : w.heap.size ≤ w'.heap.size)
    (hk : ∀ k, k < w.heap.size → Z k → w'.heap[k]? = w.heap[k]?) (hZ : ∀ k, k < w.heap.size → Z k → Z' k) : OwnZ w' Z' v vs xss := by
  obtain ⟨ho, ht, hr⟩ := h
  have hlt : ∀ u ∈ vs, ∀ k, u.ownBlock = some k → k < w.heap.size := by
    intro u hu k hk
    obtain ⟨i, hi, rfl⟩ := List.getElem_of_mem hu
    have hx : i < xss.length := by rw [← ho.len]; exact hi
    exact (ho.row i vs[i] xss[i] (List.getElem?_eq_getElem hi) (List.getElem?_eq_getElem hx)).lt k hk
  refine ⟨⟨⟨ownsRow_of_block ho.top.row fun k q => hk k (ho.top.lt k q) (ht k q), fun k q => by have := ho.top.lt k q; omega⟩, ho.len, fun i u xs h1 h2 => ?_, ho.sep⟩,
    fun k q => hZ k (ho.top.lt k q) (ht k q), fun u hu k q => hZ k (hlt u hu k q) (hr u hu k q)⟩
  have hu := List.mem_of_getElem? h1
  have := ho.row i u xs h1 h2
  exact ⟨ownsRow_of_block this.row fun k q => hk k (this.lt k q) (hr u hu k q), fun k q => by have := this.lt k q; omega⟩
theorem OwnZ.below {w w' : World} {Z : Nat → Prop} {v : Value} {vs : List Value} {xss : List (List Int)} (h : OwnZ w Z v vs xss) (hb : Below w.heap.size w w') : OwnZ w' Z v vs xss :=
  h.keep hb.size (fun k hk _ => hb.block k hk) fun _ _ q => q
theorem OwnZ.kp {X X' : Nat → Prop} {w w' : World} {lo : Nat} {v : Value} {vs : List Value} {xss : List (List Int)} (h : OwnZ w (fun k => lo ≤ k ∧ ¬ X k) v vs xss) (hk : Kp X X' w w') : OwnZ w' (fun k => lo ≤ k ∧ ¬ X' k) v vs xss :=
  h.keep hk.size (fun k h1 h2 => hk.block k h1 h2.2) fun k h1 h2 => ⟨h2.1, hk.out h1 h2.2⟩
theorem OwnZ.mono {w : World} {Z Z' : Nat → Prop} {v : Value} {vs : List Value} {xss : List (List Int)} (h : OwnZ w Z v vs xss) (hZ : ∀ k, k < w.heap.size → Z k → Z' k) : OwnZ w Z' v vs xss :=
  h.keep (Nat.le_refl _) (fun _ _ _ => rfl) hZ
theorem ownsRow_up {w : World} {base lo : Nat} {e : TypeId} {size : Nat} {v : Value} {n : Nat} {xs : List Value} (h : w.ownsRow base e size v n xs) (hk : ∀ k, v.ownBlock = some k → lo ≤ k) : w.ownsRow lo e size v n xs := by
  obtain ⟨h1, h2⟩ := h
  refine ⟨h1, ?_⟩
  rcases h2 with h2 | ⟨g, cap, cur, hv, hg, r⟩
  · exact Or.inl h2
  · exact Or.inr ⟨g, cap, cur, hv, hk g (by rw [hv]; rfl), r⟩
theorem OwnZ.ownR {w : World} {Z : Nat → Prop} {lo : Nat} {v : Value} {vs : List Value} {xss : List (List Int)} (h : OwnZ w Z v vs xss) (hZ : ∀ k, Z k → lo ≤ k) : OwnR w lo w.heap.size v vs xss :=
  ⟨⟨ownsRow_up h.own.top.row fun k q => hZ k (h.top k q), h.own.top.lt⟩, h.own.len, fun i u xs h1 h2 =>
    ⟨ownsRow_up (h.own.row i u xs h1 h2).row fun k q => hZ k (h.rows u (List.mem_of_getElem? h1) k q), (h.own.row i u xs h1 h2).lt⟩, h.own.sep⟩

/-- slices.Clone of a list of pairs: the rows are shared. -/
theorem CloneZ_c (Z : Nat → Prop) (v : Value) (vs : List Value) (xss : List (List Int)) (w : World) (h : OwnZ w Z v vs xss) (hl : xss.length ≤ 1000000) :
    Calls Try.prog 191 #[v] w fun e w' => ∃ v', e = .returned v' ∧ OwnZ w' (fun k => Z k ∨ w.heap.size ≤ k) v' vs xss ∧ (∀ k, v'.ownBlock = some k → w.heap.size ≤ k) ∧ Below w.heap.size w w' := by
  have hlen := h.own.len
  rcases h.own.top.row.2 with ⟨rfl, hn⟩ | ⟨g, cap, cur, rfl, hg, hh, hnc, hm, hs, ht⟩
  · refine (Try.slices_Clone_nil_f191 0 0 w).mono ?_
    rintro e w' ⟨rfl, rfl⟩
    exact ⟨_, rfl, h.mono fun _ _ q => .inl q, by simp [Value.ownBlock], Below.refl _ _⟩
  · obtain ⟨i0, hi, hz0, hz1, hz2⟩ := info_parts Try.infoS
    have hcells : ∀ j u, vs[j]? = some u → w.cell? ⟨g, 0 + j, none⟩ = some u := by
      intro j u hj
      have hjl : j < vs.length := (List.getElem?_eq_some_iff.1 hj).1
      have := h.own.top.row.cellAt (g := g) j (by omega)
      rw [show 0 + j = j by omega]
      rw [← hj]
      simpa using this
    refine (Try.slices_Clone_f191 i0 (.slice none 0 0) 1 24 hi hz0 hz1 hz2 rfl (by decide) (fun w => by kernel_rfl) g 0 vs.length cap vs w (by omega) (by unfold maxLen; omega) (by omega) hcells h.own.oneCell).mono ?_
    rintro e w' ⟨v', rfl, hrow, -, hb⟩
    have hge : ∀ k, v'.ownBlock = some k → w.heap.size ≤ k := fun k q => (hrow.lt k q).1
    have hlt : ∀ k, v'.ownBlock = some k → k < w'.heap.size := fun k q => (hrow.lt k q).2
    have hB := h.below hb
    exact ⟨v', rfl, ⟨⟨⟨ownsRow_mono hrow (Nat.zero_le _), hlt⟩, hB.own.len, hB.own.row, hB.own.sep⟩, fun k q => .inr (hge k q), fun u hu k q => .inl (hB.rows u hu k q)⟩, hge, hb⟩
theorem ownI_cells {V : World} {b : Nat} {p q : Int} (h : V.heap[b]? = some (.cells #[.int .i64 p, .int .i64 q] 3 (0, 0))) : OwnI V 0 V.heap.size (.slice (some ⟨b, 0, none⟩) 2 2) [p, q] := by
  refine ⟨⟨rfl, .inr ⟨b, 2, _, rfl, Nat.zero_le _, h, Nat.le_refl _, by unfold maxLen; omega, rfl, rfl⟩⟩, fun k hk => ?_⟩
  simp [Value.ownBlock] at hk
  have := lt_of_block h
  omega
/-- Memory ahead of 'append(list, []int{p, q})': the pair lies in block bX, the list of it in block bY, both from B on, apart from the list v. -/
structure AppP (V : World) (bX bY : Nat) (p q : Int) (B : Nat) (Z : Nat → Prop) (v : Value) (vs : List Value) (xss : List (List Int)) : Prop where
  own : OwnZ V Z v vs xss
  hX : V.heap[bX]? = some (.cells #[.int .i64 p, .int .i64 q] 3 (0, 0))
  hY : V.heap[bY]? = some (.cells #[.slice (some ⟨bX, 0, none⟩) 2 2] 22 (0, 0))
  from_ : B ≤ bX
  top : ∀ k, v.ownBlock = some k → B ≤ k ∧ k ≠ bX
  rows : ∀ u ∈ vs, ∀ k, u.ownBlock = some k → k < B
  len : xss.length ≤ 1000000
theorem wp_app_pairZ3 {o : Oper} {a : Act} {K : Act → World → Prop} {Q : Exit → Act → World → Prop} (s x : Operand)
    (ho : o.op = .call { callee := .builtin .append, args := #[s, x], argTypes := #[28, 28] })
    {V : World} {bX bY : Nat} {p q : Int} {B : Nat} {Z : Nat → Prop} {v : Value} {vs : List Value} {xss : List (List Int)} (hA : AppP V bX bY p q B Z v vs xss)
    (hs : a.eval s = v) (hx : a.eval x = .slice (some ⟨bY, 0, none⟩) 1 1)
    (h : ∀ v' w' vs', OwnZ w' (fun k => Z k ∨ B ≤ k) v' vs' (xss ++ [[p, q]]) → Below B V w' → K (a.put o.dst v') w') :
    o.wp Try.prog a V K Q := by
  obtain ⟨i0, hi, hz0, hz1, hz2⟩ := info_parts Try.infoS
  obtain ⟨hR, hX, hY, hbX, htop, hrows, hlen⟩ := hA
  have hU := ownI_cells hX
  have hvl := hR.own.len
  have hBV : B ≤ V.heap.size := by have := lt_of_block hX; omega
  obtain ⟨v', w', hr, hown, hg, hlies⟩ := run_append_own2 (P := Try.prog) V 0 28 o.type 22 i0 (.slice none 0 0) 24 Try.underlying28 hi hz0 hz1 hz2 rfl v vs.length vs hR.own.top.row ⟨bY, 0, none⟩ 1 1 [.slice (some ⟨bX, 0, none⟩) 2 2] rfl
    (fun j u hj => by
      match j, hj with
      | 0, hj => simp at hj; subst hj; exact blk_cell hY 0) (fun u hu => by simp at hu; subst hu; rfl) (by omega) (by unfold maxLen; omega) (by omega) (Nat.zero_le _)
  have ho2 : OwnR w' 0 w'.heap.size v' (vs ++ [.slice (some ⟨bX, 0, none⟩) 2 2]) (xss ++ [[p, q]]) :=
    hR.own.appended (hi2 := V.heap.size) rfl (fun i u xs a b => by
      match i, a, b with
      | 0, a, b => simp at a b; subst a b; exact hU) (.cons (by simp) .nil) (fun u hu t ht => by
        simp at ht; subst ht
        unfold apartV
        cases hob : u.ownBlock with
        | none => exact .inl rfl
        | some k =>
          have := hrows u hu k hob
          right
          simp [Value.ownBlock]
          omega) (fun t ht => by
        simp at ht; subst ht
        right
        intro e
        exact (htop bX (by rw [← e]; rfl)).2 rfl) hown hg
  have hfin := h v' w' _ ⟨ho2, fun k hk => by
      rcases hlies with hl | hl
      · exact .inl (hR.top k (hl ▸ hk))
      · exact .inr (by have := Option.some.inj (hl.symm.trans hk); omega), fun u hu k hk => by
      rcases List.mem_append.1 hu with hu | hu
      · exact .inl (hR.rows u hu k hk)
      · simp at hu; subst hu
        simp [Value.ownBlock] at hk
        exact .inr (by omega)⟩ ((Below.refl B V).grown hg (by omega) fun k hk => (htop k hk).1)
  unfold Oper.wp
  simp [execOp, ho, resolve, invoke, builtin, hs, hx, hr, Result.andThen]
  exact hfin

/-- What a function does that is shown a list of comparators and their results. -/
structure SeeC {σ : Type} (n : Nat) (see : σ → List (List Int) → List Int → σ × Bool) (g ca cb lo : Nat) (I : World → σ → (Nat → Prop) → Prop) : Prop where
  enters : ∀ (args : Array Value) (w : World), (callFunc g args).run Try.prog w = .ok (.enter g args) w
  bound : ∀ w s X, I w s X → ∀ k, X k → k < w.heap.size
  keep : ∀ w w' s X, I w s X → Below w.heap.size w w' → I w' s X
  call : ∀ w s X lv vs path sv l2 h2 P, I w s X → lo ≤ w.heap.size → OwnZ w (fun k => lo ≤ k ∧ ¬ X k) lv vs path → IntsV w l2 h2 sv (setI n P) → h2 ≤ w.heap.size → (∀ k, l2 ≤ k → k < h2 → ¬ X k) → 0 < (setI n P).length →
    Calls Try.prog g #[lv, sv, .pointer (some ⟨ca, 0, none⟩), .pointer (some ⟨cb, 0, none⟩)] w fun e w' => e = .returned (.bool (see s path (setI n P)).2) ∧ ∃ X', I w' (see s path (setI n P)).1 X' ∧ Kp X X' w w'
/-- The number in the cell that a pointer leads to. -/
def intAt (w : World) (v : Value) : Int := match v with
  | .pointer (some a) => match w.cell? a with
    | some u => intOf u
    | none => 0
  | _ => 0
theorem intAt_cell {w : World} {a : Addr} {x : Int} (h : w.cell? a = some (.int .i64 x)) : intAt w (.pointer (some a)) = x := by
  unfold intAt
  simp [h, intOf]
set_option maxHeartbeats 1000000 in
theorem standardLists_0 {σ : Type} (n : Nat) (see : σ → List (List Int) → List Int → σ × Bool) (g ca cb lo : Nat) (I : World → σ → (Nat → Prop) → Prop) (H : SeeC n see g ca cb lo I)
    (S : List Int) (P : Nat → Bool) (path : List (List Int)) (s : σ) (X : Nat → Prop) (w : World) (sv lv : Value) (vs : List Value) (l2 h2 : Nat) (hS : S = setI n P) (h0 : 0 < S.length) (hI : I w s X)
    (hL : OwnZ w (fun k => lo ≤ k ∧ ¬ X k) lv vs path) (hV : IntsV w l2 h2 sv S) (hh2 : h2 ≤ w.heap.size) (hx2 : ∀ k, l2 ≤ k → k < h2 → ¬ X k) (hlo : lo ≤ w.heap.size) :
    Calls Try.prog 155 #[.int .i64 n, .int .i64 (0 : Nat), sv, lv, .func (.func g) #[] #[.pointer (some ⟨ca, 0, none⟩), .pointer (some ⟨cb, 0, none⟩)]] w
      fun e w' => e = .returned (.bool (visit n see 0 S path s).2) ∧ ∃ X', I w' (visit n see 0 S path s).1 X' ∧ Kp X X' w w' := by
  have HC := Lib.hid (H.call w s X lv vs path sv l2 h2 P hI hlo hL (hS ▸ hV) hh2 hx2 (hS ▸ h0))
  obtain ⟨RES, hRES⟩ : ∃ R, R = visit n see 0 S path s := ⟨_, rfl⟩
  have HR : Hid (see s path (setI n P) = RES) := by show _ = _; rw [hRES, hS]; rfl
  rw [← hRES]
  rw [HR.out] at HC
  have heg := H.enters
  clear hRES HR hL hV hI H hS h0 hx2
  go_enter Try.func155, Try.ntmps155
  go_wp2_with fail
  refine HC.out.mono ?_
  rintro e w' ⟨rfl, X', h1, h2⟩
  have H1 := Lib.hid h1
  have H2 := Lib.hid h2
  clear h1 h2
  go_wp2
  go_ret
  exact ⟨rfl, X', H1.out, H2.out⟩
set_option maxHeartbeats 4000000 in
theorem standardLists_c {σ : Type} (n : Nat) (hn : n ≤ 8) (see : σ → List (List Int) → List Int → σ × Bool) (g ca cb lo : Nat) (I : World → σ → (Nat → Prop) → Prop) (H : SeeC n see g ca cb lo I) : ∀ (p : Nat), p ≤ 5 →
    ∀ (S : List Int) (P : Nat → Bool) (path : List (List Int)) (s : σ) (X : Nat → Prop) (w : World) (sv lv : Value) (vs : List Value) (l2 h2 : Nat), S = setI n P → 0 < S.length → I w s X →
    OwnZ w (fun k => lo ≤ k ∧ ¬ X k) lv vs path → path.length + p ≤ 5 → IntsV w l2 h2 sv S → h2 ≤ w.heap.size → (∀ k, l2 ≤ k → k < h2 → ¬ X k) → lo ≤ w.heap.size →
    Calls Try.prog 155 #[.int .i64 n, .int .i64 p, sv, lv, .func (.func g) #[] #[.pointer (some ⟨ca, 0, none⟩), .pointer (some ⟨cb, 0, none⟩)]] w
      fun e w' => e = .returned (.bool (visit n see p S path s).2) ∧ ∃ X', I w' (visit n see p S path s).1 X' ∧ Kp X X' w w'
  | 0, _, S, P, path, s, X, w, sv, lv, vs, l2, h2, hS, h0, hI, hL, hpl, hV, hh2, hx2, hlo => standardLists_0 n see g ca cb lo I H S P path s X w sv lv vs l2 h2 hS h0 hI hL hV hh2 hx2 hlo
  | p + 1, hp, S, P, path, s, X, w, sv, lv, vs, l2, h2, hS, h0, hI, hL, hpl, hV, hh2, hx2, hlo => by
    have IH := Lib.hid (standardLists_c n hn see g ca cb lo I H p (by omega))
    have HH := Lib.hid H
    have HS := Lib.hid hS
    have H0 := Lib.hid h0
    have HI := Lib.hid hI
    have HL := Lib.hid hL
    have HV := Lib.hid hV
    have HX2 := Lib.hid hx2
    obtain ⟨F, hF⟩ : ∃ F : List Int → σ → σ × Bool, F = fun r s => visit n see p (nxr n S r) (path ++ [r]) s := ⟨_, rfl⟩
    have HF := Lib.hid hF
    obtain ⟨RES, hRES⟩ : ∃ R, R = visit n see (p + 1) S path s := ⟨_, rfl⟩
    have HR : Hid (loopV F (allF n 0) s = RES) := by show _ = _; rw [hRES, hF, ← prs_allF]; rfl
    rw [← hRES]
    obtain ⟨q, hq⟩ : ∃ q, q = p + 1 := ⟨_, rfl⟩
    rw [← hq]
    have hq0 : ¬ (q : Int) = 0 := by omega
    have hqb : ((q : Int) == 0) = false := by simpa using hq0
    have hq1 : (q : Int) - 1 = (p : Int) := by omega
    have hq5 : q ≤ 5 := by omega
    have hl5 : path.length ≤ 5 := by omega
    clear hq hRES hF hS h0 hI hL hV hx2 H
    go_enter Try.func155, Try.ntmps155
    go_wp2_with fail
    go_loopw [21] (fun t wr => ∃ (i : Nat) (s2 : σ) (X2 : Nat → Prop), i ≤ n ∧ t = .int .i64 i ∧ I wr s2 X2 ∧ Kp X X2 w wr ∧ loopV F (allF n i) s2 = RES) (fun t _ => n - (intOf t).toNat)
    case atStart => exact ⟨0, s, X, Nat.zero_le _, rfl, HI.out, Kp.of_below (Below.refl _ _), HR.out⟩
    case round =>
      obtain ⟨i, s2, X2, hi, rfl, hI2, hK2, hE2⟩ := hrel
      have HI2 := Lib.hid hI2
      have HK2 := Lib.hid hK2
      have HE2 := Lib.hid hE2
      have hz2 := hK2.size
      clear hI2 hK2 hE2
      by_cases hlt : i < n
      · have hii : (i : Int) < (n : Int) := by omega
        go_wp2_with fail
        have hw3 : Below wr.heap.size wr ((wr.alloc (.cells #[.int .i64 i] 3)).alloc (.cells #[.int .i64 ((i : Int) + 1)] 3)) := ((Below.refl _ _).alloc (Nat.le_refl _) _).alloc (by simp) _
        have hbi3 : ((wr.alloc (.cells #[.int .i64 i] 3)).alloc (.cells #[.int .i64 ((i : Int) + 1)] 3)).heap[wr.heap.size]? = some (.cells #[.int .i64 i] 3 (0, 0)) := blk_old (blk_new wr _) _
        have hbk3 : ((wr.alloc (.cells #[.int .i64 i] 3)).alloc (.cells #[.int .i64 ((i : Int) + 1)] 3)).heap[wr.heap.size + 1]? = some (.cells #[.int .i64 ((i + 1 : Nat) : Int)] 3 (0, 0)) := by
          have := blk_new (wr.alloc (.cells #[.int .i64 i] 3)) (.cells #[.int .i64 ((i : Int) + 1)] 3)
          rwa [show (wr.alloc (.cells #[.int .i64 i] 3)).heap.size = wr.heap.size + 1 from by simp] at this
        have hbx : ∀ k, X2 k → k < wr.heap.size := HH.out.bound wr s2 X2 HI2.out
        have HI3 := Lib.hid (HH.out.keep _ _ _ _ HI2.out hw3)
        have HK3 := Lib.hid (HK2.out.later hw3)
        have HCW : Hid (loopV F (rowF n i (i + 1) ++ allF n (i + 1)) s2 = RES) := by show _ = _; rw [← allF_cons hlt]; exact HE2.out
        have hz3 := hw3.size
        obtain ⟨bi, hbi⟩ : ∃ b, b = wr.heap.size := ⟨_, rfl⟩
        rw [← hbi] at hbi3 hbk3 hbx ⊢
        have hbi4 := lt_of_block hbi3
        have hbk4 := lt_of_block hbk3
        have HB3 := Lib.hid hbi3
        have HBK3 := Lib.hid hbk3
        have HBX := Lib.hid hbx
        have hzw : w.heap.size ≤ bi := by omega
        clear hw3 hbi3 hbk3 hbx hbi hz3
        generalize ((wr.alloc (.cells #[.int .i64 i] 3)).alloc (.cells #[.int .i64 ((i : Int) + 1)] 3)) = W3 at *
        go_loopw [12] (fun kv wr => ∃ (k bk : Nat) (s3 : σ) (X3 : Nat → Prop), k ≤ n ∧ kv = .pointer (some ⟨bk, 0, none⟩) ∧ wr.heap[bk]? = some (.cells #[.int .i64 k] 3 (0, 0)) ∧ ¬ X3 bk ∧ I wr s3 X3 ∧ Kp X2 X3 W3 wr ∧ Hid (i < k) ∧ loopV F (rowF n i k ++ allF n (i + 1)) s3 = RES) (fun kv wr => n - (intAt wr kv).toNat)
        case atStart => exact ⟨i + 1, bi + 1, s2, X2, by omega, rfl, HBK3.out, fun h => by have := HBX.out _ h; omega, HI3.out, Kp.of_below (Below.refl _ _), by show i < i + 1; omega, HCW.out⟩
        case round =>
          obtain ⟨k, bk, s3, X3, hk, rfl, hbk, hxk, hI3, hK3, hik, hE3⟩ := hrel
          have hki := hbk
          have hbkw := lt_of_block hbk
          have hz4 := hK3.size
          have hxi : ¬ X3 bi := hK3.out hbi4 fun h => by have := HBX.out _ h; omega
          have HBI := Lib.hid ((hK3.block bi hbi4 fun h => by have := HBX.out _ h; omega).trans HB3.out)
          have HBK := Lib.hid hbk
          have HI4 := Lib.hid hI3
          have hKall := HK3.out.trans hK3
          have HKA := Lib.hid hKall
          have HK4 := Lib.hid hK3
          have HE3 := Lib.hid hE3
          have HXK := Lib.hid hxk
          have HXI := Lib.hid hxi
          have c11 := blk_cell HBI.out 0
          have c12 := blk_cell HBK.out 0
          have hbiw : bi < wr.heap.size := by omega
          have hwz := hKall.size
          have HV4 := Lib.hid (hKall.ints HV.out hh2 HX2.out)
          have HX3B := Lib.hid (HH.out.bound wr s3 X3 hI3)
          have HZ4 := Lib.hid (HL.out.kp hKall)
          clear hki hbk hxk hI3 hK3 hE3 hKall hxi
          by_cases hlk : k < n
          · have hkn : (k : Int) < (n : Int) := by omega
            have hik2 : i < k := hik
            have HMS : Hid (masksP n S) := by show masksP n S; rw [HS.out]; exact setI_masks n P
            have hl256 : S.length ≤ 256 := by rw [HS.out]; exact Nat.le_trans (setI_len n P) (pow_le_256 n hn)
            have CIM := Lib.hid (images_c n l2 h2 sv S bi bk i k wr hn HV4.out (by omega) HMS.out H0.out hl256 hlt hlk (by omega) c11 c12 hbiw hbkw)
            have hlt8 : ∀ m, m < 2 ^ n → stp m i k < 2 ^ n := by
              intro m hm
              have := (bitsP_lt' (netOk_one hn hlt hlk (by omega)) hm).1
              simpa [bitsP] using this
            have HNP := Lib.hid (nxt_pos HMS.out H0.out hlt8)
            have HNR : Hid (nxr n S [(i : Int), (k : Int)] = nxt n S i k) := by show _ = _; simp [nxr]
            obtain ⟨N4, hN4⟩ : ∃ N, N = nxt n S i k := ⟨_, rfl⟩
            have HN4 : Hid (∃ P, N4 = setI n P) := ⟨_, hN4⟩
            rw [← hN4] at CIM HNP HNR
            obtain ⟨r4, hr4⟩ : ∃ r, r = F [(i : Int), (k : Int)] s3 := ⟨_, rfl⟩
            have HR4 := Lib.hid hr4
            have HRV : Hid (visit n see p N4 (path ++ [[(i : Int), (k : Int)]]) s3 = r4) := by show _ = _; rw [hr4, HF.out, ← HNR.out]
            obtain ⟨s4, b4⟩ := r4
            have HCO : Hid (rowF n i k ++ allF n (i + 1) = [(i : Int), (k : Int)] :: (rowF n i (k + 1) ++ allF n (i + 1))) := by show _ = _; rw [rowF_cons hlk]; rfl
            clear hN4 hr4 hlt8 hl256 hik2
            go_wp2_with fail
            refine CIM.out.mono ?_
            rintro e w4 ⟨u4, rfl, o4, bw4⟩
            have hz5 := bw4.size
            have O4 := Lib.hid o4
            have BW4 := Lib.hid bw4
            have hd4 : Below wr.heap.size wr w4.drew := bw4.drew
            have c21 : w4.drew.cell? ⟨bi, 0, none⟩ = some (.int .i64 i) := (bw4.cell (p := ⟨bi, 0, none⟩) hbiw).trans c11
            have c22 : w4.drew.cell? ⟨bk, 0, none⟩ = some (.int .i64 k) := (bw4.cell (p := ⟨bk, 0, none⟩) hbkw).trans c12
            have hS : ∀ W', Below wr.heap.size wr W' → W'.cell? ⟨bi, 0, none⟩ = some (.int .i64 i) ∧ W'.cell? ⟨bk, 0, none⟩ = some (.int .i64 k) := fun W' hb =>
              ⟨(hb.cell (p := ⟨bi, 0, none⟩) hbiw).trans c11, (hb.cell (p := ⟨bk, 0, none⟩) hbkw).trans c12⟩
            have HSS := Lib.hid hS
            have HA1 : Hid (∀ (V : World) (Y : Obj), Below wr.heap.size wr V → Below wr.heap.size wr (V.alloc Y)) := fun V Y h => h.alloc h.size _
            have hZd : OwnZ w4.drew (fun k => lo ≤ k ∧ ¬ X3 k) lv vs path := HZ4.out.below hd4
            have HROW : Hid (∀ u ∈ vs, ∀ k, u.ownBlock = some k → k < w4.heap.size) := by
              intro u hu k hk
              obtain ⟨t, ht, rfl⟩ := List.getElem_of_mem hu
              have hx : t < path.length := by rw [← hZd.own.len]; exact ht
              exact (hZd.own.row t vs[t] path[t] (List.getElem?_eq_getElem ht) (List.getElem?_eq_getElem hx)).lt k hk
            have HCLN : Hid (∀ W', Below w4.heap.size w4 W' → Calls Try.prog 191 #[lv] W' fun e w' => ∃ v', e = .returned v' ∧ OwnZ w' (fun k => (lo ≤ k ∧ ¬ X3 k) ∨ w4.heap.size ≤ k) v' vs path ∧ (∀ k, v'.ownBlock = some k → W'.heap.size ≤ k) ∧ Below W'.heap.size W' w') := by
              intro W' hb
              have hz := hb.size
              refine (CloneZ_c _ lv vs path W' (hZd.below ⟨hb.os, hb.tape, hb.output, hb.size, hb.block⟩) (by omega)).mono ?_
              rintro e w' ⟨v', rfl, q1, q2, q3⟩
              exact ⟨v', rfl, q1.mono fun k _ h => h.imp id fun h => by have h' : W'.heap.size ≤ k := h; omega, q2, q3⟩
            have HCALL : Hid (∀ (w6 : World) (v6 : Value) (vs6 : List Value), Below w4.heap.size w4 w6 → OwnZ w6 (fun k => ((lo ≤ k ∧ ¬ X3 k) ∨ w4.heap.size ≤ k) ∨ w4.heap.size ≤ k) v6 vs6 (path ++ [[(i : Int), (k : Int)]]) →
                Calls Try.prog 155 #[.int .i64 n, .int .i64 (IntKind.i64.wrap (p : Int)), u4, v6, .func (.func g) #[] #[.pointer (some ⟨ca, 0, none⟩), .pointer (some ⟨cb, 0, none⟩)]] w6
                  fun e w' => e = .returned (.bool b4) ∧ ∃ X', I w' s4 X' ∧ Kp X3 X' w6 w') := by
              intro w6 v6 vs6 q4 q3
              obtain ⟨P4, hP4⟩ := HN4.out
              have q6 : Below wr.heap.size wr w6 := BW4.out.trans (q4.mono (by omega))
              have h := IH.out N4 P4 (path ++ [[(i : Int), (k : Int)]]) s3 X3 w6 u4 v6 vs6 wr.heap.size w4.heap.size hP4 HNP.out (HH.out.keep _ _ _ _ HI4.out q6)
                (q3.mono fun j _ hj => by
                  rcases hj with (hj | hj) | hj
                  · exact hj
                  · exact ⟨by have hj' : w4.heap.size ≤ j := hj; omega, fun h => by have := HX3B.out _ h; have hj' : w4.heap.size ≤ j := hj; omega⟩
                  · exact ⟨by have hj' : w4.heap.size ≤ j := hj; omega, fun h => by have := HX3B.out _ h; have hj' : w4.heap.size ≤ j := hj; omega⟩)
                (by rw [List.length_append]; show path.length + 1 + p ≤ 5; omega)
                (OwnI.ints (Own.below o4 q4 (Nat.le_refl _))) q4.size (fun j h1 _ h => by have := HX3B.out _ h; omega) (by have := q6.size; omega)
              rw [HRV.out] at h
              rw [show IntKind.i64.wrap (p : Int) = (p : Int) by rw [IntKind.wrap_i64]; omega]
              exact h
            have HBD : Hid (Below wr.heap.size wr w4.drew) := bw4.drew
            have HB1 : Hid (Below w4.heap.size w4 w4.drew) := (Below.refl _ _).drew
            have HB2 : Hid (Below w4.heap.size w4 ((w4.alloc (.cells #[.int .i64 i, .int .i64 k] 3)).drew)) := ((Below.refl w4.heap.size w4).alloc (Nat.le_refl _) _).drew
            have HB3 : Hid (Below w4.heap.size w4 (((w4.alloc (.cells #[.int .i64 i, .int .i64 k] 3)).alloc (.cells #[.slice (some ⟨w4.heap.size, 0, none⟩) 2 2] 22)).drew)) := (((Below.refl w4.heap.size w4).alloc (Nat.le_refl _) _).alloc (by simp) _).drew
            have HX2 : Hid (((w4.alloc (.cells #[.int .i64 i, .int .i64 k] 3)).drew).heap[w4.heap.size]? = some (.cells #[.int .i64 i, .int .i64 k] 3 (0, 0))) := blk_new w4 _
            have HX3 : Hid ((((w4.alloc (.cells #[.int .i64 i, .int .i64 k] 3)).alloc (.cells #[.slice (some ⟨w4.heap.size, 0, none⟩) 2 2] 22)).drew).heap[w4.heap.size]? = some (.cells #[.int .i64 i, .int .i64 k] 3 (0, 0))) := blk_old (blk_new w4 _) _
            have HY3 : Hid ((((w4.alloc (.cells #[.int .i64 i, .int .i64 k] 3)).alloc (.cells #[.slice (some ⟨w4.heap.size, 0, none⟩) 2 2] 22)).drew).heap[w4.heap.size + 1]? = some (.cells #[.slice (some ⟨w4.heap.size, 0, none⟩) 2 2] 22 (0, 0))) := by
              have h := blk_new (w4.alloc (.cells #[.int .i64 i, .int .i64 k] 3)) (.cells #[.slice (some ⟨w4.heap.size, 0, none⟩) 2 2] 22)
              rwa [show (w4.alloc (.cells #[.int .i64 i, .int .i64 k] 3)).heap.size = w4.heap.size + 1 from by simp] at h
            have HZ2 : Hid (((w4.alloc (.cells #[.int .i64 i, .int .i64 k] 3)).drew).heap.size = w4.heap.size + 1) := by show (w4.alloc _).heap.size = _; simp
            have HZ3 : Hid ((((w4.alloc (.cells #[.int .i64 i, .int .i64 k] 3)).alloc (.cells #[.slice (some ⟨w4.heap.size, 0, none⟩) 2 2] 22)).drew).heap.size = w4.heap.size + 2) := by show ((w4.alloc _).alloc _).heap.size = _; simp
            have hp1 : path.length ≤ 1000000 := by omega
            have C12 := Lib.hid c12
            clear hS hd4 hZd c11 c12 o4 bw4
            go_upto_region 10 with fail
            go_region_held3 (fun W' => W'.cell? ⟨bi, 0, none⟩ = some (.int .i64 i) ∧ W'.cell? ⟨bk, 0, none⟩ = some (.int .i64 k)) (first | exact ⟨c51, c52⟩ | exact ⟨c41, c42⟩ | exact ⟨c31, c32⟩ | exact ⟨c21, c22⟩ | exact HSS.out _ (HA1.out _ _ (HA1.out _ _ HS5.out)) | exact HSS.out _ (HA1.out _ _ HS5.out) | exact HSS.out _ (HA1.out _ _ HBD.out) | exact HSS.out _ (HA1.out _ _ (HA1.out _ _ HBD.out)) | fail) (first | (go_at_call 155; (with_reducible refine (HCALL.out w6 v6 vs6 HB6.out Z6.out).mono ?_); rintro e w7 ⟨rfl, X7, i7, k7⟩; have I7 := Lib.hid i7; have K7 := Lib.hid k7; have c51 := (k7.cell (b := bi) (o := 0) (by have := HS6.out.size; omega) HXI.out).trans c41; have c52 := (k7.cell (b := bk) (o := 0) (by have := HS6.out.size; omega) HXK.out).trans c42; clear i7 k7) | (refine wp_app_pairZ3 (.tmp 39) (.tmp 43) rfl AP.out rfl rfl ?_; intro v6 w6 vs6 z6 b6; have Z6 := Lib.hid z6; have HB6 : Hid (Below w4.heap.size w4 w6) := BV.out.trans b6; have HS6 : Hid (Below wr.heap.size wr w6) := BW4.out.trans (HB6.out.mono hz5); obtain ⟨c41, c42⟩ := HSS.out w6 HS6.out; clear z6 b6) | (go_at_call 191; have c9 := HCLN.out (w4.drew) HB1.out; (with_reducible refine c9.mono ?_); clear c9; rintro e w5 ⟨v5, rfl, z5, g5, b5⟩; have z9 := b5.size; have HB5 : Hid (Below w4.heap.size w4 w5) := HB1.out.trans (b5.mono (by have := HB1.out.size; omega)); have HS5 : Hid (Below wr.heap.size wr w5) := BW4.out.trans (HB5.out.mono hz5); obtain ⟨c31, c32⟩ := HSS.out w5 HS5.out; have AP : Hid (AppP ((w5.alloc (.cells #[.int .i64 i, .int .i64 k] 3)).alloc (.cells #[.slice (some ⟨w5.heap.size, 0, none⟩) 2 2] 22)) w5.heap.size (w5.heap.size + 1) i k w4.heap.size _ v5 vs path) := ⟨z5.below (((Below.refl w5.heap.size w5).alloc (Nat.le_refl _) _).alloc (by simp) _), blk_old (blk_new w5 _) _, (by have h := blk_new (w5.alloc (.cells #[.int .i64 i, .int .i64 k] 3)) (.cells #[.slice (some ⟨w5.heap.size, 0, none⟩) 2 2] 22); rwa [show (w5.alloc (.cells #[.int .i64 i, .int .i64 k] 3)).heap.size = w5.heap.size + 1 from by simp] at h), HB5.out.size, fun q hq => ⟨g5 q hq, fun e => by have := z5.own.top.lt q hq; omega⟩, HROW.out, hp1⟩; have BV : Hid (Below w4.heap.size w4 ((w5.alloc (.cells #[.int .i64 i, .int .i64 k] 3)).alloc (.cells #[.slice (some ⟨w5.heap.size, 0, none⟩) 2 2] 22))) := (HB5.out.alloc HB5.out.size _).alloc (by have := HB5.out.size; simp; omega) _; clear z5 g5 b5) | (go_at_call 191; have c9 := HCLN.out ((w4.alloc (.cells #[.int .i64 i, .int .i64 k] 3)).drew) HB2.out; (with_reducible refine c9.mono ?_); clear c9; rintro e w5 ⟨v5, rfl, z5, g5, b5⟩; have z9 := b5.size; have HB5 : Hid (Below w4.heap.size w4 w5) := HB2.out.trans (b5.mono (by have := HB2.out.size; omega)); have HS5 : Hid (Below wr.heap.size wr w5) := BW4.out.trans (HB5.out.mono hz5); obtain ⟨c31, c32⟩ := HSS.out w5 HS5.out; have AP : Hid (AppP (w5.alloc (.cells #[.slice (some ⟨w4.heap.size, 0, none⟩) 2 2] 22)) w4.heap.size w5.heap.size i k w4.heap.size _ v5 vs path) := ⟨z5.below ((Below.refl w5.heap.size w5).alloc (Nat.le_refl _) _), blk_old ((b5.block w4.heap.size (by rw [HZ2.out]; omega)).trans HX2.out) _, blk_new w5 _, Nat.le_refl _, fun q hq => by have h := g5 q hq; rw [HZ2.out] at h; exact ⟨by omega, by omega⟩, HROW.out, hp1⟩; have BV : Hid (Below w4.heap.size w4 (w5.alloc (.cells #[.slice (some ⟨w4.heap.size, 0, none⟩) 2 2] 22))) := HB5.out.alloc HB5.out.size _; clear z5 g5 b5) | (go_at_call 191; have c9 := HCLN.out (((w4.alloc (.cells #[.int .i64 i, .int .i64 k] 3)).alloc (.cells #[.slice (some ⟨w4.heap.size, 0, none⟩) 2 2] 22)).drew) HB3.out; (with_reducible refine c9.mono ?_); clear c9; rintro e w5 ⟨v5, rfl, z5, g5, b5⟩; have z9 := b5.size; have HB5 : Hid (Below w4.heap.size w4 w5) := HB3.out.trans (b5.mono (by have := HB3.out.size; omega)); have HS5 : Hid (Below wr.heap.size wr w5) := BW4.out.trans (HB5.out.mono hz5); obtain ⟨c31, c32⟩ := HSS.out w5 HS5.out; have AP : Hid (AppP w5 w4.heap.size (w4.heap.size + 1) i k w4.heap.size _ v5 vs path) := ⟨z5, (b5.block w4.heap.size (by rw [HZ3.out]; omega)).trans HX3.out, (b5.block (w4.heap.size + 1) (by rw [HZ3.out]; omega)).trans HY3.out, Nat.le_refl _, fun q hq => by have h := g5 q hq; rw [HZ3.out] at h; exact ⟨by omega, by omega⟩, HROW.out, hp1⟩; have BV : Hid (Below w4.heap.size w4 w5) := HB5.out; clear z5 g5 b5) | fail)
            all_goals
              have hz6 := HS6.out.size
              have hz7 := K7.out.size
              cases b4
              · have HRS : Hid (loopV F (rowF n i (k + 1) ++ allF n (i + 1)) s4 = RES) := by
                  show _ = _
                  have h1 := HE3.out
                  rw [HCO.out, loopV_no (by rw [← HR4.out]), ← HR4.out] at h1
                  exact h1
                go_wp2_with fail
                go_roundw
                case rel =>
                  have hn7 : (w7.alloc (.cells #[.int .i64 ((k : Int) + 1)] 3)).heap[w7.heap.size]? = some (.cells #[.int .i64 ((k + 1 : Nat) : Int)] 3 (0, 0)) := blk_new w7 _
                  refine ⟨k + 1, w7.heap.size, s4, X7, by omega, rfl, hn7, fun h => by have := HH.out.bound w7 s4 X7 I7.out _ h; omega, HH.out.keep _ _ _ _ I7.out ((Below.refl _ _).alloc (Nat.le_refl _) _), (HK4.out.trans ((Kp.of_below HS6.out).trans K7.out)).later ((Below.refl _ _).alloc (Nat.le_refl _) _), by show i < k + 1; have : i < k := hik; omega, HRS.out⟩
                case measure =>
                  have m1 := intAt_cell (w := w7.alloc (.cells #[.int .i64 ((k : Int) + 1)] 3)) (a := ⟨w7.heap.size, 0, none⟩) (x := (k : Int) + 1) (by simp)
                  have m2 := intAt_cell C12.out
                  simp [m1, m2]
                  omega
              · have HRS : Hid (RES = (s4, true)) := by
                  show _ = _
                  have h1 := HE3.out
                  rw [HCO.out, loopV_yes (by rw [← HR4.out]), ← HR4.out] at h1
                  exact h1.symm
                go_wp2
                go_ret
                rw [HRS.out]
                exact ⟨rfl, X7, I7.out, HKA.out.trans ((Kp.of_below HS6.out).trans K7.out)⟩
          · have hkn : ¬ (k : Int) < (n : Int) := by omega
            have HE4 : Hid (loopV F (allF n (i + 1)) s3 = RES) := by show _ = _; rw [← HE3.out, rowF_nil (by omega)]; rfl
            go_wp2_with fail
            go_roundw
            case rel => exact ⟨i + 1, s3, X3, by omega, by go_num, HI4.out, HKA.out, HE4.out⟩
            case measure => simp [intOf]; omega
      · have hii : ¬ (i : Int) < (n : Int) := by omega
        have HE : Hid (RES = (s2, false)) := by show _ = _; rw [← HE2.out, allF_nil (by omega)]; rfl
        go_wp2
        go_ret
        rw [HE.out]
        exact ⟨rfl, X2, HI2.out, HK2.out⟩
end Go.Proofs.Ytiodolbgapjmkaa
