/- Sorting networks, as the laws draw them. Conditions: the code has at most 1048576 bytes. -/
import Derived.Test.YtiodolbgapjmkaaDraw
import Derived.Test.YtiodolbgapjmkaaPast
import Derived.Test.YtiodolbgapjmkaaBatN
import Derived.Test.YtiodolbgapjmkaaFInsertionNetwork
import Derived.Test.YtiodolbgapjmkaaIsSorting
import Derived.Test.YtiodolbgapjmkaaZero
import Derived.Test.YtiodolbgapjmkaaParts
import Derived.Deep.RegionLaw
import Derived.Deep.DeepCutAuto
namespace Go.Proofs.Ytiodolbgapjmkaa
open Go.RowKit
set_option maxRecDepth 100000
set_option linter.unusedVariables false

theorem set_two_ownR' {w : World} {X lo hi : Nat} {y0 y1 v : Value} {vs : List Value} {xss : List (List Int)} (ho : OwnR w lo hi v vs xss) (h : X < lo) : OwnR ((w.setCell ⟨X, 0, none⟩ y0).setCell ⟨X, 1, none⟩ y1) lo hi v vs xss :=
  ho.kept fun k h1 _ _ => by rw [Below.heap_setCell _ _ _ _ (by show k ≠ X; omega), Below.heap_setCell _ _ _ _ (by show k ≠ X; omega)]
/-- A standard network that sorts. -/
def sortS (n : Nat) (xss : List (List Int)) : Prop := pairUp n true xss ∧ (∀ m, m < 2 ^ n → bitsP xss m = srt n m)
theorem bitsP_app (xss yss : List (List Int)) (m : Nat) : bitsP (xss ++ yss) m = bitsP yss (bitsP xss m) := by simp [bitsP, List.foldl_append]
theorem pairUp_all {n : Nat} {xss : List (List Int)} (h : xss.all (fun r => decide (r.length = 2) && decide (0 ≤ r.getD 0 0) && decide (r.getD 0 0 < r.getD 1 0) && decide (r.getD 1 0 < (n : Int))) = true) : pairUp n true xss := by
  intro r hr
  have := List.all_eq_true.1 h r hr
  simp only [Bool.and_eq_true, decide_eq_true_eq] at this
  obtain ⟨⟨⟨h1, h2⟩, h3⟩, h4⟩ := this
  match r, h1 with
  | [x, y], _ =>
    simp at h2 h3 h4
    exact ⟨x.toNat, y.toNat, by rw [Int.toNat_of_nonneg h2, Int.toNat_of_nonneg (by omega)], by omega, by omega, by omega, fun _ => by omega⟩
def finBat (n : Nat) : Bool := (bat n (upI 0 n)).all (fun r => decide (r.length = 2) && decide (0 ≤ r.getD 0 0) && decide (r.getD 0 0 < r.getD 1 0) && decide (r.getD 1 0 < (n : Int))) && allB (sortB n (bat n (upI 0 n))) (2 ^ n) && decide ((bat n (upI 0 n)).length ≤ 19) && (decide (4 < n) || decide ((bat n (upI 0 n)).length ≤ 6)) && (decide (6 < n) || decide ((bat n (upI 0 n)).length ≤ 15))
def finIns (n : Nat) : Bool := (XInsertionNetwork n).all (fun r => decide (r.length = 2) && decide (0 ≤ r.getD 0 0) && decide (r.getD 0 0 < r.getD 1 0) && decide (r.getD 1 0 < (n : Int))) && allB (sortB n (XInsertionNetwork n)) (2 ^ n) && decide ((XInsertionNetwork n).length ≤ 28) && (decide (4 < n) || decide ((XInsertionNetwork n).length ≤ 6)) && (decide (6 < n) || decide ((XInsertionNetwork n).length ≤ 15))
theorem fin_bat (n : Nat) (h1 : 1 ≤ n) (h8 : n ≤ 8) : sortS n (bat n (upI 0 n)) ∧ (bat n (upI 0 n)).length ≤ 19 ∧ (n ≤ 4 → (bat n (upI 0 n)).length ≤ 6) ∧ (n ≤ 6 → (bat n (upI 0 n)).length ≤ 15) := by
  have : ∀ n : Nat, n < 9 → 1 ≤ n → finBat n = true := by decide +kernel
  have h := this n (by omega) h1
  simp only [finBat, Bool.and_eq_true, Bool.or_eq_true, decide_eq_true_eq] at h
  obtain ⟨⟨⟨⟨a, b⟩, c⟩, d⟩, e⟩ := h
  refine ⟨⟨pairUp_all a, fun m hm => by simpa [sortB] using (allB_iff _ _).1 b m hm⟩, c, fun h => ?_, fun h => ?_⟩
  · rcases d with d | d
    · omega
    · exact d
  · rcases e with e | e
    · omega
    · exact e
theorem fin_ins (n : Nat) (h1 : 1 ≤ n) (h8 : n ≤ 8) : sortS n (XInsertionNetwork n) ∧ (XInsertionNetwork n).length ≤ 28 ∧ (n ≤ 4 → (XInsertionNetwork n).length ≤ 6) ∧ (n ≤ 6 → (XInsertionNetwork n).length ≤ 15) := by
  have : ∀ n : Nat, n < 9 → 1 ≤ n → finIns n = true := by decide +kernel
  have h := this n (by omega) h1
  simp only [finIns, Bool.and_eq_true, Bool.or_eq_true, decide_eq_true_eq] at h
  obtain ⟨⟨⟨⟨a, b⟩, c⟩, d⟩, e⟩ := h
  refine ⟨⟨pairUp_all a, fun m hm => by simpa [sortB] using (allB_iff _ _).1 b m hm⟩, c, fun h => ?_, fun h => ?_⟩
  · rcases d with d | d
    · omega
    · exact d
  · rcases e with e | e
    · omega
    · exact e
theorem pairUp_bits {n : Nat} (hn : n ≤ 8) {up : Bool} : ∀ {xss : List (List Int)}, pairUp n up xss → ∀ m, m < 2 ^ n → bitsP xss m < 2 ^ n ∧ popc (bitsP xss m) = popc m
  | [], _, m, hm => ⟨hm, rfl⟩
  | p :: r, h, m, hm => by
    have h256 := pow_le_256 n hn
    obtain ⟨a, b, rfl, ha, hb, hne, -⟩ := h p (List.mem_cons_self ..)
    obtain ⟨i1, i2⟩ := pairUp_bits hn (fun q hq => h q (List.mem_cons_of_mem _ hq)) (stp m a b) (stp_lt2 n m a b hn hm ha hb hne)
    exact ⟨i1, i2.trans (stp_facts m a b (by omega) (by omega) (by omega) hne).1⟩
theorem stp_srt (n m i j : Nat) (hn : n ≤ 8) (hm : m < 2 ^ n) (hij : i < j) (hj : j < n) : stp (srt n m) i j = srt n m := by
  have : ∀ n < 9, ∀ p < n + 1, ∀ j < n, ∀ i < j, stp ((2 ^ p - 1) * 2 ^ (n - p)) i j = (2 ^ p - 1) * 2 ^ (n - p) := by decide +kernel
  have hp := popc_lt n m hn hm
  exact this n (by omega) (popc m) (by omega) j hj i hij
theorem bits_srt {n : Nat} (hn : n ≤ 8) {m : Nat} (hm : m < 2 ^ n) : ∀ {xss : List (List Int)}, pairUp n true xss → bitsP xss (srt n m) = srt n m
  | [], _ => rfl
  | p :: r, h => by
    obtain ⟨a, b, rfl, ha, hb, hne, hab⟩ := h p (List.mem_cons_self ..)
    have e : bitsP ([(a : Int), (b : Int)] :: r) (srt n m) = bitsP r (stp (srt n m) a b) := rfl
    rw [e, stp_srt n m a b hn hm (hab rfl) hb]
    exact bits_srt hn hm fun q hq => h q (List.mem_cons_of_mem _ hq)
theorem srt_popc (n m m' : Nat) (h : popc m = popc m') : srt n m = srt n m' := by unfold srt; rw [h]
theorem sortS_pre {n : Nat} (hn : n ≤ 8) {xss yss : List (List Int)} (h : sortS n yss) (hx : pairUp n true xss) : sortS n (xss ++ yss) := by
  refine ⟨pairUp_app hx h.1, fun m hm => ?_⟩
  obtain ⟨h1, h2⟩ := pairUp_bits hn hx m hm
  rw [bitsP_app, h.2 _ h1, srt_popc n _ _ h2]
theorem sortS_post {n : Nat} (hn : n ≤ 8) {xss yss : List (List Int)} (h : sortS n xss) (hy : pairUp n true yss) : sortS n (xss ++ yss) := by
  refine ⟨pairUp_app h.1 hy, fun m hm => ?_⟩
  rw [bitsP_app, h.2 m hm, bits_srt hn hm hy]
theorem sortS_sorts {n : Nat} {xss : List (List Int)} (h : sortS n xss) (h1 : 1 ≤ n) (h8 : n ≤ 8) (hl : xss.length ≤ 60) : sortsR n xss = true := by
  rw [sortsR, netOk_of_pairUp h.1 h1 h8 hl, Int.toNat_natCast, Bool.true_and, allB_iff]
  intro m hm
  rw [sortB, beq_iff_eq]
  exact h.2 m hm

/-- 'append(out, more...)', and which blocks it leaves as they were. -/
theorem wp_app_rows2 {o : Oper} {a : Act} {K : Act → World → Prop} {Q : Exit → Act → World → Prop} (s x : Operand)
    (ho : o.op = .call { callee := .builtin .append, args := #[s, x], argTypes := #[28, 28] })
    (W : World) (lo mid : Nat) (v u : Value) (vs us : List Value) (xss yss : List (List Int)) (hR : OwnR W lo mid v vs xss) (hS : OwnR W mid W.heap.size u us yss) (hlo : lo ≤ mid) (hmid : mid ≤ W.heap.size)
    (hlen : xss.length + yss.length ≤ 1000000) (hs : a.eval s = v) (hx : a.eval x = u)
    (h : ∀ ao L cap w' vs', Hid (L = xss.length + yss.length) → OwnR w' lo w'.heap.size (.slice ao L cap) vs' (xss ++ yss) → Below lo W w' → lo ≤ w'.heap.size → W.grownBy w' v.ownBlock → K (a.put o.dst (.slice ao L cap)) w') :
    o.wp Try.prog a W K Q := by
  obtain ⟨i0, hi, hz0, hz1, hz2⟩ := info_parts Try.infoS
  have hl1 := hR.len
  have hl2 := hS.len
  rcases hS.top.row.2 with ⟨hu, hn⟩ | ⟨g, cap, cur, hu, hg, hh, hnc, hm, hcs, ht⟩
  · have hus : us = [] := List.eq_nil_of_length_eq_zero hn
    have hys : yss = [] := List.eq_nil_of_length_eq_zero (by omega)
    have hrun := run_append_owned_none (P := Try.prog) (w := W) lo 28 o.type 22 i0 1 Try.underlying28 hi v vs.length vs hR.top.row
    have hK : K (a.put o.dst v) W := by
      obtain ⟨ao, g, cap, e, -, -, -⟩ := hR.rows
      have hgr : W.grownBy W v.ownBlock := World.grownBy.refl W _
      rw [e] at hgr ⊢
      refine h ao _ cap W vs (by show _ = _; rw [hys]; rfl) ?_ (Below.refl _ _) (by omega) (by rw [e]; exact hgr)
      rw [← e, hys, List.append_nil]
      exact hR.mono (Nat.le_refl _) hmid
    rw [hu] at hx
    unfold Oper.wp
    simp [execOp, ho, resolve, invoke, builtin, hs, hx, hrun, Result.andThen]
    exact hK
  · have hcell : ∀ (j : Nat) (t : Value), us[j]? = some t → W.cell? ((⟨g, 0, none⟩ : Addr).add j) = some t := hS.top.row.cells (g := g) (by rw [hu]; rfl)
    refine wp_append_own W s x 28 ho lo 22 i0 (.slice none 0 0) 1 24 Try.underlying28 hi hz0 hz1 hz2 rfl (by decide) v vs.length vs hs hR.top.row ⟨g, 0, none⟩ us.length cap us (by rw [hx, hu]) (by simp) ?_ ?_ ?_ ?_ ?_ ?_
    · exact hcell
    · exact hS.oneCell
    · unfold maxLen; omega
    · omega
    · omega
    · intro v' w' hown hg hnil
      have ho2 : OwnR w' lo w'.heap.size v' (vs ++ us) (xss ++ yss) := hR.app hlo hl2 (fun i t xs a b => hS.row i t xs a b) hS.sep hown hg
      obtain ⟨ao, g2, cap2, e, -, -, -⟩ := ho2.rows
      rw [List.length_append] at e
      subst e
      refine h ao _ cap2 w' _ rfl ho2 ((Below.refl _ _).grown hg (by omega) fun k hk => (hR.top.row.lt k hk).1) ?_ hg
      have := hg.size; omega
/-- What a drawn sorting network has at a stage of the draw: the box of the result, the box of the network, its pairs. -/
structure Stage (w : World) (X Y lo n : Nat) (W : World) (ao : Option Addr) (L cap : Nat) (us : List Value) (xs : List (List Int)) : Prop where
  bx : W.heap[X]? = some (.cells #[.int .i64 0, .slice none 0 0] 30 (0, 0))
  by' : W.heap[Y]? = some (.cells #[.int .i64 n, .slice ao L cap] 30 (0, 0))
  own : OwnR W lo W.heap.size (.slice ao L cap) us xs
  below : Below X w W
theorem Stage.later {w W W' : World} {X Y lo n L cap : Nat} {ao : Option Addr} {us : List Value} {xs : List (List Int)} (h : Stage w X Y lo n W ao L cap us xs) (hb : Below W.heap.size W W') (hX : X ≤ W.heap.size) : Stage w X Y lo n W' ao L cap us xs :=
  ⟨(hb.block X (lt_of_block h.bx)).trans h.bx, (hb.block Y (lt_of_block h.by')).trans h.by', (h.own.later hb).mono (Nat.le_refl _) hb.size, h.below.trans (hb.mono hX)⟩
theorem Stage.but {w W W' : World} {X Y lo n L cap p : Nat} {ao : Option Addr} {us : List Value} {xs : List (List Int)} (h : Stage w X Y lo n W ao L cap us xs) (hb : But W.heap.size p W W') (hp : p < lo) (hX : X < p) (hY : p < Y) : Stage w X Y lo n W' ao L cap us xs :=
  ⟨hb.blk h.bx (by omega) (lt_of_block h.bx), hb.blk h.by' (by omega) (lt_of_block h.by'), (hb.ownR h.own hp (Nat.le_refl _)).mono (Nat.le_refl _) hb.size, h.below.trans (hb.below (by omega))⟩
theorem box_set {w : World} {X i : Nat} {a b y : Value} (h : w.heap[X]? = some (.cells #[a, b] 30 (0, 0))) {Y : Nat} (hne : Y ≠ X) {c : Obj} (hY : w.heap[Y]? = some c) : (w.setCell ⟨X, i, none⟩ y).heap[Y]? = some c :=
  (Below.heap_setCell _ _ _ _ (by show Y ≠ X; exact hne)).trans hY
/-- A drawn sorting network. -/
def drawnT (most : Nat) (n : Nat) (xss : List (List Int)) : Prop := 1 ≤ n ∧ n ≤ most ∧ sortS n xss ∧ xss.length ≤ 22 ∧ (n ≤ 4 → xss.length ≤ 13)
/-- A finished stage. -/
theorem Stage.fin {w W : World} {Y lo n L cap most : Nat} {ao : Option Addr} {us : List Value} {xs : List (List Int)} (h : Stage w w.heap.size Y lo n W ao L cap us xs) (hlo : w.heap.size < lo) (hP : drawnT most n xs) :
    NetMade w (drawnT most) (.returned (.agg #[.int .i64 n, .slice ao L cap])) ((W.setCell ⟨w.heap.size, 0, none⟩ (.int .i64 n)).setCell ⟨w.heap.size, 1, none⟩ (.slice ao L cap)) :=
  ⟨n, _, us, xs, rfl, hP, (set_two_ownR' h.own hlo).mono (by omega) (by simp [World.setCell]), (h.below.setCell (Nat.le_refl _) _).setCell (Nat.le_refl _) _⟩
/-- The pairs' list is replaced by what an append left. -/
theorem Stage.put {w W W' : World} {X Y lo n L cap L' cap' : Nat} {ao ao' : Option Addr} {us us' : List Value} {xs ys : List (List Int)} (h : Stage w X Y lo n W ao L cap us xs) (hg : W.grownBy W' (Value.slice ao L cap).ownBlock) (ho : OwnR W' lo W'.heap.size (.slice ao' L' cap') us' ys) (hX : X < lo) (hb : Below lo W W') (hlY : lo ≤ Y) :
    Stage w X Y lo n (W'.setCell ⟨Y, 1, none⟩ (.slice ao' L' cap')) ao' L' cap' us' ys ∧ W'.cell? ⟨Y, 1, none⟩ = some (.slice ao L cap) ∧ W'.frozen? ⟨Y, 1, none⟩ = false := by
  have hne : (Value.slice ao L cap).ownBlock ≠ some Y := own_not_box h.own.top h.by' (by decide)
  have hY' : W'.heap[Y]? = some (.cells #[.int .i64 n, .slice ao L cap] 30 (0, 0)) := (hg.block Y (lt_of_block h.by') (fun e => hne e.symm)).trans h.by'
  have hXY : X ≠ Y := by omega
  refine ⟨⟨(Below.heap_setCell _ _ _ _ (by show X ≠ Y; exact hXY)).trans ((hb.block X hX).trans h.bx), box_set1 hY', ?_, (h.below.trans (hb.mono (by omega))).setCell (by show X ≤ Y; omega) _⟩, blk_cell hY' 1, blk_free hY' 1⟩
  rw [show (W'.setCell ⟨Y, 1, none⟩ (.slice ao' L' cap')).heap.size = W'.heap.size from by simp [World.setCell]]
  exact ho.past_box hY'
theorem InsertionNetwork_y (n : Nat) (h1 : 1 ≤ n) (h8 : n ≤ 8) (w : World) : Calls Try.prog 93 #[.int .i64 n] w (NetC w n (XInsertionNetwork n) true) := by
  have h : inB (n : Int) 1 8 = true := inB_mk ⟨by omega, by omega⟩
  have := InsertionNetwork_s_c n w
  rwa [if_pos h, h] at this
set_option maxHeartbeats 8000000 in
theorem MakeSorting_c (B N m most : Nat) (v : Value) (w : World) (hv : BytesV w B v N) (hB : B ≤ w.heap.size) (hN : N ≤ 1048576) (hm : m ≤ 1000) (hmo : 1 ≤ most) (hmo6 : most ≤ 6) :
    Calls Try.prog 18 #[v, .int .i64 m, .int .i64 most] w (NetMade w (drawnT most)) := by
  have HV := Lib.hid hv
  clear hv
  have hbx := blk_new w (.cells #[.int .i64 0, .slice none 0 0] 30)
  obtain ⟨W0, hW0⟩ : ∃ W, W = w.alloc (.cells #[.int .i64 0, .slice none 0 0] 30) := ⟨_, rfl⟩
  have HB0 : Hid (Below w.heap.size w W0) := by show Below _ _ _; rw [hW0]; exact (Below.refl _ _).alloc (Nat.le_refl _) _
  have hs0 : W0.heap.size = w.heap.size + 1 := by rw [hW0]; simp
  have HW := Lib.hid hW0
  rw [← hW0] at hbx
  have HBX := Lib.hid hbx
  have hs0' : w.heap.size < W0.heap.size := by omega
  clear hW0 hbx hs0
  have HN := Lib.hid (l31New_c B N m v W0 (HV.out.kept fun k hk => HB0.out.block k (by omega)) (by omega) hN hm)
  go_enter Try.func18, Try.ntmps18
  go_wp2_with fail
  try rw [← HW.out]
  refine HN.out.mono ?_
  rintro e w1 ⟨p, rfl, hp, c1, b1⟩
  have C1 := Lib.hid c1
  have z1 := b1.size
  have HBX1 := Lib.hid (blk_below HBX.out b1 (by omega))
  have B1 : Hid (Below w.heap.size w w1) := HB0.out.trans (b1.mono (by omega))
  have hpl := c1.lt
  clear c1 b1 HN
  go_wp2_with fail
  refine (l01Below_c p B most w1 C1.out (by omega) (by omega)).mono ?_
  rintro e w2 ⟨x, rfl, x0, x1, c2, b2⟩
  obtain ⟨a, rfl⟩ : ∃ a : Nat, x = a := ⟨x.toNat, by omega⟩
  obtain ⟨n, hn⟩ : ∃ n, n = 1 + a := ⟨_, rfl⟩
  have hn1 : 1 ≤ n := by omega
  have hnm : n ≤ most := by omega
  have e1 : 1 + (a : Int) = (n : Int) := by omega
  have z2 := b2.size
  have C2 := Lib.hid c2
  have HBX2 := Lib.hid (b2.blk HBX1.out (by omega) (by omega))
  have B2 : Hid (Below w.heap.size w w2) := B1.out.trans (b2.below (by omega))
  clear c2 b2 x0 x1 hn
  go_wp2_with fail
  refine (l02Pairs_c p B n 4 true w2 C2.out (by omega) (by omega)).mono ?_
  rintro e w3 ⟨q3, us3, xss, rfl, hpu, hxl, o3, c3, b3⟩
  have z3 := b3.size
  have C3 := Lib.hid c3
  have HBX3 := Lib.hid (b3.blk HBX2.out (by omega) (by omega))
  have B3 : Hid (Below w.heap.size w w3) := B2.out.trans (b3.below (by omega))
  obtain ⟨ao3, g3, cap3, ev3, -, -, -⟩ := o3.rows
  obtain ⟨L3, hL3⟩ : ∃ L, L = xss.length := ⟨_, rfl⟩
  have HL3 := Lib.hid hL3
  rw [← hL3] at ev3 hxl
  subst ev3
  have O3 : Hid (OwnR w3 w2.heap.size w3.heap.size (.slice ao3 L3 cap3) us3 xss) := o3
  have HPU := Lib.hid hpu
  clear o3 c3 b3 hL3 hpu
  have hpw2 : p < w2.heap.size := by omega
  go_wp2_with fail
  obtain ⟨W4, hW4, d0, d1, hs4, hB4, f0, f1⟩ := box2 w3 (.int .i64 n) (.slice ao3 L3 cap3) 30
  have HBX4 := Lib.hid ((hB4.block w.heap.size (by omega)).trans HBX3.out)
  have HBY4 : Hid (W4.heap[w3.heap.size]? = some (.cells #[.int .i64 n, .slice ao3 L3 cap3] 30 (0, 0))) := by show _ = _; rw [← hW4]; exact blk_new _ _
  have C4 := Lib.hid (C3.out.below hB4 (by omega))
  have O4 := Lib.hid (O3.out.later hB4)
  have B4 : Hid (Below w.heap.size w W4) := B3.out.trans (hB4.mono (by omega))
  rw [hW4]
  obtain ⟨Y, hY⟩ : ∃ Y, Y = w3.heap.size := ⟨_, rfl⟩
  rw [← hY] at HBY4 d0 d1 f0 f1 ⊢
  have hYw : w2.heap.size ≤ Y := by omega
  have hY4 : Y < W4.heap.size := by omega
  have hi4 : w3.heap.size ≤ W4.heap.size := by omega
  clear hW4 hB4 hs4
  have hpY : p < Y := by omega
  clear hY
  have hLL : L3 ≤ 4 := hxl
  have ST4 : Hid (Stage w w.heap.size Y w2.heap.size n W4 ao3 L3 cap3 us3 xss) := ⟨HBX4.out, HBY4.out, O4.out.mono (Nat.le_refl _) hi4, B4.out⟩
  have HXS : Hid (w.heap.size < w2.heap.size) := by show _ < _; omega
  have e2 := blk_cell HBY4.out 1
  clear O4 O3 HBX4 HBY4 B4 d0 f0
  clear d1
  have d1 : W4.cell? ⟨Y, 1, none⟩ = some (.slice ao3 L3 cap3) := e2
  clear e2
  have HY4 := Lib.hid hY4
  have FB := Lib.hid (fin_bat n hn1 (by omega))
  have FI := Lib.hid (fin_ins n hn1 (by omega))
  have HEQ := Lib.hid (batEq n (by omega))
  have hpw : w.heap.size < p := by omega
  have CW : Hid (Calls Try.prog 91 #[.int .i64 0, .int .i64 n] W4.drew (IntC W4.drew (upI 0 n))) := l08Wires_c 0 n W4.drew (by omega) (by omega) (by omega)
  go_upto_region 4 with fail
  go_cut [] (fun wx => ∃ ao L cap us, Stage w w.heap.size Y w2.heap.size n wx ao L cap us (xss ++ batL n (upI 0 n)) ∧ Cur wx p B ∧ Y < wx.heap.size)
  case first =>
    go_region_law (first | (refine wp_app_rows2 (.tmp 25) (.tmp 28) rfl w6 w2.heap.size w5.heap.size _ _ us3 us6 xss _ O36.out O6.out Z25.out Z56.out HLN.out rfl rfl ?_; intro ao7 L7 cap7 w7 us7 hL7 o7 b7 z7 g7; obtain ⟨s7, r7, f7⟩ := ST6.out.put g7 o7 HXS.out b7 hYw; have ST7 := Lib.hid s7; have C7 := Lib.hid ((C6.out.below b7 hpw2).set_far (i := 1) (y := .slice ao7 L7 cap7) hpY); have hY7 : Y < w7.heap.size := (by have := g7.size; omega); clear s7 o7 b7 g7) | (go_simp; go_at_call 90; refine (l09Batcher_c n (upI 0 n) w4s.heap.size w5.heap.size _ w5 (by rw [upI_length]; omega) (by rw [upI_length]; omega) (by rw [upI_length]; omega) (by omega) (OwnI.ints O5.out) (Nat.le_refl _)).mono ?_; rintro e w6 ⟨q6, us6, rfl, o6, b6⟩; have Z56 : Hid (w5.heap.size ≤ w6.heap.size) := b6.size; have hz6 : w5.heap.size ≤ w6.heap.size := b6.size; have O6 := Lib.hid o6; have ST6 := Lib.hid (ST5.out.later b6 (by omega)); have C6 := Lib.hid (C5.out.below b6 (by omega)); have O36 : Hid (OwnR w6 w2.heap.size w5.heap.size (.slice ao3 L3 cap3) us3 xss) := (ST5.out.own.later b6); have hY6 : Y < w6.heap.size := (by omega); have d6 := blk_cell ST6.out.by' 1; have HLN : Hid (xss.length + (batL n (upI 0 n)).length ≤ 1000000) := (by show _ ≤ _; rw [HEQ.out]; have := FB.out.2.1; have := HL3.out; omega); clear o6 b6) | (go_simp; go_at_call 91; refine CW.out.mono ?_; rintro e w5 ⟨q5, rfl, o5, b5⟩; obtain ⟨w4s, hw4s⟩ : ∃ W, W = W4.drew := ⟨_, rfl⟩; have hz5 : W4.heap.size ≤ w5.heap.size := b5.size; have hdr : W4.drew.heap.size = W4.heap.size := rfl; have O5 : Hid (OwnI w5 w4s.heap.size w5.heap.size q5 (upI 0 n)) := (by rw [hw4s]; exact o5); have ST5 := Lib.hid (ST4.out.later (undrew b5) (by omega)); have C5 := Lib.hid (C4.out.below (undrew b5) (by omega)); have Z25 : Hid (w2.heap.size ≤ w5.heap.size) := (by show _ ≤ _; omega); obtain ⟨x5, n5, y5, rfl⟩ := (OwnI.ints o5).shape; have d5 := blk_cell ST5.out.by' 1; have hY5 : Y < w5.heap.size := (by omega); clear o5 b5 hw4s) | fail)
    all_goals
      go_wp2_with fail
      go_meet
      case rel => exact ⟨_, _, _, _, ST7.out, C7.out, by simp [World.setCell]; omega⟩
  case rest =>
    obtain ⟨aoa, La, capa, usa, sta, ca, hYa⟩ := hcut
    have STA := Lib.hid sta
    have CA := Lib.hid ca
    have hBA : w.heap.size ≤ wc.heap.size := sta.below.size
    have hYa2 : Y < wc.heap.size := hYa
    have HSA : Hid (sortS n (xss ++ batL n (upI 0 n))) := by show sortS n _; rw [HEQ.out]; exact sortS_pre (by omega) FB.out.1 HPU.out
    have HLA : Hid ((xss ++ batL n (upI 0 n)).length ≤ 19 ∧ (n ≤ 4 → (xss ++ batL n (upI 0 n)).length ≤ 10)) := by
      have h1 := FB.out.2.2.2 (by omega)
      have h2 := FB.out.2.2.1
      have h3 := HL3.out
      show _ ∧ _
      rw [HEQ.out, List.length_append]
      exact ⟨by omega, fun h => by have := h2 h; omega⟩
    obtain ⟨xa, hxa⟩ : ∃ x, x = xss ++ batL n (upI 0 n) := ⟨_, rfl⟩
    rw [← hxa] at HSA HLA STA
    clear sta ca hxa ST4 C4 CW d1 hLL hxl HPU hYa
    go_wp2_with fail
    refine (l01Once_c p B 2 wc CA.out (by omega) (by omega)).mono ?_
    rintro e w8 ⟨b, rfl, c8, b8⟩
    have z8 := b8.size
    have C8 := Lib.hid c8
    have ST8 := Lib.hid (STA.out.but b8 hpw2 hpw hpY)
    have hY8 : Y < w8.heap.size := by omega
    clear c8 b8
    cases b
    · skip
      go_wp2_with fail
      refine (l01Once_c p B 3 w8 C8.out (by omega) (by omega)).mono ?_
      rintro e w11 ⟨b2, rfl, c11, b11⟩
      have z11 := b11.size
      have C11 := Lib.hid c11
      have ST11 := Lib.hid (ST8.out.but b11 hpw2 hpw hpY)
      have hY11 : Y < w11.heap.size := by omega
      clear c11 b11
      cases b2
      · have HF := Lib.hid (ST11.out.fin HXS.out (most := most) ⟨hn1, hnm, HSA.out, by have := HLA.out.1; omega, fun h => by have := HLA.out.2 h; omega⟩)
        have c0 := blk_cell ST11.out.bx 0
        have c1 := blk_cell ST11.out.bx 1
        have f0 := blk_free ST11.out.bx 0
        have f1 := blk_free ST11.out.bx 1
        have d0 := blk_cell ST11.out.by' 0
        have d1 := blk_cell ST11.out.by' 1
        go_wp2
        exact bodyPost_ret (v := .agg #[.int .i64 n, .slice aoa La capa]) (by simp [results, Try.results18, go_sem, c0, c1]) rfl HF.out
      · have CL := Lib.hid (l02Pairs_c p B n 3 true w11.drew C11.out.drew (by omega) (by omega))
        have d1 : w11.cell? ⟨Y, 1, none⟩ = some (.slice aoa La capa) := blk_cell ST11.out.by' 1
        have hdr : w11.drew.heap.size = w11.heap.size := rfl
        have HLN : Hid (xa.length + 3 ≤ 1000000) := by show _ ≤ _; have := HLA.out.1; omega
        have hZ11 : w2.heap.size ≤ w11.heap.size := by omega
        go_wp2_with fail
        go_region_law (first | (refine wp_app_rows2 (.tmp 42) (.tmp 45) rfl w12 w2.heap.size w11.heap.size _ _ usa us12 xa x12 OX.out O12.out hZ11 Z12.out (by have := HLN.out; have := HX12.out; omega) rfl rfl ?_; intro ao13 L13 cap13 w13 us13 hL13 o13 b13 z13 g13; obtain ⟨s13, r13, f13⟩ := ST12.out.put g13 o13 HXS.out b13 hYw; have HF := Lib.hid (s13.fin HXS.out (most := most) ⟨hn1, hnm, sortS_post (by omega) HSA.out HP12.out, by have := HLA.out.1; have := HX12.out; rw [List.length_append]; omega, fun h => by have := HLA.out.2 h; have := HX12.out; rw [List.length_append]; omega⟩); have ST13 := Lib.hid s13; have hY13 : Y < w13.heap.size := (by have := g13.size; omega); clear s13 o13 b13 g13) | (go_simp; go_at_call 89; refine CL.out.mono ?_; rintro e w12 ⟨q12, us12, x12, rfl, p12, l12, o12, c12, b12⟩; obtain ⟨ao12, g12, cap12, e12, -, -, -⟩ := o12.rows; obtain ⟨L12, hL12⟩ : ∃ L, L = x12.length := ⟨_, rfl⟩; rw [← hL12] at e12; subst e12; have Z12 : Hid (w11.heap.size ≤ w12.heap.size) := b12.size; have hz12 : w11.heap.size ≤ w12.heap.size := b12.size; have HX12 := Lib.hid l12; have HP12 := Lib.hid p12; have O12 : Hid (OwnR w12 w11.heap.size w12.heap.size (.slice ao12 L12 cap12) us12 x12) := o12; have b12q : But w11.heap.size p w11 w12 := ⟨undrew b12.1, b12.2⟩; have ST12 := Lib.hid (ST11.out.but b12q hpw2 hpw hpY); have OX : Hid (OwnR w12 w2.heap.size w11.heap.size (.slice aoa La capa) usa xa) := (b12q.ownR ST11.out.own hpw2 (Nat.le_refl _)); have hY12 : Y < w12.heap.size := (by omega); have d12 := blk_cell ST12.out.by' 1; clear o12 c12 b12 b12q p12 l12 hL12) | fail)
        all_goals
          have c0 := blk_cell ST13.out.bx 0
          have c1 := blk_cell ST13.out.bx 1
          have f0 := blk_free ST13.out.bx 0
          have f1 := blk_free ST13.out.bx 1
          have d20 := blk_cell ST13.out.by' 0
          have d21 := blk_cell ST13.out.by' 1
          go_wp2
          exact bodyPost_ret (v := .agg #[.int .i64 n, .slice ao13 L13 cap13]) (by simp [results, Try.results18, go_sem, c0, c1]) rfl HF.out
    · go_wp2_with fail
      refine (InsertionNetwork_y n hn1 (by omega) w8).mono ?_
      rintro e w9 ⟨q9, us9, rfl, o9, b9⟩
      have z9 := b9.size
      obtain ⟨ao9, g9, cap9, ev9, -, -, -⟩ := o9.rows
      obtain ⟨L9, hL9⟩ : ∃ L, L = (XInsertionNetwork (n : Int)).length := ⟨_, rfl⟩
      rw [← hL9] at ev9
      subst ev9
      have ST9 := Lib.hid (ST8.out.later b9 (by omega))
      have C9 := Lib.hid (C8.out.below b9 (by omega))
      have O9 := Lib.hid o9
      have hY9 : Y < w9.heap.size := by omega
      clear o9 b9 hL9
      have c0 := blk_cell ST9.out.by' 0
      have c1 := blk_cell ST9.out.by' 1
      have f0 := blk_free ST9.out.by' 0
      have f1 := blk_free ST9.out.by' 1
      go_wp2_with fail
      obtain ⟨W10, hW10⟩ : ∃ W, W = ((w9.setCell ⟨Y, 0, none⟩ (.int .i64 n)).setCell ⟨Y, 1, none⟩ (.slice ao9 L9 cap9)).alloc (.cells #[.int .i64 n, .slice ao9 L9 cap9] 30) := ⟨_, rfl⟩
      have hs10 : W10.heap.size = w9.heap.size + 1 := by rw [hW10]; simp [World.setCell]
      have hXY : w.heap.size ≠ Y := by omega
      have ST10 : Hid (Stage w w.heap.size Y w2.heap.size n W10 ao9 L9 cap9 us9 (XInsertionNetwork (n : Int))) := by
        show Stage _ _ _ _ _ _ _ _ _ _ _
        have h0 := box_set0 (y := .int .i64 n) ST9.out.by'
        have h1 := box_set1 (y := .slice ao9 L9 cap9) h0
        refine ⟨?_, ?_, ?_, ?_⟩
        · rw [hW10]; exact blk_old (box_set h0 hXY (box_set ST9.out.by' hXY ST9.out.bx)) _
        · rw [hW10]; exact blk_old h1 _
        · rw [hs10, hW10]
          exact ((((O9.out.past_box (i := 0) (y := .int .i64 n) ST9.out.by').past_box (i := 1) (y := .slice ao9 L9 cap9) h0)).alloc _).mono (by omega) (by omega)
        · rw [hW10]
          exact ((ST9.out.below.setCell (by show w.heap.size ≤ Y; omega) _).setCell (by show w.heap.size ≤ Y; omega) _).alloc (by simp [World.setCell]; omega) _
      have C10 : Hid (Cur W10 p B) := by
        show Cur _ _ _
        rw [hW10]
        exact ((C9.out.set_far hpY).set_far hpY).below ((Below.refl _ _).alloc (Nat.le_refl _) _) (by simp [World.setCell]; omega)
      have hY10 : Y < W10.heap.size := by omega
      have hB10 : w.heap.size ≤ W10.heap.size := by omega
      have HSI := Lib.hid FI.out.1
      have HLI : Hid ((XInsertionNetwork (n : Int)).length ≤ 19 ∧ (n ≤ 4 → (XInsertionNetwork (n : Int)).length ≤ 10)) := by
        have h1 := FI.out.2.2.2 (by omega)
        have h2 := FI.out.2.2.1
        exact ⟨by omega, fun h => by have := h2 h; omega⟩
      rw [← hW10]
      clear hW10 c0 c1 f0 f1 hs10 O9 ST9 C9
      refine (l01Once_c p B 3 W10 C10.out (by omega) (by omega)).mono ?_
      rintro e w11 ⟨b2, rfl, c11, b11⟩
      have z11 := b11.size
      have C11 := Lib.hid c11
      have ST11 := Lib.hid (ST10.out.but b11 hpw2 hpw hpY)
      have hY11 : Y < w11.heap.size := by omega
      clear c11 b11
      cases b2
      · have HF := Lib.hid (ST11.out.fin HXS.out (most := most) ⟨hn1, hnm, HSI.out, by have := HLI.out.1; omega, fun h => by have := HLI.out.2 h; omega⟩)
        have c0 := blk_cell ST11.out.bx 0
        have c1 := blk_cell ST11.out.bx 1
        have f0 := blk_free ST11.out.bx 0
        have f1 := blk_free ST11.out.bx 1
        have d0 := blk_cell ST11.out.by' 0
        have d1 := blk_cell ST11.out.by' 1
        go_wp2
        exact bodyPost_ret (v := .agg #[.int .i64 n, .slice ao9 L9 cap9]) (by simp [results, Try.results18, go_sem, c0, c1]) rfl HF.out
      · have CL := Lib.hid (l02Pairs_c p B n 3 true w11.drew C11.out.drew (by omega) (by omega))
        have d1 : w11.cell? ⟨Y, 1, none⟩ = some (.slice ao9 L9 cap9) := blk_cell ST11.out.by' 1
        have hdr : w11.drew.heap.size = w11.heap.size := rfl
        have HLN : Hid ((XInsertionNetwork (n:Int)).length + 3 ≤ 1000000) := by show _ ≤ _; have := HLI.out.1; omega
        have hZ11 : w2.heap.size ≤ w11.heap.size := by omega
        go_wp2_with fail
        go_region_law (first | (refine wp_app_rows2 (.tmp 42) (.tmp 45) rfl w12 w2.heap.size w11.heap.size _ _ us9 us12 (XInsertionNetwork (n:Int)) x12 OX.out O12.out hZ11 Z12.out (by have := HLN.out; have := HX12.out; omega) rfl rfl ?_; intro ao13 L13 cap13 w13 us13 hL13 o13 b13 z13 g13; obtain ⟨s13, r13, f13⟩ := ST12.out.put g13 o13 HXS.out b13 hYw; have HF := Lib.hid (s13.fin HXS.out (most := most) ⟨hn1, hnm, sortS_post (by omega) HSI.out HP12.out, by have := HLI.out.1; have := HX12.out; rw [List.length_append]; omega, fun h => by have := HLI.out.2 h; have := HX12.out; rw [List.length_append]; omega⟩); have ST13 := Lib.hid s13; have hY13 : Y < w13.heap.size := (by have := g13.size; omega); clear s13 o13 b13 g13) | (go_simp; go_at_call 89; refine CL.out.mono ?_; rintro e w12 ⟨q12, us12, x12, rfl, p12, l12, o12, c12, b12⟩; obtain ⟨ao12, g12, cap12, e12, -, -, -⟩ := o12.rows; obtain ⟨L12, hL12⟩ : ∃ L, L = x12.length := ⟨_, rfl⟩; rw [← hL12] at e12; subst e12; have Z12 : Hid (w11.heap.size ≤ w12.heap.size) := b12.size; have hz12 : w11.heap.size ≤ w12.heap.size := b12.size; have HX12 := Lib.hid l12; have HP12 := Lib.hid p12; have O12 : Hid (OwnR w12 w11.heap.size w12.heap.size (.slice ao12 L12 cap12) us12 x12) := o12; have b12q : But w11.heap.size p w11 w12 := ⟨undrew b12.1, b12.2⟩; have ST12 := Lib.hid (ST11.out.but b12q hpw2 hpw hpY); have OX : Hid (OwnR w12 w2.heap.size w11.heap.size (.slice ao9 L9 cap9) us9 (XInsertionNetwork (n:Int))) := (b12q.ownR ST11.out.own hpw2 (Nat.le_refl _)); have hY12 : Y < w12.heap.size := (by omega); have d12 := blk_cell ST12.out.by' 1; clear o12 c12 b12 b12q p12 l12 hL12) | fail)
        all_goals
          have c0 := blk_cell ST13.out.bx 0
          have c1 := blk_cell ST13.out.bx 1
          have f0 := blk_free ST13.out.bx 0
          have f1 := blk_free ST13.out.bx 1
          have d20 := blk_cell ST13.out.by' 0
          have d21 := blk_cell ST13.out.by' 1
          go_wp2
          exact bodyPost_ret (v := .agg #[.int .i64 n, .slice ao13 L13 cap13]) (by simp [results, Try.results18, go_sem, c0, c1]) rfl HF.out
end Go.Proofs.Ytiodolbgapjmkaa
