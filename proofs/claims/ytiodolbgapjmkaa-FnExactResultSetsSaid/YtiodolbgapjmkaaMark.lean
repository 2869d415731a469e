/- The marks that the laws write into lists and networks, and the look whether they are still there, by their contracts. Conditions: none. -/
import Derived.Test.YtiodolbgapjmkaaSmall
import Derived.Test.YtiodolbgapjmkaaLater
namespace Go.Proofs.Ytiodolbgapjmkaa
open Go.RowKit
set_option maxRecDepth 100000

/-- The numbers k, k + 1 and so on. -/
def marks (k : Int) (n : Nat) : List Int := (List.range n).map fun i : Nat => k + (i : Int)
theorem marks_length (k : Int) (n : Nat) : (marks k n).length = n := by simp [marks]
theorem marks_succ (k : Int) (n : Nat) : marks k (n + 1) = marks k n ++ [k + (n : Int)] := by simp [marks, List.range_succ]
theorem marks_getD (k : Int) (n i : Nat) (h : i < n) : (marks k n).getD i 0 = k + (i : Int) := by simp [marks, List.getD, h]

theorem set_mid {α : Type} (A B : List α) (x y : α) (n : Nat) (h : A.length = n) : (A ++ x :: B).set n y = A ++ y :: B := by
  subst h; simp

/-- What w' is to w if only blocks from 'lo' up to 'hi' were written. -/
structure Out (lo hi : Nat) (w w' : World) : Prop where
  os : w'.os = w.os
  tape : w'.tape = w.tape
  output : w'.output = w.output
  size : w.heap.size ≤ w'.heap.size
  block : ∀ j, j < w.heap.size → (j < lo ∨ hi ≤ j) → w'.heap[j]? = w.heap[j]?

namespace Out
variable {lo hi : Nat} {w w' w'' : World}
theorem refl (lo hi : Nat) (w : World) : Out lo hi w w := ⟨rfl, rfl, rfl, Nat.le_refl _, fun _ _ _ => rfl⟩
theorem trans (h : Out lo hi w w') (k : Out lo hi w' w'') : Out lo hi w w'' :=
  ⟨k.os.trans h.os, k.tape.trans h.tape, k.output.trans h.output, Nat.le_trans h.size k.size, fun j hj ho => (k.block j (Nat.lt_of_lt_of_le hj h.size) ho).trans (h.block j hj ho)⟩
theorem of_grown {row : Option Nat} (h : w.grownBy w' row) (hr : ∀ k, row = some k → lo ≤ k ∧ k < hi) : Out lo hi w w' :=
  ⟨h.os, h.tape, h.output, h.size, fun j hj ho => h.block j hj (fun e => by have := hr j e.symm; omega)⟩
theorem of_below {B : Nat} (h : Below B w w') (hB : w.heap.size ≤ B) : Out lo hi w w' :=
  ⟨h.os, h.tape, h.output, h.size, fun j hj _ => h.block j (by omega)⟩
theorem below {B : Nat} (h : Out lo hi w w') (h1 : B ≤ lo) (h2 : B ≤ w.heap.size) : Below B w w' :=
  ⟨h.os, h.tape, h.output, h.size, fun j hj => h.block j (by omega) (Or.inl (by omega))⟩
theorem own {e : TypeId} {l2 h2 : Nat} {v : Value} {xs : List Value} (h : Out lo hi w w') (ho : Own e w l2 h2 v xs) (hd : h2 ≤ lo ∨ hi ≤ l2) : Own e w' l2 h2 v xs :=
  ho.kept fun k k1 k2 k3 => h.block k k3 (by omega)
theorem ownR {l2 h2 : Nat} {v : Value} {vs : List Value} {xss : List (List Int)} (h : Out lo hi w w') (ho : OwnR w l2 h2 v vs xss) (hd : h2 ≤ lo ∨ hi ≤ l2) : OwnR w' l2 h2 v vs xss :=
  ho.kept fun k k1 k2 k3 => h.block k k3 (by omega)
theorem cell (h : Out lo hi w w') {p : Addr} (hp : p.block < w.heap.size) (hd : p.block < lo ∨ hi ≤ p.block) : w'.cell? p = w.cell? p := World.cell?_of_block (w := w) (h.block p.block hp hd)
end Out

theorem own_other {e : TypeId} {w w' : World} {lo hi : Nat} {u t : Value} {ys : List Value} (hg : w.grownBy w' u.ownBlock) (h : Own e w lo hi t ys) (hd : u.ownBlock = none ∨ t.ownBlock = none ∨ u.ownBlock ≠ t.ownBlock) : Own e w' lo hi t ys := by
  refine ⟨ownsRow_of_block h.row fun k hk => hg.block k (h.row.lt k hk).2 ?_, h.lt⟩
  rcases hd with hd | hd | hd
  · rw [hd]; simp
  · rw [hd] at hk; cases hk
  · rw [← hk]; exact fun e => hd e.symm

theorem markIntS_c (lo hi : Nat) (v : Value) (xs : List Int) (k : Int) (w : World) (hv : OwnI w lo hi v xs) (h0 : 0 ≤ k) (hk : k + xs.length ≤ 4611686018427387904) :
    Calls Try.prog 16 #[v, .int .i64 k] w fun e w' => e = .returned (.int .i64 (k + xs.length)) ∧ OwnI w' lo hi v (marks k xs.length) ∧ w.grownBy w' v.ownBlock := by
  obtain ⟨ao, g, cap, e, -, hao, -⟩ := hv.view
  have HV := Lib.hid hv
  clear hv
  subst e
  go_enter Try.func16, Try.ntmps16
  go_wp2_with fail
  go_loopw [1, 5] (fun s i wr => ∃ n : Nat, n ≤ xs.length ∧ i = .int .i64 n ∧ s = .int .i64 (k + (n : Int)) ∧ Hid (OwnI wr lo hi (.slice ao xs.length cap) (marks k n ++ xs.drop n) ∧ w.grownBy wr (Value.slice ao xs.length cap).ownBlock)) (fun _ i _ => xs.length - (intOf i).toNat)
  case atStart => exact ⟨0, Nat.zero_le _, rfl, by simp, by simpa [marks] using HV.out, World.grownBy.refl _ _⟩
  case round =>
    obtain ⟨n, hn, rfl, rfl, HR⟩ := hrel
    by_cases hlt : n < xs.length
    · obtain ⟨rfl, q1, q2⟩ := hao (by omega)
      obtain ⟨ao2, g2, cap2, e2, -, hao2, hc2⟩ := HR.out.1.view
      have hlen : (marks k n ++ xs.drop n).length = xs.length := by simp [marks_length]; omega
      rw [hlen] at e2 hao2 hc2
      obtain ⟨ea, -, -⟩ := hao2 (by omega)
      cases e2
      cases ea
      obtain ⟨c1, c2⟩ := hc2 n hlt
      have hstep : OwnI (wr.setCell ⟨g, n, none⟩ (.int .i64 (k + (n : Int)))) lo hi (.slice (some ⟨g, 0, none⟩) xs.length cap) (marks k (n + 1) ++ xs.drop (n + 1)) ∧ w.grownBy (wr.setCell ⟨g, n, none⟩ (.int .i64 (k + (n : Int)))) (Value.slice (some ⟨g, 0, none⟩) xs.length cap).ownBlock := by
        obtain ⟨o1, o2⟩ := HR.out
        constructor
        · have hr := o1.row
          rw [ivs_length, hlen] at hr
          have hst := hr.stored n (.int .i64 (k + (n : Int)))
          have hs : (ivs (marks k n ++ xs.drop n)).set n (.int .i64 (k + (n : Int))) = ivs (marks k (n + 1) ++ xs.drop (n + 1)) := by
            rw [marks_succ, List.drop_eq_getElem_cons hlt, ivs_append]
            show (ivs (marks k n) ++ ivs (xs[n] :: xs.drop (n + 1))).set n _ = _
            show (ivs (marks k n) ++ (Value.int .i64 xs[n] :: ivs (xs.drop (n + 1)))).set n _ = _
            rw [set_mid _ _ _ _ n (by rw [ivs_length, marks_length])]
            simp [ivs]
          refine ⟨?_, o1.lt⟩
          have hl2 : (ivs (marks k (n + 1) ++ xs.drop (n + 1))).length = xs.length := by rw [ivs_length]; simp [marks_length]; omega
          rw [hl2, ← hs]
          exact hst.1
        · refine ⟨o2.os, o2.tape, o2.output, by simpa [World.setCell] using o2.size, fun j hj hne => ?_⟩
          rw [Below.heap_setCell _ _ _ _ (by intro e; apply hne; rw [e]; rfl)]
          exact o2.block j hj hne
      have HS := Lib.hid hstep
      clear hstep hc2
      go_wp2
      go_roundw
      case rel => exact ⟨n + 1, by omega, by go_num, by go_num, HS.out⟩
      case measure => simp [intOf]; omega
    · have hF : OwnI wr lo hi (.slice ao xs.length cap) (marks k xs.length) ∧ w.grownBy wr (Value.slice ao xs.length cap).ownBlock := by
        have e : n = xs.length := by omega
        have := HR.out
        rw [e, List.drop_length, List.append_nil] at this
        exact this
      have HF := Lib.hid hF
      have HE : Hid (n = xs.length) := by show n = _; omega
      clear hF
      go_wp2
      go_ret
      exact ⟨congrArg (fun m : Nat => Ending.returned (.int .i64 (k + (m : Int)))) HE.out, HF.out⟩

theorem heldIntS_c (lo hi : Nat) (v : Value) (m : Nat) (k : Int) (w : World) (hv : OwnI w lo hi v (marks k m)) (h0 : 0 ≤ k) (hk : k + m ≤ 4611686018427387904) :
    Calls Try.prog 17 #[v, .int .i64 k] w fun e w' => e = .returned (.int .i64 (k + m)) ∧ w = w' := by
  obtain ⟨ao, g, cap, e, -, hao, hc⟩ := hv.view
  rw [marks_length] at e hao hc
  have HC := Lib.hid hc
  clear hv hc
  subst e
  go_enter Try.func17, Try.ntmps17
  go_wp2_with fail
  go_loop [1, 5] (fun s i => ∃ n : Nat, n ≤ m ∧ i = .int .i64 n ∧ s = .int .i64 (k + (n : Int))) (fun _ i => m - (intOf i).toNat)
  case atStart => exact ⟨0, Nat.zero_le _, rfl, by simp⟩
  case round =>
    obtain ⟨n, hn, rfl, rfl⟩ := hrel
    by_cases hlt : n < m
    · obtain ⟨rfl, q1, q2⟩ := hao (by omega)
      have c1 : w.cell? ⟨g, n, none⟩ = some (.int .i64 (k + (n : Int))) := by rw [(HC.out n hlt).1, marks_getD _ _ _ hlt]
      go_wp2
      go_round
      case rel => exact ⟨n + 1, by omega, by go_num, by go_num⟩
      case measure => simp [intOf]; omega
    · have HE : Hid (n = m) := by show n = _; omega
      go_wp2
      go_ret
      exact ⟨congrArg (fun m : Nat => Ending.returned (.int .i64 (k + (m : Int)))) HE.out, rfl⟩

/-- How many numbers the first i rows have. -/
def offs (xss : List (List Int)) (i : Nat) : Nat := ((xss.take i).map List.length).sum
theorem offs_succ (xss : List (List Int)) (i : Nat) (h : i < xss.length) : offs xss (i + 1) = offs xss i + (xss.getD i []).length := by
  unfold offs
  rw [take_snoc_getD [] h, List.map_append, List.sum_append]
  simp
theorem offs_mono (xss : List (List Int)) (i j : Nat) (h : i ≤ j) : offs xss i ≤ offs xss j := by
  induction j with
  | zero => obtain rfl : i = 0 := by omega
            exact Nat.le_refl _
  | succ j ih =>
    by_cases e : i = j + 1
    · rw [e]; exact Nat.le_refl _
    · have := ih (by omega)
      by_cases hj : j < xss.length
      · rw [offs_succ xss j hj]; omega
      · have : offs xss (j + 1) = offs xss j := by simp only [offs]; rw [List.take_of_length_le (by omega), List.take_of_length_le (by omega)]
        omega
/-- The rows, the first i of them marked. -/
def markR (k : Int) (xss : List (List Int)) (i : Nat) : List (List Int) := (List.range xss.length).map fun j => if j < i then marks (k + (offs xss j : Nat)) (xss.getD j []).length else xss.getD j []
theorem markR_length (k : Int) (xss : List (List Int)) (i : Nat) : (markR k xss i).length = xss.length := by simp [markR]
theorem markR_zero (k : Int) (xss : List (List Int)) : markR k xss 0 = xss := by
  simp only [markR, Nat.not_lt_zero, if_false]
  have h := map_range_getD xss [] id
  rw [List.map_id] at h
  exact h
theorem markR_get (k : Int) (xss : List (List Int)) (i j : Nat) (h : j < xss.length) : (markR k xss i).getD j [] = if j < i then marks (k + (offs xss j : Nat)) (xss.getD j []).length else xss.getD j [] := by
  simp [markR, List.getD, h]

theorem markIntSS_c (lo hi : Nat) (v : Value) (vs : List Value) (xss : List (List Int)) (k : Int) (w : World) (hv : OwnR w lo hi v vs xss) (h0 : 0 ≤ k) (hk : k + (offs xss xss.length : Nat) ≤ 4611686018427387904) (hl : xss.length ≤ 4611686018427387904) :
    Calls Try.prog 164 #[v, .int .i64 k] w fun e w' => e = .returned (.int .i64 (k + (offs xss xss.length : Nat))) ∧ OwnR w' lo hi v vs (markR k xss xss.length) ∧ Out lo hi w w' := by
  obtain ⟨ao, g, cap, e, -, hao, -⟩ := hv.rows
  have HV := Lib.hid hv
  clear hv
  subst e
  go_enter Try.func164, Try.ntmps164
  go_wp2_with fail
  go_loopw [1, 5] (fun s i wr => ∃ n : Nat, n ≤ xss.length ∧ i = .int .i64 n ∧ s = .int .i64 (k + (offs xss n : Nat)) ∧ Hid (OwnR wr lo hi (.slice ao xss.length cap) vs (markR k xss n) ∧ Out lo hi w wr)) (fun _ i _ => xss.length - (intOf i).toNat)
  case atStart => exact ⟨0, Nat.zero_le _, rfl, by simp [offs], by rw [markR_zero]; exact HV.out, Out.refl _ _ _⟩
  case round =>
    obtain ⟨n, hn, rfl, rfl, HR⟩ := hrel
    by_cases hlt : n < xss.length
    · obtain ⟨rfl, q1, q2⟩ := hao (by omega)
      obtain ⟨ao2, g2, cap2, e2, -, hao2, hc2⟩ := HR.out.1.rows
      rw [markR_length] at e2 hao2 hc2
      obtain ⟨ea, -, -⟩ := hao2 (by omega)
      cases e2
      cases ea
      obtain ⟨c1, r1⟩ := hc2 n hlt
      rw [markR_get _ _ _ _ hlt, if_neg (by omega)] at r1
      have hof := offs_succ xss n hlt
      have hmo := offs_mono xss (n + 1) xss.length (by omega)
      obtain ⟨u, hu⟩ : ∃ u, u = vs.getD n undef := ⟨_, rfl⟩
      obtain ⟨x, hx⟩ : ∃ x, x = xss.getD n [] := ⟨_, rfl⟩
      rw [← hu] at c1 r1
      rw [← hx] at r1 hof
      have R1 := Lib.hid r1
      have HU := Lib.hid hu
      have HX := Lib.hid hx
      have hb1 : k + (offs xss n : Nat) + (x.length : Nat) ≤ 4611686018427387904 := by omega
      have HOF := Lib.hid hof
      clear hc2 hu hx r1 hof
      go_wp2_with fail
      refine (markIntS_c lo hi u x _ wr R1.out (by omega) hb1).mono ?_
      rintro e w2 ⟨rfl, hm, hg⟩
      have hstep : OwnR w2 lo hi (.slice (some ⟨g, 0, none⟩) xss.length cap) vs (markR k xss (n + 1)) ∧ Out lo hi w w2 := by
        obtain ⟨o1, o2⟩ := HR.out
        have hvl : n < vs.length := by have := o1.len; rw [markR_length] at this; omega
        have hgu : vs[n]? = some u := by rw [HU.out]; simp [List.getD, List.getElem?_eq_getElem hvl]
        have hap := o1.top_apart u (List.mem_of_getElem? hgu)
        refine ⟨⟨own_other hg o1.top (by rcases hap with h | h <;> simp [h]), by rw [markR_length]; have := o1.len; rwa [markR_length] at this, ?_, o1.sep⟩, ?_⟩
        · intro i t xs a1 a2
          have hil : i < xss.length := by
            have := (List.getElem?_eq_some_iff.1 a2).1
            rwa [markR_length] at this
          have ex : xs = (markR k xss (n + 1)).getD i [] := by simp [List.getD, a2]
          rw [markR_get _ _ _ _ hil] at ex
          by_cases e : i = n
          · subst e
            rw [hgu] at a1
            simp at a1
            subst a1
            rw [if_pos (by omega), ← HX.out] at ex
            rw [ex]
            exact hm
          · have a3 : (markR k xss n)[i]? = some ((markR k xss n).getD i []) := by simp [List.getD, List.getElem?_eq_getElem (show i < (markR k xss n).length by rw [markR_length]; exact hil)]
            have hr := o1.row i t _ a1 a3
            rw [markR_get _ _ _ _ hil] at hr
            have hxs : xs = if i < n then marks (k + (offs xss i : Nat)) (xss.getD i []).length else xss.getD i [] := by
              rw [ex]
              by_cases e2 : i < n
              · rw [if_pos e2, if_pos (by omega)]
              · rw [if_neg e2, if_neg (by omega)]
            rw [hxs]
            refine own_other hg hr ?_
            have hp := List.pairwise_iff_getElem.1 o1.sep
            have hti : vs[i]'((List.getElem?_eq_some_iff.1 a1).1) = t := (List.getElem?_eq_some_iff.1 a1).2
            have hun : vs[n] = u := (List.getElem?_eq_some_iff.1 hgu).2
            rcases Nat.lt_or_ge i n with hin | hin
            · have := hp i n (List.getElem?_eq_some_iff.1 a1).1 hvl hin
              rw [hti, hun] at this
              rcases this with h | h
              · exact Or.inr (Or.inl h)
              · exact Or.inr (Or.inr fun e => h e.symm)
            · have := hp n i hvl (List.getElem?_eq_some_iff.1 a1).1 (by omega)
              rw [hti, hun] at this
              rcases this with h | h
              · exact Or.inl h
              · exact Or.inr (Or.inr h)
        · exact o2.trans (Out.of_grown hg fun j hj => ⟨(R1.out.row.lt j hj).1, R1.out.lt j hj⟩)
      have HS := Lib.hid hstep
      clear hstep hm hg
      go_wp2
      go_roundw
      case rel => exact ⟨n + 1, by omega, by go_num, by rw [HOF.out]; go_num, HS.out⟩
      case measure => simp [intOf]; omega
    · have HE : Hid (n = xss.length) := by show n = _; omega
      go_wp2
      go_ret
      have hE := HE.out
      subst hE
      exact ⟨rfl, HR.out⟩

theorem heldIntSS_c (lo hi : Nat) (v : Value) (vs : List Value) (xss : List (List Int)) (k : Int) (w : World) (hv : OwnR w lo hi v vs (markR k xss xss.length)) (h0 : 0 ≤ k) (hk : k + (offs xss xss.length : Nat) ≤ 4611686018427387904) (hl : xss.length ≤ 4611686018427387904) :
    Calls Try.prog 165 #[v, .int .i64 k] w fun e w' => e = .returned (.int .i64 (k + (offs xss xss.length : Nat))) ∧ w = w' := by
  obtain ⟨ao, g, cap, e, -, hao, hc⟩ := hv.rows
  rw [markR_length] at e hao hc
  have HC := Lib.hid hc
  clear hv hc
  subst e
  go_enter Try.func165, Try.ntmps165
  go_wp2_with fail
  go_loop [1, 5] (fun s i => ∃ n : Nat, n ≤ xss.length ∧ i = .int .i64 n ∧ s = .int .i64 (k + (offs xss n : Nat))) (fun _ i => xss.length - (intOf i).toNat)
  case atStart => exact ⟨0, Nat.zero_le _, rfl, by simp [offs]⟩
  case round =>
    obtain ⟨n, hn, rfl, rfl⟩ := hrel
    by_cases hlt : n < xss.length
    · obtain ⟨rfl, q1, q2⟩ := hao (by omega)
      obtain ⟨c1, r1⟩ := HC.out n hlt
      rw [markR_get _ _ _ _ hlt, if_pos (by omega)] at r1
      have hof := offs_succ xss n hlt
      have hmo := offs_mono xss (n + 1) xss.length (by omega)
      obtain ⟨u, hu⟩ : ∃ u, u = vs.getD n undef := ⟨_, rfl⟩
      obtain ⟨x, hx⟩ : ∃ x, x = (xss.getD n []).length := ⟨_, rfl⟩
      rw [← hu] at c1 r1
      rw [← hx] at r1 hof
      have R1 := Lib.hid r1
      have hb1 : k + (offs xss n : Nat) + (x : Nat) ≤ 4611686018427387904 := by omega
      have HOF := Lib.hid hof
      clear hu hx r1 hof
      go_wp2_with fail
      refine (heldIntS_c lo hi u x _ _ R1.out (by omega) hb1).mono ?_
      rintro e w2 ⟨rfl, rfl⟩
      go_wp2
      go_round
      case rel => exact ⟨n + 1, by omega, by go_num, by rw [HOF.out]; go_num⟩
      case measure => simp [intOf]; omega
    · have HE : Hid (n = xss.length) := by show n = _; omega
      go_wp2
      go_ret
      have hE := HE.out
      subst hE
      exact ⟨rfl, rfl⟩

theorem markNetwork_c (lo hi : Nat) (m : Int) (v : Value) (vs : List Value) (xss : List (List Int)) (k : Int) (w : World) (hv : OwnR w lo hi v vs xss) (h1 : hi ≤ w.heap.size) (h0 : 0 ≤ k) (hk : k + (offs xss xss.length : Nat) ≤ 4611686018427387904) (hl : xss.length ≤ 4611686018427387904) :
    Calls Try.prog 79 #[.agg #[.int .i64 m, v], .int .i64 k] w fun e w' => e = .returned (.int .i64 (k + (offs xss xss.length : Nat))) ∧ OwnR w' lo hi v vs (markR k xss xss.length) ∧ Out lo hi w w' := by
  obtain ⟨ao, g, cap, e, -, -, -⟩ := hv.rows
  have HV := Lib.hid hv
  clear hv
  subst e
  go_enter Try.func79, Try.ntmps79
  go_wp2_with fail
  obtain ⟨W1, hW1, c0, c1, hsz, hB1, -, -⟩ := box2 w (.int .i64 m) (.slice ao xss.length cap) 30
  rw [hW1]
  clear hW1
  refine (markIntSS_c lo hi _ vs xss k W1 (HV.out.below hB1 h1) h0 hk hl).mono ?_
  rintro e w2 ⟨rfl, ho, hb2⟩
  have HO : Hid (OwnR w2 lo hi (.slice ao xss.length cap) vs (markR k xss xss.length) ∧ Out lo hi w w2) := ⟨ho, (Out.of_below hB1 (Nat.le_refl _)).trans hb2⟩
  clear ho hb2 c0 c1
  go_wp2
  go_ret
  exact ⟨rfl, HO.out⟩

theorem heldNetwork_c (lo hi : Nat) (m : Int) (v : Value) (vs : List Value) (xss : List (List Int)) (k : Int) (w : World) (hv : OwnR w lo hi v vs (markR k xss xss.length)) (h1 : hi ≤ w.heap.size) (h0 : 0 ≤ k) (hk : k + (offs xss xss.length : Nat) ≤ 4611686018427387904) (hl : xss.length ≤ 4611686018427387904) :
    Calls Try.prog 80 #[.agg #[.int .i64 m, v], .int .i64 k] w fun e w' => e = .returned (.int .i64 (k + (offs xss xss.length : Nat))) ∧ Below w.heap.size w w' := by
  obtain ⟨ao, g, cap, e, -, -, -⟩ := hv.rows
  rw [markR_length] at e
  have HV := Lib.hid hv
  clear hv
  subst e
  go_enter Try.func80, Try.ntmps80
  go_wp2_with fail
  obtain ⟨W1, hW1, c0, c1, hsz, hB1, -, -⟩ := box2 w (.int .i64 m) (.slice ao xss.length cap) 30
  rw [hW1]
  clear hW1
  refine (heldIntSS_c lo hi _ vs xss k W1 (HV.out.below hB1 h1) h0 hk hl).mono ?_
  rintro e w2 ⟨rfl, rfl⟩
  clear c0 c1
  go_wp2
  go_ret
  exact ⟨rfl, hB1⟩
end Go.Proofs.Ytiodolbgapjmkaa
