/- Whether a network is valid: the program's test and the reference's, by their contract. Conditions: none. -/
import Derived.Test.YtiodolbgapjmkaaGreatDoorSmall
import Derived.Test.YtiodolbgapjmkaaGreatDoorLater
namespace Go.Proofs.YtiodolbgapjmkaaGreatDoor
open Go.RowKit
set_option maxRecDepth 100000

theorem isWire_c (n k : Int) (v : Value) (w : World) : Calls Tryz.prog 52 #[.agg #[.int .i64 n, v], .int .i64 k] w fun e w' => e = .returned (.bool (inB k 0 (n-1))) ∧ Below w.heap.size w w' := by
  by_cases h1 : 0 ≤ k
  all_goals by_cases h2 : k < n
  all_goals
    go_enter Tryz.func52, Tryz.ntmps52
    go_wp2
    go_ret
    exact ⟨by simp [inB, h1]; try omega, (Below.refl _ _).alloc (Nat.le_refl _) _⟩

/-- A pair of wires of a network of n wires. -/
def pairOk (n : Int) (p : List Int) : Bool := decide (p.length = 2) && (p.getD 0 0 != p.getD 1 0) && inB (p.getD 0 0) 0 (n-1) && inB (p.getD 1 0) 0 (n-1)
def netOk (n : Int) (xss : List (List Int)) : Bool := inB n 1 8 && decide (xss.length ≤ 60) && xss.all (pairOk n)

theorem netOk_no (n : Int) (xss : List (List Int)) (k : Nat) (hk : k < xss.length) (h : pairOk n (xss.getD k []) = false) : netOk n xss = false := by
  have : xss.all (pairOk n) = false := by
    rw [List.all_eq_false]
    exact ⟨xss[k], List.getElem_mem hk, by rw [← Bool.not_eq_true] at h; simpa [List.getD, List.getElem?_eq_getElem hk] using h⟩
  simp [netOk, this]
theorem all_snoc {f : List Int → Bool} {xss : List (List Int)} {k : Nat} (h : (xss.take k).all f = true) (hk : k < xss.length) (h2 : f (xss.getD k []) = true) : (xss.take (k + 1)).all f = true := by
  rw [List.take_succ_eq_append_getElem hk, List.all_append, h]
  simpa [List.getD, List.getElem?_eq_getElem hk] using h2

theorem NetworkOk_main (n : Int) (lo hi : Nat) (v : Value) (vs : List Value) (xss : List (List Int)) (w : World) (hv : OwnR w lo hi v vs xss) (hhi : hi ≤ w.heap.size) (h1 : inB n 1 8 = true) (h2 : xss.length ≤ 60) :
    Calls Tryz.prog 22 #[.agg #[.int .i64 n, v]] w fun e w' => e = .returned (.bool (netOk n xss)) ∧ Below w.heap.size w w' := by
  obtain ⟨ao, g, cap, A, G, C, rfl, hcap, hao, hrow⟩ := hv.view
  clear hv hcap
  have HROW := Lib.hid hrow
  clear hrow
  have fin : ∀ b : Bool, b = netOk n xss → ∀ w1, Below w.heap.size w w1 → (Ending.returned (.bool b) = Ending.returned (.bool (netOk n xss)) ∧ Below w.heap.size w w1) := fun b hb w1 h => ⟨by rw [hb], h⟩
  have FIN := Lib.hid fin
  clear fin
  go_enter Tryz.func22, Tryz.ntmps22
  go_wp2_with (first | (go_at_call 51; refine (isWires_c _ _).mono ?_; rintro e w' ⟨rfl, rfl⟩))
  obtain ⟨W1, hW1, c0, c1, hsz, hB1, -, -⟩ := box2 w (.int .i64 n) (.slice ao xss.length cap) 25
  rw [hW1]
  clear hW1
  have hsz' : w.heap.size < W1.heap.size := by omega
  have HSZ := Lib.hid hsz
  clear hsz
  obtain ⟨bc1, -⟩ := bcell hB1
  go_loopw [18] (fun i wr => ∃ k : Nat, k ≤ xss.length ∧ i = .int .i64 k ∧ (xss.take k).all (pairOk n) = true ∧ Below W1.heap.size W1 wr) (fun i _ => xss.length - (intOf i).toNat)
  case atStart => exact ⟨0, Nat.zero_le _, rfl, by simp, Below.refl _ _⟩
  case round =>
    obtain ⟨k, hk, rfl, hall, hb⟩ := hrel
    have HALL := Lib.hid hall
    clear hall
    have d0 : wr.cell? ⟨w.heap.size, 0, none⟩ = some (.int .i64 n) := (hb.cell (p := ⟨w.heap.size, 0, none⟩) hsz').trans c0
    have hz := bsize hb
    have hbw : Below w.heap.size w wr := hB1.trans (hb.mono (by omega))
    by_cases hlt : k < xss.length
    · obtain ⟨q1, q2, q3, q4⟩ := HROW.out k hlt
      obtain ⟨rfl, hg1, hg2⟩ := hao (by omega)
      have d1 : wr.cell? ⟨w.heap.size, 1, none⟩ = some (.slice (some ⟨g, 0, none⟩) xss.length cap) := (hb.cell (p := ⟨w.heap.size, 1, none⟩) hsz').trans c1
      obtain ⟨p, hp⟩ : ∃ p, p = xss.getD k [] := ⟨_, rfl⟩
      rw [← hp] at q1 q2 q3 q4
      have HP := Lib.hid hp
      clear hp
      have hgk : wr.cell? ⟨g, k, none⟩ = some (.slice (A k) p.length (C k)) := (hbw.cell (p := ⟨g, k, none⟩) (by show g < _; omega)).trans q1
      clear q1
      have Q4 := Lib.hid q4
      clear q4
      have hwr : w.heap.size < wr.heap.size := by omega
      by_cases e2 : p.length = 2
      · obtain ⟨x, y, rfl⟩ : ∃ x y, p = [x, y] := by
          match p, e2 with
          | [x, y], _ => exact ⟨x, y, rfl⟩
        obtain ⟨ea, hg3, hg4⟩ := q3 (by simp)
        rw [ea] at hgk
        replace hgk : wr.cell? ⟨g, k, none⟩ = some (.slice (some ⟨G k, 0, none⟩) 2 (C k)) := hgk
        have px : wr.cell? ⟨G k, 0, none⟩ = some (.int .i64 x) := (hbw.cell (p := ⟨G k, 0, none⟩) (by show G k < _; omega)).trans (Q4.out 0 (by simp))
        have py : wr.cell? ⟨G k, 1, none⟩ = some (.int .i64 y) := (hbw.cell (p := ⟨G k, 1, none⟩) (by show G k < _; omega)).trans (Q4.out 1 (by simp))
        have hGk : G k < wr.heap.size := by omega
        clear ea e2 q2 q3
        have hp3 := HP.out
        by_cases e3 : x = y
        · have HNO : Hid (netOk n xss = false) := netOk_no _ _ k hlt (by rw [← hp3]; simp [pairOk, e3])
          clear hp3
          have e3' : (x == y) = true := by rw [beq_iff_eq]; exact e3
          clear e3
          go_wp2_with fail
          refine wp_region_later wr.heap.size wr (by kernel_rfl) (by kernel_rfl) (Below.refl _ _) ?_
          have hLW := LW.cells (B := wr.heap.size) (w0 := wr)
          repeat (go_big_quiet_step (fail))
          refine wpQuiet_nil ?_
          rintro w2 ⟨⟨w2s, hb2⟩, rfl⟩
          clear hLW
          go_wp2
          go_ret
          exact FIN.out _ HNO.out.symm _ (hbw.trans (hb2.mono (by omega)))
        · have e3' : (x == y) = false := by rw [beq_eq_false_iff_ne]; exact e3
          by_cases e4 : inB x 0 (n - 1) = true
          · by_cases e5 : inB y 0 (n - 1) = true
            · have HOK : Hid (pairOk n (xss.getD k []) = true) := by show pairOk n _ = true; rw [← hp3]; simp [pairOk, e3, e4, e5]
              clear hp3 e3
              go_wp2_with fail
              refine wp_region_later wr.heap.size wr (by kernel_rfl) (by kernel_rfl) (Below.refl _ _) ?_
              have hLW := LW.cells (B := wr.heap.size) (w0 := wr)
              repeat (go_big_quiet_step ((go_at_call 52; refine LW.call (Nat.le_refl _) (isWire_c _ _ _ _))))
              refine wpQuiet_nil ?_
              rintro w2 ⟨⟨w2s, hb2⟩, rfl⟩
              clear hLW
              go_wp2
              go_roundw
              case rel => exact ⟨k + 1, by omega, by go_num, all_snoc HALL.out hlt HOK.out, hb.trans (hb2.mono (by omega))⟩
              case measure => simp [intOf]; omega
            · have HNO : Hid (netOk n xss = false) := netOk_no _ _ k hlt (by rw [← hp3]; simp [pairOk, e5])
              replace e5 : inB y 0 (n - 1) = false := by simpa using e5
              clear hp3 e3
              go_wp2_with fail
              refine wp_region_later wr.heap.size wr (by kernel_rfl) (by kernel_rfl) (Below.refl _ _) ?_
              have hLW := LW.cells (B := wr.heap.size) (w0 := wr)
              repeat (go_big_quiet_step ((go_at_call 52; refine LW.call (Nat.le_refl _) (isWire_c _ _ _ _))))
              refine wpQuiet_nil ?_
              rintro w2 ⟨⟨w2s, hb2⟩, rfl⟩
              clear hLW
              go_wp2
              go_ret
              exact FIN.out _ HNO.out.symm _ (hbw.trans (hb2.mono (by omega)))
          · have HNO : Hid (netOk n xss = false) := netOk_no _ _ k hlt (by rw [← hp3]; simp [pairOk, e4])
            replace e4 : inB x 0 (n - 1) = false := by simpa using e4
            clear hp3 e3
            go_wp2_with fail
            refine wp_region_later wr.heap.size wr (by kernel_rfl) (by kernel_rfl) (Below.refl _ _) ?_
            have hLW := LW.cells (B := wr.heap.size) (w0 := wr)
            repeat (go_big_quiet_step ((go_at_call 52; refine LW.call (Nat.le_refl _) (isWire_c _ _ _ _))))
            refine wpQuiet_nil ?_
            rintro w2 ⟨⟨w2s, hb2⟩, rfl⟩
            clear hLW
            go_wp2
            go_ret
            exact FIN.out _ HNO.out.symm _ (hbw.trans (hb2.mono (by omega)))
      · have HNO : Hid (netOk n xss = false) := netOk_no _ _ k hlt (by rw [← HP.out]; simp [pairOk, e2])
        have e2' : ((p.length : Int) == 2) = false := by rw [beq_eq_false_iff_ne]; omega
        have e2'' : ((p.length : Int) != 2) = true := by rw [bne_iff_ne]; omega
        go_wp2_with fail
        refine wp_region_later wr.heap.size wr (by kernel_rfl) (by kernel_rfl) (Below.refl _ _) ?_
        have hLW := LW.cells (B := wr.heap.size) (w0 := wr)
        repeat (go_big_quiet_step (fail))
        refine wpQuiet_nil ?_
        rintro w2 ⟨⟨w2s, hb2⟩, rfl⟩
        clear hLW
        go_wp2
        go_ret
        exact FIN.out _ HNO.out.symm _ (hbw.trans (hb2.mono (by omega)))
    · have HOK : Hid (netOk n xss = true) := by
        have := HALL.out
        rw [List.take_of_length_le (by omega)] at this
        show netOk n xss = true
        simp [netOk, h1, h2, this]
      go_wp2
      go_ret
      exact FIN.out _ HOK.out.symm _ hbw

theorem NetworkOk_c (n : Int) (lo hi : Nat) (v : Value) (vs : List Value) (xss : List (List Int)) (w : World) (hv : OwnR w lo hi v vs xss) (hhi : hi ≤ w.heap.size) :
    Calls Tryz.prog 22 #[.agg #[.int .i64 n, v]] w fun e w' => e = .returned (.bool (netOk n xss)) ∧ Below w.heap.size w w' := by
  by_cases h1 : inB n 1 8 = true
  · by_cases h2 : xss.length ≤ 60
    · exact NetworkOk_main n lo hi v vs xss w hv hhi h1 h2
    · have HNO : Hid (netOk n xss = false) := by show netOk n xss = false; simp [netOk, h2]
      have h2' : (60 : Int) < (xss.length : Int) := by omega
      clear h2
      obtain ⟨ao, g, cap, A, G, C, rfl, hcap, hao, hrow⟩ := hv.view
      clear hv hcap hrow hao
      go_enter Tryz.func22, Tryz.ntmps22
      go_wp2_with (go_at_call 51; refine (isWires_c _ _).mono ?_; rintro e w' ⟨rfl, rfl⟩)
      go_ret
      exact ⟨congrArg (fun b => Ending.returned (.bool b)) HNO.out.symm, (Below.refl _ _).alloc (Nat.le_refl _) _⟩
  · have HNO : Hid (netOk n xss = false) := by show netOk n xss = false; simp [netOk, h1]
    replace h1 : inB n 1 8 = false := by simpa using h1
    obtain ⟨ao, g, cap, A, G, C, rfl, hcap, hao, hrow⟩ := hv.view
    clear hv hcap hrow hao
    go_enter Tryz.func22, Tryz.ntmps22
    go_wp2_with (go_at_call 51; refine (isWires_c _ _).mono ?_; rintro e w' ⟨rfl, rfl⟩)
    go_ret
    exact ⟨congrArg (fun b => Ending.returned (.bool b)) HNO.out.symm, (Below.refl _ _).alloc (Nat.le_refl _) _⟩

end Go.Proofs.YtiodolbgapjmkaaGreatDoor
