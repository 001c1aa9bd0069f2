/- The walk of the reference's Equal. -/
import Derived.Test.YticbpifgjjcjmaaEng
namespace Go.Proofs.Yticbpifgjjcjmaa
open Go.RowKit Go.Maps
def eqB (W H : Int) (D : List Bool) (W' H' : Int) (D' : List Bool) : Bool := decide (W = W' ∧ H = H' ∧ D = D')
theorem getD_lt (D : List Bool) (j : Nat) (h : j < D.length) : D[j]? = some (D.getD j false) := by
  simp [List.getD_eq_getElem?_getD, List.getElem?_eq_getElem h]
theorem eqB_step {W H : Int} {D D' : List Bool} {k : Nat} (h : D.getD k false ≠ D'.getD k false) : eqB W H D W H D' = false := by
  unfold eqB
  rw [decide_eq_false_iff_not]
  rintro ⟨_, _, rfl⟩
  exact h rfl
theorem eqB_all {W H : Int} {D D' : List Bool} (hl : D.length = D'.length) (h : ∀ j, j < D.length → D.getD j false = D'.getD j false) : eqB W H D W H D' = true := by
  unfold eqB
  rw [decide_eq_true_eq]
  refine ⟨rfl, rfl, List.ext_getElem? fun i => ?_⟩
  rcases Nat.lt_or_ge i D.length with hi | hi
  · rw [getD_lt D i hi, getD_lt D' i (by omega), h i hi]
  · rw [List.getElem?_eq_none hi, List.getElem?_eq_none (by omega)]
set_option maxRecDepth 100000 in
set_option maxHeartbeats 2000000 in
theorem equal_any (W H : Int) (A : Option Addr) (D : List Bool) (c : Nat) (W' H' : Int) (A' : Option Addr) (D' : List Bool) (c' : Nat) (w : World) (hr : RdB w A D) (hr' : RdB w A' D') (hl : D.length ≤ 4611686018427387904) :
    Calls Try.prog 16 #[.agg (matA W H A D.length c), .agg (matA W' H' A' D'.length c')] w fun e w' => e = .returned (.bool (eqB W H D W' H' D')) ∧ Below w.heap.size w w' := by
  have HR := Lib.hid hr
  have HR' := Lib.hid hr'
  clear hr hr'
  by_cases hW : W = W'
  · by_cases hH : H = H'
    · by_cases hn : D.length = D'.length
      · have t1 : (W != W') = false := by rw [bne_eq_false_iff_eq]; exact hW
        have t2 : (H != H') = false := by rw [bne_eq_false_iff_eq]; exact hH
        have t3 : ((D.length : Int) != (D'.length : Int)) = false := by rw [bne_eq_false_iff_eq, hn]
        subst hW hH
        have HN := Lib.hid hn
        clear hn
        unfold matA
        go_enter Try.func16, Try.ntmps16
        go_wp2_with (first | (refine wpList_box rfl 24 _ rfl _ rfl ?_; intro w1 hb1 hB1 hz1; have hb1 : Blk w1 w.heap.size 24 (matA W H A D.length c) := hb1; have H1 := Lib.hid hz1; clear hz1; refine wpList_box rfl 24 _ rfl _ rfl ?_; intro w2 hb2 hB2 hz2; have hb2 : Blk w2 w1.heap.size 24 (matA W H A' D'.length c') := hb2; have hb1' := hb1.below hB2 (by have := H1.out; omega); rw [H1.out] at hb2; obtain ⟨c0, c1, c2⟩ := mat_cells hb1'; obtain ⟨d0, d1, d2⟩ := mat_cells hb2; have HBB := Lib.hid (hB1.trans (hB2.mono (by have := H1.out; omega))); rw [H1.out]; have hsz2 : w.heap.size + 2 ≤ w2.heap.size := by have := H1.out; omega))
        have Hb1 := Lib.hid hb1'
        have Hb2 := Lib.hid hb2
        clear c0 c1 c2 d0 d1 d2 hb1' hb2 t1 t2 t3 hb1 hB1 hB2
        go_loopw [5] (fun vi wr => ∃ k : Nat, k ≤ D.length ∧ vi = .int .i64 (k : Int) ∧ (∀ j, j < k → D.getD j false = D'.getD j false) ∧ Blk wr w.heap.size 24 (matA W H A D.length c) ∧ Blk wr (w.heap.size + 1) 24 (matA W H A' D'.length c') ∧ Below w.heap.size w wr) (fun vi _ => D.length - (intOf vi).toNat)
        case atStart => exact ⟨0, Nat.zero_le _, rfl, fun j hj => absurd hj (Nat.not_lt_zero _), Hb1.out, Hb2.out, HBB.out⟩
        case round =>
          clear Hb1 Hb2 HBB
          obtain ⟨k, hk, rfl, hall, hb1, hb2, hB⟩ := hrel
          have HA := Lib.hid hall
          have Hb1 := Lib.hid hb1
          have Hb2 := Lib.hid hb2
          have HB := Lib.hid hB
          obtain ⟨c0, c1, c2⟩ := mat_cells hb1
          obtain ⟨d0, d1, d2⟩ := mat_cells hb2
          have h1 := HR.out.below hB (Nat.le_refl _)
          have h2 := HR'.out.below hB (Nat.le_refl _)
          have HRR := Lib.hid h1
          have HRR' := Lib.hid h2
          clear hall hb1 hb2 hB h1 h2
          by_cases hlt : k < D.length
          · have hd : decide ((k : Int) < (D.length : Int)) = true := decide_eq_true (by omega)
            obtain ⟨ad, rfl, hcell⟩ := HRR.out.at_ hlt
            obtain ⟨ad', rfl, hcell'⟩ := HRR'.out.at_ (show k < D'.length by have := HN.out; omega)
            have hk2 : k < D'.length := by have := HN.out; omega
            by_cases hx : D.getD k false = D'.getD k false
            · rw [← hx] at hcell'
              have HX := Lib.hid hx
              clear hx
              have HS : Hid (∀ j, j < k + 1 → D.getD j false = D'.getD j false) := Lib.hid (fun j hj => by
                by_cases hjk : j = k
                · subst hjk; exact HX.out
                · exact HA.out j (by omega))
              cases hd1 : D.getD k false
              all_goals
                rw [hd1] at hcell hcell'
                clear hd1
                go_wp2_with fail
                go_quiet (fail)
                have Hb1d : Hid (Blk (wr.drewN nq) w.heap.size 24 (matA W H (some ad) D.length c)) := Lib.hid Hb1.out
                have Hb2d : Hid (Blk (wr.drewN nq) (w.heap.size + 1) 24 (matA W H (some ad') D'.length c')) := Lib.hid Hb2.out
                have HBd := Lib.hid (below_drewN HB.out nq)
                go_wp2_with fail
                go_roundw
                case rel => exact ⟨k + 1, by omega, by go_num, HS.out, Hb1d.out, Hb2d.out, HBd.out⟩
                case measure => simp [intOf]; omega
            · have HE := Lib.hid (eqB_step (W := W) (H := H) hx)
              cases hd1 : D.getD k false <;> cases hd2 : D'.getD k false
              · exact absurd (hd1.trans hd2.symm) hx
              · rw [hd1] at hcell
                rw [hd2] at hcell'
                clear hd1 hd2 hx
                go_wp2_with fail
                go_quiet (fail)
                have HBd := Lib.hid (below_drewN HB.out nq)
                go_wp2_with fail
                go_ret
                exact ⟨by rw [HE.out]; rfl, HBd.out⟩
              · rw [hd1] at hcell
                rw [hd2] at hcell'
                clear hd1 hd2 hx
                go_wp2_with fail
                go_quiet (fail)
                have HBd := Lib.hid (below_drewN HB.out nq)
                go_wp2_with fail
                go_ret
                exact ⟨by rw [HE.out]; rfl, HBd.out⟩
              · exact absurd (hd1.trans hd2.symm) hx
          · have hd : decide ((k : Int) < (D.length : Int)) = false := decide_eq_false (by omega)
            obtain rfl : k = D.length := by omega
            have HE := Lib.hid (eqB_all (W := W) (H := H) HN.out HA.out)
            go_wp2_with fail
            go_ret
            exact ⟨by rw [HE.out]; rfl, HB.out⟩
      · have t1 : (W != W') = false := by rw [bne_eq_false_iff_eq]; exact hW
        have t2 : (H != H') = false := by rw [bne_eq_false_iff_eq]; exact hH
        have t3 : ((D.length : Int) != (D'.length : Int)) = true := by rw [bne_iff_ne]; omega
        have HE := Lib.hid (show eqB W H D W' H' D' = false from by unfold eqB; rw [decide_eq_false_iff_not]; rintro ⟨h1, h2, h3⟩; exact hn (by rw [h3]))
        rw [HE.out]
        unfold matA
        go_enter Try.func16, Try.ntmps16
        go_wp2_with (first | (refine wpList_box rfl 24 _ rfl _ rfl ?_; intro w1 hb1 hB1 hz1; have hb1 : Blk w1 w.heap.size 24 (matA W H A D.length c) := hb1; have H1 := Lib.hid hz1; clear hz1; refine wpList_box rfl 24 _ rfl _ rfl ?_; intro w2 hb2 hB2 hz2; have hb2 : Blk w2 w1.heap.size 24 (matA W' H' A' D'.length c') := hb2; have hb1' := hb1.below hB2 (by have := H1.out; omega); rw [H1.out] at hb2; obtain ⟨c0, c1, c2⟩ := mat_cells hb1'; obtain ⟨d0, d1, d2⟩ := mat_cells hb2; have HBB := Lib.hid (hB1.trans (hB2.mono (by have := H1.out; omega))); rw [H1.out]; have hsz2 : w.heap.size + 2 ≤ w2.heap.size := by have := H1.out; omega))
        go_ret
        exact ⟨rfl, HBB.out⟩
    · have t1 : (W != W') = false := by rw [bne_eq_false_iff_eq]; exact hW
      have t2 : (H != H') = true := by rw [bne_iff_ne]; exact hH
      have HE := Lib.hid (show eqB W H D W' H' D' = false from by unfold eqB; rw [decide_eq_false_iff_not]; rintro ⟨h1, h2, h3⟩; exact hH h2)
      rw [HE.out]
      unfold matA
      go_enter Try.func16, Try.ntmps16
      go_wp2_with (first | (refine wpList_box rfl 24 _ rfl _ rfl ?_; intro w1 hb1 hB1 hz1; have hb1 : Blk w1 w.heap.size 24 (matA W H A D.length c) := hb1; have H1 := Lib.hid hz1; clear hz1; refine wpList_box rfl 24 _ rfl _ rfl ?_; intro w2 hb2 hB2 hz2; have hb2 : Blk w2 w1.heap.size 24 (matA W' H' A' D'.length c') := hb2; have hb1' := hb1.below hB2 (by have := H1.out; omega); rw [H1.out] at hb2; obtain ⟨c0, c1, c2⟩ := mat_cells hb1'; obtain ⟨d0, d1, d2⟩ := mat_cells hb2; have HBB := Lib.hid (hB1.trans (hB2.mono (by have := H1.out; omega))); rw [H1.out]; have hsz2 : w.heap.size + 2 ≤ w2.heap.size := by have := H1.out; omega))
      go_ret
      exact ⟨rfl, HBB.out⟩
  · have t1 : (W != W') = true := by rw [bne_iff_ne]; exact hW
    have HE := Lib.hid (show eqB W H D W' H' D' = false from by unfold eqB; rw [decide_eq_false_iff_not]; rintro ⟨h1, h2, h3⟩; exact hW h1)
    rw [HE.out]
    unfold matA
    go_enter Try.func16, Try.ntmps16
    go_wp2_with (first | (refine wpList_box rfl 24 _ rfl _ rfl ?_; intro w1 hb1 hB1 hz1; have hb1 : Blk w1 w.heap.size 24 (matA W H A D.length c) := hb1; have H1 := Lib.hid hz1; clear hz1; refine wpList_box rfl 24 _ rfl _ rfl ?_; intro w2 hb2 hB2 hz2; have hb2 : Blk w2 w1.heap.size 24 (matA W' H' A' D'.length c') := hb2; have hb1' := hb1.below hB2 (by have := H1.out; omega); rw [H1.out] at hb2; obtain ⟨c0, c1, c2⟩ := mat_cells hb1'; obtain ⟨d0, d1, d2⟩ := mat_cells hb2; have HBB := Lib.hid (hB1.trans (hB2.mono (by have := H1.out; omega))); rw [H1.out]; have hsz2 : w.heap.size + 2 ≤ w2.heap.size := by have := H1.out; omega))
    go_ret
    exact ⟨rfl, HBB.out⟩
end Go.Proofs.Yticbpifgjjcjmaa
