/- The walk of the reference's Estimate. -/
import Derived.Test.YticbpifgjjcjmaaEst
import Derived.Test.YticbpifgjjcjmaaRen
namespace Go.Proofs.Yticbpifgjjcjmaa
open Go.RowKit Go.Maps
/-- the best behind the first k rounds of the reference -/
def refBest (W : Nat) (D : List Bool) (den : Int) : Nat → Int × Int
  | 0 => (0, -1)
  | k + 1 => ((Skew.est W D den k).1, (((Skew.est W D den k).2 : Nat) : Int))
def refTake (W : Nat) (D : List Bool) (den : Int) (b : Int × Int) (num : Int) : Int × Int := if b.2 < ((Skew.energy W D num den : Nat) : Int) then (num, ((Skew.energy W D num den : Nat) : Int)) else b
theorem refBest_step (W : Nat) (D : List Bool) (den : Int) (k : Nat) : refBest W D den (k + 1) = refTake W D den (refTake W D den (refBest W D den k) (k : Int)) (-(k : Int)) := by
  cases k with
  | zero =>
    have h1 : refTake W D den (refBest W D den 0) ((0 : Nat) : Int) = (0, ((Skew.energy W D 0 den : Nat) : Int)) := if_pos (by show (-1 : Int) < _; omega)
    rw [h1]
    have h2 : refTake W D den (0, ((Skew.energy W D 0 den : Nat) : Int)) (-((0 : Nat) : Int)) = (0, ((Skew.energy W D 0 den : Nat) : Int)) := if_neg (by simp)
    rw [h2]; rfl
  | succ k =>
    have key : ∀ (b : Int × Nat) (num : Int), refTake W D den (b.1, (b.2 : Int)) num = ((Skew.take W D den b num).1, (((Skew.take W D den b num).2 : Nat) : Int)) := by
      intro b num
      unfold refTake Skew.take
      simp only [Int.ofNat_lt]
      split <;> rfl
    rw [show refBest W D den (k + 1) = ((Skew.est W D den k).1, (((Skew.est W D den k).2 : Nat) : Int)) from rfl, key, key]
    rw [show ((k + 1 : Nat) : Int) = (k : Int) + 1 from by omega, show -((k : Int) + 1) = -(k : Int) - 1 from by omega]
    rfl
set_option maxRecDepth 100000 in
set_option maxHeartbeats 2000000 in
theorem refestimate_any (W H : Int) (A : Option Addr) (D : List Bool) (c : Nat) (most den : Int) (w : World) (hr : RdB w A D) :
    Calls Try.prog 20 #[.agg (matA W H A D.length c), .int .i64 most, .int .i64 den] w fun e w' => e = .returned (.tuple #[.int .i64 (estS W H D most den).1, .int .i64 (estS W H D most den).2]) ∧ Below w.heap.size w w' := by
  have HR := Lib.hid hr
  clear hr
  cases hs : sndB W H D.length
  · have he : estS W H D most den = (0, 1) := by unfold estS; rw [hs]; rfl
    rw [he]
    clear he
    unfold matA
    go_enter Try.func20, Try.ntmps20
    go_wp2_with (refine wpList_box rfl 24 _ rfl _ rfl ?_; intro w1 hb1 hB1 hz1; have hb1 : Blk w1 w.heap.size 24 (matA W H A D.length c) := hb1; obtain ⟨c0, c1, c2⟩ := mat_cells hb1; have H1 := Lib.hid hz1; clear hz1)
    refine (refcheck_any W H A D.length c _).mono ?_
    rintro e w2 ⟨rfl, hB2⟩
    rw [hs]
    have HBB := Lib.hid (hB1.trans (hB2.mono (by have := H1.out; omega)))
    go_wp2_with fail
    go_ret2
    exact ⟨rfl, HBB.out⟩
  · rcases most_ways most den with ⟨hp, t1, t2, t3, t4⟩ | ⟨hp, t1⟩ | ⟨hp, t1, t2⟩ | ⟨hp, t1, t2, t3⟩ | ⟨hp, t1, t2, t3, t4⟩
    · have he : estS W H D most den = ((Skew.est W.toNat D den most.toNat).1, 0) := by unfold estS; rw [hs, hp]; rfl
      rw [he]
      obtain ⟨W, H, rfl, rfl, hW1, hW2, hH1, hH2, hD, hDl⟩ := snd_nat hs
      obtain ⟨hm0, hm1, hd1, hd2⟩ : 0 ≤ most ∧ most ≤ 256 ∧ 1 ≤ den ∧ den ≤ 4096 := of_decide_eq_true hp
      obtain ⟨N, rfl⟩ : ∃ N : Nat, most = N := ⟨most.toNat, by omega⟩
      rw [Int.toNat_natCast, Int.toNat_natCast]
      have HD := Lib.hid hD
      clear hD he hp
      unfold matA
      go_enter Try.func20, Try.ntmps20
      go_wp2_with (refine wpList_box rfl 24 _ rfl _ rfl ?_; intro w1 hb1 hB1 hz1; have hb1 : Blk w1 w.heap.size 24 (matA W H A D.length c) := hb1; obtain ⟨c0, c1, c2⟩ := mat_cells hb1; have H1 := Lib.hid hz1; clear hz1)
      refine (refcheck_any W H A D.length c _).mono ?_
      rintro e w2 ⟨rfl, hB2⟩
      rw [hs]
      have HS0 := Lib.hid hs
      clear hs
      have HBB := Lib.hid (hB1.trans (hB2.mono (by have := H1.out; omega)))
      have HM := Lib.hid (hb1.below hB2 (by have := H1.out; omega))
      have hsz2 : w.heap.size + 1 ≤ w2.heap.size := by have := H1.out; have := hB2.size; omega
      obtain ⟨c0', c1', c2'⟩ := mat_cells HM.out
      clear c0 c1 c2 hB1 hB2 hb1
      go_wp2_with fail
      go_loopw [8, 9, 10] (fun vb vg vi wr => ∃ k : Nat, k ≤ N + 1 ∧ vi = .int .i64 (k : Int) ∧ vb = .int .i64 (refBest W D den k).1 ∧ vg = .int .i64 (refBest W D den k).2 ∧ Blk wr w.heap.size 24 (matA W H A D.length c) ∧ Below w.heap.size w wr ∧ w.heap.size + 1 ≤ wr.heap.size) (fun _ _ vi _ => N + 1 - (intOf vi).toNat)
      case atStart => exact ⟨0, Nat.zero_le _, rfl, rfl, rfl, HM.out, HBB.out, hsz2⟩
      case round =>
        clear HM HBB hsz2 c0' c1' c2'
        obtain ⟨k, hk, rfl, rfl, rfl, hb, hB, hsz⟩ := hrel
        have HM := Lib.hid hb
        have HB := Lib.hid hB
        obtain ⟨m0, m1, m2⟩ := mat_cells hb
        clear hb hB
        by_cases hlt : k ≤ N
        · have hd : decide ((k : Int) ≤ (N : Int)) = true := decide_eq_true (by omega)
          have hst := Lib.hid (refBest_step W D den k)
          have HE1 : Hid (energyS W H D (k : Int) den = (Skew.energy W D (k : Int) den, 0)) := Lib.hid (by
            unfold energyS; rw [HS0.out, show posB (k : Int) den = true from decide_eq_true (by omega)]; rfl)
          have HE2 : Hid (energyS W H D (-(k : Int)) den = (Skew.energy W D (-(k : Int)) den, 0)) := Lib.hid (by
            unfold energyS; rw [HS0.out, show posB (-(k : Int)) den = true from decide_eq_true (by omega)]; rfl)
          generalize refBest W D den k = b at *
          obtain ⟨b1, b2⟩ := b
          go_wp2_with fail
          refine (refenergyx_any W H A D c (k : Int) den _ (HR.out.below HB.out (Nat.le_refl _))).mono ?_
          rintro e w4 ⟨rfl, hB4⟩
          rw [HE1.out]
          have HB4 := Lib.hid (HB.out.trans (hB4.mono HB.out.size))
          have HM4 := Lib.hid (HM.out.below hB4 (by omega))
          have hsz4 : w.heap.size + 1 ≤ w4.heap.size := by have := hB4.size; omega
          clear hB4 m0 m1 m2 HB HM hsz
          obtain ⟨m0, m1, m2⟩ := mat_cells HM4.out
          go_wp2_with fail
          refine (refenergyx_any W H A D c (-(k : Int)) den _ (HR.out.below HB4.out (Nat.le_refl _))).mono ?_
          rintro e w5 ⟨rfl, hB5⟩
          rw [HE2.out]
          have HB5 := Lib.hid (HB4.out.trans (hB5.mono HB4.out.size))
          have HM5 := Lib.hid (HM4.out.below hB5 (by omega))
          have hsz5 : w.heap.size + 1 ≤ w5.heap.size := by have := hB5.size; omega
          clear hB5 m0 m1 m2 HB4 HM4 hsz4
          generalize hE1 : Skew.energy W D (k : Int) den = E1 at *
          generalize hE2 : Skew.energy W D (-(k : Int)) den = E2 at *
          have HX1 := Lib.hid hE1
          have HX2 := Lib.hid hE2
          clear hE1 hE2 HE1 HE2
          by_cases u1 : b2 < (E1 : Int)
          · have u1' : decide (b2 < (E1 : Int)) = true := decide_eq_true u1
            have HT1 := Lib.hid (show refTake W D den (b1, b2) (k : Int) = ((k : Int), (E1 : Int)) from by unfold refTake; rw [HX1.out]; exact if_pos u1)
            clear u1
            by_cases u2 : E1 < E2
            · have u2' : decide ((E1 : Int) < (E2 : Int)) = true := decide_eq_true (by omega)
              have HT2 := Lib.hid (show refTake W D den ((k : Int), (E1 : Int)) (-(k : Int)) = (-(k : Int), (E2 : Int)) from by unfold refTake; rw [HX2.out]; exact if_pos (by show (E1 : Int) < E2; omega))
              go_wp2_with fail
              go_roundw
              case rel => exact ⟨k + 1, by omega, by go_num, by rw [hst.out, HT1.out, HT2.out], by rw [hst.out, HT1.out, HT2.out], HM5.out, HB5.out, hsz5⟩
              case measure => simp [intOf]; omega
            · have u2' : decide ((E1 : Int) < (E2 : Int)) = false := decide_eq_false (by omega)
              have HT2 := Lib.hid (show refTake W D den ((k : Int), (E1 : Int)) (-(k : Int)) = ((k : Int), (E1 : Int)) from by unfold refTake; rw [HX2.out]; exact if_neg (by show ¬ (E1 : Int) < E2; omega))
              go_wp2_with fail
              go_roundw
              case rel => exact ⟨k + 1, by omega, by go_num, by rw [hst.out, HT1.out, HT2.out], by rw [hst.out, HT1.out, HT2.out], HM5.out, HB5.out, hsz5⟩
              case measure => simp [intOf]; omega
          · have u1' : decide (b2 < (E1 : Int)) = false := decide_eq_false u1
            have HT1 := Lib.hid (show refTake W D den (b1, b2) (k : Int) = (b1, b2) from by unfold refTake; rw [HX1.out]; exact if_neg u1)
            clear u1
            by_cases u2 : b2 < (E2 : Int)
            · have u2' : decide (b2 < (E2 : Int)) = true := decide_eq_true u2
              have HT2 := Lib.hid (show refTake W D den (b1, b2) (-(k : Int)) = (-(k : Int), (E2 : Int)) from by unfold refTake; rw [HX2.out]; exact if_pos u2)
              go_wp2_with fail
              go_roundw
              case rel => exact ⟨k + 1, by omega, by go_num, by rw [hst.out, HT1.out, HT2.out], by rw [hst.out, HT1.out, HT2.out], HM5.out, HB5.out, hsz5⟩
              case measure => simp [intOf]; omega
            · have u2' : decide (b2 < (E2 : Int)) = false := decide_eq_false u2
              have HT2 := Lib.hid (show refTake W D den (b1, b2) (-(k : Int)) = (b1, b2) from by unfold refTake; rw [HX2.out]; exact if_neg u2)
              go_wp2_with fail
              go_roundw
              case rel => exact ⟨k + 1, by omega, by go_num, by rw [hst.out, HT1.out, HT2.out], by rw [hst.out, HT1.out, HT2.out], HM5.out, HB5.out, hsz5⟩
              case measure => simp [intOf]; omega
        · have hd : decide ((k : Int) ≤ (N : Int)) = false := decide_eq_false (by omega)
          obtain rfl : k = N + 1 := by omega
          go_wp2_with fail
          go_ret2
          exact ⟨rfl, HB.out⟩
    · have he : estS W H D most den = (0, 3) := by unfold estS; rw [hs, hp]; rfl
      rw [he]
      clear he
      unfold matA
      go_enter Try.func20, Try.ntmps20
      go_wp2_with (refine wpList_box rfl 24 _ rfl _ rfl ?_; intro w1 hb1 hB1 hz1; have hb1 : Blk w1 w.heap.size 24 (matA W H A D.length c) := hb1; obtain ⟨c0, c1, c2⟩ := mat_cells hb1; have H1 := Lib.hid hz1; clear hz1)
      refine (refcheck_any W H A D.length c _).mono ?_
      rintro e w2 ⟨rfl, hB2⟩
      rw [hs]
      have HBB := Lib.hid (hB1.trans (hB2.mono (by have := H1.out; omega)))
      go_wp2_with fail
      go_ret2
      exact ⟨rfl, HBB.out⟩
    · have he : estS W H D most den = (0, 3) := by unfold estS; rw [hs, hp]; rfl
      rw [he]
      clear he
      unfold matA
      go_enter Try.func20, Try.ntmps20
      go_wp2_with (refine wpList_box rfl 24 _ rfl _ rfl ?_; intro w1 hb1 hB1 hz1; have hb1 : Blk w1 w.heap.size 24 (matA W H A D.length c) := hb1; obtain ⟨c0, c1, c2⟩ := mat_cells hb1; have H1 := Lib.hid hz1; clear hz1)
      refine (refcheck_any W H A D.length c _).mono ?_
      rintro e w2 ⟨rfl, hB2⟩
      rw [hs]
      have HBB := Lib.hid (hB1.trans (hB2.mono (by have := H1.out; omega)))
      go_wp2_with fail
      go_ret2
      exact ⟨rfl, HBB.out⟩
    · have he : estS W H D most den = (0, 3) := by unfold estS; rw [hs, hp]; rfl
      rw [he]
      clear he
      unfold matA
      go_enter Try.func20, Try.ntmps20
      go_wp2_with (refine wpList_box rfl 24 _ rfl _ rfl ?_; intro w1 hb1 hB1 hz1; have hb1 : Blk w1 w.heap.size 24 (matA W H A D.length c) := hb1; obtain ⟨c0, c1, c2⟩ := mat_cells hb1; have H1 := Lib.hid hz1; clear hz1)
      refine (refcheck_any W H A D.length c _).mono ?_
      rintro e w2 ⟨rfl, hB2⟩
      rw [hs]
      have HBB := Lib.hid (hB1.trans (hB2.mono (by have := H1.out; omega)))
      go_wp2_with fail
      go_ret2
      exact ⟨rfl, HBB.out⟩
    · have he : estS W H D most den = (0, 3) := by unfold estS; rw [hs, hp]; rfl
      rw [he]
      clear he
      unfold matA
      go_enter Try.func20, Try.ntmps20
      go_wp2_with (refine wpList_box rfl 24 _ rfl _ rfl ?_; intro w1 hb1 hB1 hz1; have hb1 : Blk w1 w.heap.size 24 (matA W H A D.length c) := hb1; obtain ⟨c0, c1, c2⟩ := mat_cells hb1; have H1 := Lib.hid hz1; clear hz1)
      refine (refcheck_any W H A D.length c _).mono ?_
      rintro e w2 ⟨rfl, hB2⟩
      rw [hs]
      have HBB := Lib.hid (hB1.trans (hB2.mono (by have := H1.out; omega)))
      go_wp2_with fail
      go_ret2
      exact ⟨rfl, HBB.out⟩
end Go.Proofs.Yticbpifgjjcjmaa
