/- The walk of Estimate: the numerators by their absolute values. -/
import Derived.Test.YticbpifgjjcjmaaEnx
namespace Go.Proofs.Yticbpifgjjcjmaa
open Go.RowKit Go.Maps
namespace Skew
/-- one more numerator -/
def take (W : Nat) (D : List Bool) (den : Int) (b : Int × Nat) (num : Int) : Int × Nat := if b.2 < energy W D num den then (num, energy W D num den) else b
/-- the best of the numerators from -n to n -/
def est (W : Nat) (D : List Bool) (den : Int) : Nat → Int × Nat
  | 0 => (0, energy W D 0 den)
  | n + 1 => take W D den (take W D den (est W D den n) ((n : Int) + 1)) (-(n : Int) - 1)
def estI (W : Nat) (D : List Bool) (den : Int) (k : Nat) : Nat → Int × Nat
  | 0 => est W D den k
  | 1 => take W D den (est W D den k) ((k : Int) + 1)
  | _ => est W D den (k + 1)
theorem take_yes {W : Nat} {D : List Bool} {den : Int} {b : Int × Nat} {num : Int} (h : b.2 < energy W D num den) : take W D den b num = (num, energy W D num den) := if_pos h
theorem take_no {W : Nat} {D : List Bool} {den : Int} {b : Int × Nat} {num : Int} (h : ¬ b.2 < energy W D num den) : take W D den b num = b := if_neg h
end Skew
def mostB (most den : Int) : Bool := decide (0 ≤ most ∧ most ≤ 256 ∧ 1 ≤ den ∧ den ≤ 4096)
theorem most_ways (most den : Int) :
    (mostB most den = true ∧ decide (most < 0) = false ∧ decide (256 < most) = false ∧ decide (den < 1) = false ∧ decide (4096 < den) = false) ∨
    (mostB most den = false ∧ decide (most < 0) = true) ∨ (mostB most den = false ∧ decide (most < 0) = false ∧ decide (256 < most) = true) ∨
    (mostB most den = false ∧ decide (most < 0) = false ∧ decide (256 < most) = false ∧ decide (den < 1) = true) ∨
    (mostB most den = false ∧ decide (most < 0) = false ∧ decide (256 < most) = false ∧ decide (den < 1) = false ∧ decide (4096 < den) = true) := by
  unfold mostB
  simp only [decide_eq_true_eq, decide_eq_false_iff_not]
  omega
/-- the specified numerator and error -/
def estS (W H : Int) (D : List Bool) (most den : Int) : Int × Int :=
  if sndB W H D.length = true then (if mostB most den = true then ((Skew.est W.toNat D den most.toNat).1, 0) else (0, 3)) else (0, 1)
theorem ix56_0 (a b : Int) (w : World) : (Instr.index 56 (.agg #[.int .i64 a, .int .i64 b]) (.int .i64 0)).run Try.prog w = .ok (.int .i64 a) w := by kernel_rfl
theorem ix56_1 (a b : Int) (w : World) : (Instr.index 56 (.agg #[.int .i64 a, .int .i64 b]) (.int .i64 1)).run Try.prog w = .ok (.int .i64 b) w := by kernel_rfl
set_option maxRecDepth 100000 in
set_option maxHeartbeats 2000000 in
theorem estimate_any (W H : Int) (A : Option Addr) (D : List Bool) (c : Nat) (most den : Int) (w : World) (hr : RdB w A D) :
    Calls Try.prog 19 #[.agg (matA W H A D.length c), .int .i64 most, .int .i64 den] w fun e w' => e = .returned (.tuple #[.int .i64 (estS W H D most den).1, .int .i64 (estS W H D most den).2]) ∧ Below w.heap.size w w' := by
  have HR := Lib.hid hr
  clear hr
  cases hs : sndB W H D.length
  · have he : estS W H D most den = (0, 1) := by unfold estS; rw [hs]; rfl
    rw [he]
    clear he
    unfold matA
    go_enter Try.func19, Try.ntmps19
    go_wp2_with (refine wpList_box rfl 24 _ rfl _ rfl ?_; intro w1 hb1 hB1 hz1; have hb1 : Blk w1 w.heap.size 24 (matA W H A D.length c) := hb1; obtain ⟨c0, c1, c2⟩ := mat_cells hb1; have H1 := Lib.hid hz1; clear hz1)
    refine (check_any W H A D.length c _).mono ?_
    rintro e w2 ⟨rfl, hB2⟩
    rw [hs]
    have HBB := Lib.hid (hB1.trans (hB2.mono (by have := H1.out; omega)))
    go_wp2_with fail
    go_ret2
    exact ⟨rfl, HBB.out⟩
  · rcases most_ways most den with ⟨hp, t1, t2, t3, t4⟩ | ⟨hp, t1⟩ | ⟨hp, t1, t2⟩ | ⟨hp, t1, t2, t3⟩ | ⟨hp, t1, t2, t3, t4⟩
    · have he : estS W H D most den = ((Skew.est W.toNat D den most.toNat).1, 0) := by unfold estS; rw [hs, hp]; rfl
      rw [he]
      obtain ⟨W, H, rfl, rfl, hW1, hW2, hH1, hH2, hD, hDl⟩ := snd_nat hs
      obtain ⟨hm0, hm1, hd1, hd2⟩ : 0 ≤ most ∧ most ≤ 256 ∧ 1 ≤ den ∧ den ≤ 4096 := of_decide_eq_true hp
      obtain ⟨N, rfl⟩ : ∃ N : Nat, most = N := ⟨most.toNat, by omega⟩
      rw [Int.toNat_natCast, Int.toNat_natCast]
      have HD := Lib.hid hD
      clear hD he hp
      unfold matA
      go_enter Try.func19, Try.ntmps19
      go_wp2_with (refine wpList_box rfl 24 _ rfl _ rfl ?_; intro w1 hb1 hB1 hz1; have hb1 : Blk w1 w.heap.size 24 (matA W H A D.length c) := hb1; obtain ⟨c0, c1, c2⟩ := mat_cells hb1; have H1 := Lib.hid hz1; clear hz1)
      refine (check_any W H A D.length c _).mono ?_
      rintro e w2 ⟨rfl, hB2⟩
      rw [hs]
      clear hs
      have HBB := Lib.hid (hB1.trans (hB2.mono (by have := H1.out; omega)))
      have HM := Lib.hid (hb1.below hB2 (by have := H1.out; omega))
      have hsz2 : w.heap.size + 1 ≤ w2.heap.size := by have := H1.out; have := hB2.size; omega
      obtain ⟨c0', c1', c2'⟩ := mat_cells HM.out
      clear c0 c1 c2 hB1 hB2 hb1
      go_wp2_with fail
      refine (energy_any W H ⟨hW1, hW2⟩ A D HD.out hDl c 0 den hd1 (by omega) (by omega) _ (HR.out.below HBB.out (Nat.le_refl _))).mono ?_
      rintro e w3 ⟨rfl, hB3⟩
      have HB3 := Lib.hid (HBB.out.trans (hB3.mono HBB.out.size))
      have HM3 := Lib.hid (HM.out.below hB3 (by omega))
      have hsz3 : w.heap.size + 1 ≤ w3.heap.size := by have := hB3.size; omega
      clear HBB HM c0' c1' c2' hB3
      go_wp2_with fail
      go_loopw [9, 10, 38] (fun vb vg vi wr => ∃ k : Nat, k ≤ N ∧ vi = .int .i64 (k : Int) ∧ vb = .int .i64 (Skew.est W D den k).1 ∧ vg = .int .i64 (((Skew.est W D den k).2 : Nat) : Int) ∧ Blk wr w.heap.size 24 (matA W H A D.length c) ∧ Below w.heap.size w wr ∧ w.heap.size + 1 ≤ wr.heap.size) (fun _ _ vi _ => N - (intOf vi).toNat)
      case atStart => exact ⟨0, Nat.zero_le _, rfl, rfl, rfl, HM3.out, HB3.out, hsz3⟩
      case round =>
        clear HB3 HM3 hsz3
        obtain ⟨k, hk, rfl, rfl, rfl, hb, hB, hsz⟩ := hrel
        have HM := Lib.hid hb
        have HB := Lib.hid hB
        clear hb hB
        by_cases hlt : k < N
        · have hd : decide ((k : Int) < (N : Int)) = true := decide_eq_true (by omega)
          go_wp2_with fail
          go_loopw [9, 10, 47] (fun vb vg vi wr => ∃ j : Nat, j ≤ 2 ∧ vi = .int .i64 (j : Int) ∧ vb = .int .i64 (Skew.estI W D den k j).1 ∧ vg = .int .i64 (((Skew.estI W D den k j).2 : Nat) : Int) ∧ Blk wr w.heap.size 24 (matA W H A D.length c) ∧ Below w.heap.size w wr ∧ w.heap.size + 1 ≤ wr.heap.size) (fun _ _ vi _ => 2 - (intOf vi).toNat)
          case atStart => exact ⟨0, by omega, rfl, rfl, rfl, HM.out, HB.out, hsz⟩
          case round =>
            clear HM HB hsz
            obtain ⟨j, hj, rfl, rfl, rfl, hb, hB, hsz⟩ := hrel
            have HM := Lib.hid hb
            have HB := Lib.hid hB
            obtain ⟨m0, m1, m2⟩ := mat_cells hb
            clear hb hB
            obtain rfl | rfl | rfl : j = 0 ∨ j = 1 ∨ j = 2 := by omega
            · rw [show Skew.estI W D den k 0 = Skew.est W D den k from rfl]
              have HST := Lib.hid (show Skew.estI W D den k 1 = Skew.take W D den (Skew.est W D den k) ((k : Int) + 1) from rfl)
              generalize Skew.est W D den k = b at *
              obtain ⟨b1, b2⟩ := b
              have hi0 := ix56_0
              have hi1 := ix56_1
              go_wp2_with fail
              refine (energy_any W H ⟨hW1, hW2⟩ A D HD.out hDl c ((k : Int) + 1) den hd1 (by omega) (by omega) _ (HR.out.below HB.out (Nat.le_refl _))).mono ?_
              rintro e w4 ⟨rfl, hB4⟩
              have HB4 := Lib.hid (HB.out.trans (hB4.mono HB.out.size))
              have HM4 := Lib.hid (HM.out.below hB4 (by omega))
              have hsz4 : w.heap.size + 1 ≤ w4.heap.size := by have := hB4.size; omega
              clear hB4
              by_cases hgt : b2 < Skew.energy W D ((k : Int) + 1) den
              · have hdg : decide (((b2 : Nat) : Int) < ((Skew.energy W D ((k : Int) + 1) den : Nat) : Int)) = true := decide_eq_true (by omega)
                have HT := Lib.hid (Skew.take_yes (b := (b1, b2)) hgt)
                go_wp2_with fail
                go_roundw
                case rel => exact ⟨1, by omega, rfl, by rw [HST.out, HT.out], by rw [HST.out, HT.out], HM4.out, HB4.out, hsz4⟩
                case measure => simp [intOf]
              · have hdg : decide (((b2 : Nat) : Int) < ((Skew.energy W D ((k : Int) + 1) den : Nat) : Int)) = false := decide_eq_false (by omega)
                have HT := Lib.hid (Skew.take_no (b := (b1, b2)) hgt)
                go_wp2_with fail
                go_roundw
                case rel => exact ⟨1, by omega, rfl, by rw [HST.out, HT.out], by rw [HST.out, HT.out], HM4.out, HB4.out, hsz4⟩
                case measure => simp [intOf]
            · rw [show Skew.estI W D den k 1 = Skew.take W D den (Skew.est W D den k) ((k : Int) + 1) from rfl]
              have HST := Lib.hid (show Skew.estI W D den k 2 = Skew.take W D den (Skew.take W D den (Skew.est W D den k) ((k : Int) + 1)) (-(k : Int) - 1) from rfl)
              generalize Skew.take W D den (Skew.est W D den k) ((k : Int) + 1) = b at *
              obtain ⟨b1, b2⟩ := b
              have hi0 := ix56_0
              have hi1 := ix56_1
              go_wp2_with fail
              refine (energy_any W H ⟨hW1, hW2⟩ A D HD.out hDl c (-(k : Int) - 1) den hd1 (by omega) (by omega) _ (HR.out.below HB.out (Nat.le_refl _))).mono ?_
              rintro e w4 ⟨rfl, hB4⟩
              have HB4 := Lib.hid (HB.out.trans (hB4.mono HB.out.size))
              have HM4 := Lib.hid (HM.out.below hB4 (by omega))
              have hsz4 : w.heap.size + 1 ≤ w4.heap.size := by have := hB4.size; omega
              clear hB4
              by_cases hgt : b2 < Skew.energy W D (-(k : Int) - 1) den
              · have hdg : decide (((b2 : Nat) : Int) < ((Skew.energy W D (-(k : Int) - 1) den : Nat) : Int)) = true := decide_eq_true (by omega)
                have HT := Lib.hid (Skew.take_yes (b := (b1, b2)) hgt)
                go_wp2_with fail
                go_roundw
                case rel => exact ⟨2, by omega, rfl, by rw [HST.out, HT.out], by rw [HST.out, HT.out], HM4.out, HB4.out, hsz4⟩
                case measure => simp [intOf]
              · have hdg : decide (((b2 : Nat) : Int) < ((Skew.energy W D (-(k : Int) - 1) den : Nat) : Int)) = false := decide_eq_false (by omega)
                have HT := Lib.hid (Skew.take_no (b := (b1, b2)) hgt)
                go_wp2_with fail
                go_roundw
                case rel => exact ⟨2, by omega, rfl, by rw [HST.out, HT.out], by rw [HST.out, HT.out], HM4.out, HB4.out, hsz4⟩
                case measure => simp [intOf]
            · rw [show Skew.estI W D den k 2 = Skew.est W D den (k + 1) from rfl]
              go_wp2_with fail
              go_roundw
              case rel => exact ⟨k + 1, by omega, by go_num, rfl, rfl, HM.out, HB.out, hsz⟩
              case measure => simp [intOf]; omega
        · have hd : decide ((k : Int) < (N : Int)) = false := decide_eq_false (by omega)
          obtain rfl : k = N := by omega
          go_wp2_with fail
          go_ret2
          exact ⟨rfl, HB.out⟩
    · have he : estS W H D most den = (0, 3) := by unfold estS; rw [hs, hp]; rfl
      rw [he]
      clear he
      unfold matA
      go_enter Try.func19, Try.ntmps19
      go_wp2_with (refine wpList_box rfl 24 _ rfl _ rfl ?_; intro w1 hb1 hB1 hz1; have hb1 : Blk w1 w.heap.size 24 (matA W H A D.length c) := hb1; obtain ⟨c0, c1, c2⟩ := mat_cells hb1; have H1 := Lib.hid hz1; clear hz1)
      refine (check_any W H A D.length c _).mono ?_
      rintro e w2 ⟨rfl, hB2⟩
      rw [hs]
      have HBB := Lib.hid (hB1.trans (hB2.mono (by have := H1.out; omega)))
      go_wp2_with fail
      go_ret2
      exact ⟨rfl, HBB.out⟩
    · have he : estS W H D most den = (0, 3) := by unfold estS; rw [hs, hp]; rfl
      rw [he]
      clear he
      unfold matA
      go_enter Try.func19, Try.ntmps19
      go_wp2_with (refine wpList_box rfl 24 _ rfl _ rfl ?_; intro w1 hb1 hB1 hz1; have hb1 : Blk w1 w.heap.size 24 (matA W H A D.length c) := hb1; obtain ⟨c0, c1, c2⟩ := mat_cells hb1; have H1 := Lib.hid hz1; clear hz1)
      refine (check_any W H A D.length c _).mono ?_
      rintro e w2 ⟨rfl, hB2⟩
      rw [hs]
      have HBB := Lib.hid (hB1.trans (hB2.mono (by have := H1.out; omega)))
      go_wp2_with fail
      go_ret2
      exact ⟨rfl, HBB.out⟩
    · have he : estS W H D most den = (0, 3) := by unfold estS; rw [hs, hp]; rfl
      rw [he]
      clear he
      unfold matA
      go_enter Try.func19, Try.ntmps19
      go_wp2_with (refine wpList_box rfl 24 _ rfl _ rfl ?_; intro w1 hb1 hB1 hz1; have hb1 : Blk w1 w.heap.size 24 (matA W H A D.length c) := hb1; obtain ⟨c0, c1, c2⟩ := mat_cells hb1; have H1 := Lib.hid hz1; clear hz1)
      refine (check_any W H A D.length c _).mono ?_
      rintro e w2 ⟨rfl, hB2⟩
      rw [hs]
      have HBB := Lib.hid (hB1.trans (hB2.mono (by have := H1.out; omega)))
      go_wp2_with fail
      go_ret2
      exact ⟨rfl, HBB.out⟩
    · have he : estS W H D most den = (0, 3) := by unfold estS; rw [hs, hp]; rfl
      rw [he]
      clear he
      unfold matA
      go_enter Try.func19, Try.ntmps19
      go_wp2_with (refine wpList_box rfl 24 _ rfl _ rfl ?_; intro w1 hb1 hB1 hz1; have hb1 : Blk w1 w.heap.size 24 (matA W H A D.length c) := hb1; obtain ⟨c0, c1, c2⟩ := mat_cells hb1; have H1 := Lib.hid hz1; clear hz1)
      refine (check_any W H A D.length c _).mono ?_
      rintro e w2 ⟨rfl, hB2⟩
      rw [hs]
      have HBB := Lib.hid (hB1.trans (hB2.mono (by have := H1.out; omega)))
      go_wp2_with fail
      go_ret2
      exact ⟨rfl, HBB.out⟩
end Go.Proofs.Yticbpifgjjcjmaa
