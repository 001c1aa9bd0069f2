/- The walks of At and of column: a pixel of a bitmap, the dark pixels of a column. -/
import Derived.Test.YticbpifgjjcjmaaKmt
namespace Go.Proofs.Yticbpifgjjcjmaa
open Go.RowKit Go.Maps
theorem at_idx {W H x y : Nat} (hx : x < W) (hy : y < H) : y * W + x < W * H := by
  have := Nat.mul_le_mul (show y + 1 ≤ H from hy) (Nat.le_refl W)
  rw [Nat.mul_comm W H]; rw [Nat.add_mul] at this; omega
set_option maxRecDepth 100000 in
set_option maxHeartbeats 2000000 in
theorem at_in (W H : Nat) (A : Option Addr) (D : List Bool) (c x y : Nat) (w : World) (hr : RdB w A D) (hs : sndB W H D.length = true) (hx : x < W) (hy : y < H) :
    Calls Try.prog 40 #[.agg (matA W H A D.length c), .int .i64 (x : Int), .int .i64 (y : Int)] w fun e w' => e = .returned (.bool (Skew.dk D (y * W + x))) ∧ Below w.heap.size w w' := by
  obtain ⟨W', H', e1, e2, hW1, hW2, hH1, hH2, hD, hDl⟩ := snd_nat hs
  obtain rfl : W = W' := by omega
  obtain rfl : H = H' := by omega
  clear e1 e2
  have HR := Lib.hid hr
  have hidx : y * W + x < D.length := by rw [hD]; exact at_idx hx hy
  clear hD hr
  have he1 : (y : Int) * (W : Int) = ((y * W : Nat) : Int) := (Int.natCast_mul _ _).symm
  have d1 : decide ((0 : Int) ≤ (x : Int)) = true := decide_eq_true (by omega)
  have d2 : decide ((x : Int) < (W : Int)) = true := decide_eq_true (by omega)
  have d3 : decide ((0 : Int) ≤ (y : Int)) = true := decide_eq_true (by omega)
  have d4 : decide ((y : Int) < (H : Int)) = true := decide_eq_true (by omega)
  unfold matA
  go_enter Try.func40, Try.ntmps40
  go_wp2_with (refine wpList_box rfl 24 _ rfl _ rfl ?_; intro w1 hb1 hB1 hz1; have hb1 : Blk w1 w.heap.size 24 (matA W H A D.length c) := hb1; obtain ⟨c0, c1, c2⟩ := mat_cells hb1; have H1 := Lib.hid hz1; clear hz1)
  refine (valid_any W H A D.length c _).mono ?_
  rintro e w2 ⟨rfl, hB2⟩
  rw [hs]
  have HBB := Lib.hid (hB1.trans (hB2.mono (by have := H1.out; omega)))
  have HM := Lib.hid (hb1.below hB2 (by have := H1.out; omega))
  obtain ⟨c0', c1', c2'⟩ := mat_cells HM.out
  clear c0 c1 c2 hB1 hB2 hb1 hs
  have hR2 := HR.out.below HBB.out (Nat.le_refl _)
  obtain ⟨ad, rfl, hcell⟩ := hR2.at_ hidx
  rw [show D.getD (y * W + x) false = Skew.dk D (y * W + x) from rfl] at hcell
  clear hR2
  obtain ⟨b, hb⟩ : ∃ b, Hid (b = Skew.dk D (y * W + x)) := ⟨_, Lib.hid rfl⟩
  rw [← hb.out] at hcell
  have HBE := Lib.hid (show Skew.dk D (y * W + x) = b from hb.out.symm)
  clear hb
  generalize hp : y * W = p at hcell he1 hidx
  have q1 : IntKind.i64.wrap ((y : Int) * (W : Int)) = (p : Int) := by rw [he1, IntKind.wrap_i64]; omega
  clear hp
  go_wp2_with fail
  go_ret
  exact ⟨by rw [HBE.out]; rfl, HBB.out⟩
set_option maxRecDepth 100000 in
set_option maxHeartbeats 2000000 in
theorem column_any (W H : Nat) (A : Option Addr) (D : List Bool) (c x : Nat) (w : World) (hr : RdB w A D) (hs : sndB W H D.length = true) (hx : x < W) :
    Calls Try.prog 28 #[.agg (matA W H A D.length c), .int .i64 (x : Int)] w fun e w' => e = .returned (.int .i64 ((Skew.cl D W x H : Nat) : Int)) ∧ Below w.heap.size w w' := by
  obtain ⟨W', H', e1, e2, hW1, hW2, hH1, hH2, hD, hDl⟩ := snd_nat hs
  obtain rfl : W = W' := by omega
  obtain rfl : H = H' := by omega
  clear e1 e2
  have HR := Lib.hid hr
  have HS := Lib.hid hs
  clear hD hr hs
  unfold matA
  go_enter Try.func28, Try.ntmps28
  go_wp2_with (refine wpList_box rfl 24 _ rfl _ rfl ?_; intro w1 hb1 hB1 hz1; have hb1 : Blk w1 w.heap.size 24 (matA W H A D.length c) := hb1; obtain ⟨c0, c1, c2⟩ := mat_cells hb1; have H1 := Lib.hid hz1; clear hz1)
  have HB1 := Lib.hid hB1
  have HM1 := Lib.hid hb1
  have hs1 : w.heap.size + 1 ≤ w1.heap.size := by have := H1.out; omega
  clear c0 c1 c2 hB1 hb1
  go_loopw [5, 6] (fun vn vy wr => ∃ y : Nat, y ≤ H ∧ vy = .int .i64 (y : Int) ∧ vn = .int .i64 ((Skew.cl D W x y : Nat) : Int) ∧ Blk wr w.heap.size 24 (matA W H A D.length c) ∧ Below w.heap.size w wr ∧ w.heap.size + 1 ≤ wr.heap.size) (fun _ vy _ => H - (intOf vy).toNat)
  case atStart => exact ⟨0, Nat.zero_le _, rfl, rfl, HM1.out, HB1.out, hs1⟩
  case round =>
    clear HM1 HB1 hs1
    obtain ⟨y, hy, rfl, rfl, hM, hB, hsz⟩ := hrel
    have HM := Lib.hid hM
    have HB := Lib.hid hB
    obtain ⟨c0, c1, c2⟩ := mat_cells HM.out
    clear hM hB
    by_cases hlt : y < H
    · have hd : decide ((y : Int) < (H : Int)) = true := decide_eq_true (by omega)
      go_wp2_with fail
      refine (at_in W H A D c x y _ (HR.out.below HB.out (Nat.le_refl _)) HS.out hx hlt).mono ?_
      rintro e w3 ⟨rfl, hB3⟩
      have HB3 := Lib.hid (HB.out.trans (hB3.mono HB.out.size))
      have HM3 := Lib.hid (HM.out.below hB3 (by omega))
      have hs3 : w.heap.size + 1 ≤ w3.heap.size := by have := hB3.size; omega
      have hcl := Skew.cl_le D W x y
      have hsc : Skew.cl D W x (y + 1) = Skew.cl D W x y + (if Skew.dk D (y * W + x) = true then 1 else 0) := rfl
      clear c0 c1 c2 hB3
      cases hdk : Skew.dk D (y * W + x)
      · rw [hdk] at hsc
        have HSC := Lib.hid hsc
        clear hsc hdk
        go_wp2_with fail
        go_roundw
        case rel => exact ⟨y + 1, by omega, by go_num, by rw [HSC.out]; rfl, HM3.out, HB3.out, hs3⟩
        case measure => simp [intOf]; omega
      · rw [hdk] at hsc
        have HSC := Lib.hid hsc
        clear hsc hdk
        go_wp2_with fail
        go_roundw
        case rel => exact ⟨y + 1, by omega, by go_num, by rw [HSC.out]; simp only [↓reduceIte]; go_num, HM3.out, HB3.out, hs3⟩
        case measure => simp [intOf]; omega
    · have hd : decide ((y : Int) < (H : Int)) = false := decide_eq_false (by omega)
      obtain rfl : y = H := by omega
      go_wp2_with fail
      go_ret
      exact ⟨rfl, HB.out⟩
end Go.Proofs.Yticbpifgjjcjmaa
