/- The walks of Energy and of the reference's Energy. -/
import Derived.Test.YticbpifgjjcjmaaEng
namespace Go.Proofs.Yticbpifgjjcjmaa
open Go.RowKit Go.Maps
theorem snd_nat {W H : Int} {n : Nat} (h : sndB W H n = true) : ∃ W' H' : Nat, W = W' ∧ H = H' ∧ 1 ≤ W' ∧ W' ≤ 4096 ∧ 1 ≤ H' ∧ H' ≤ 4096 ∧ n = W' * H' ∧ n ≤ 4194304 := by
  unfold sndB at h
  have h := of_decide_eq_true h
  refine ⟨W.toNat, H.toNat, by omega, by omega, by omega, by omega, by omega, by omega, ?_, ?_⟩
  · have : ((W.toNat * H.toNat : Nat) : Int) = W * H := by
      rw [Int.natCast_mul, Int.toNat_of_nonneg (by omega), Int.toNat_of_nonneg (by omega)]
    omega
  · omega
theorem pos_of {num den : Int} (h : posB num den = true) : 1 ≤ den ∧ den ≤ 4096 ∧ -4096 ≤ num ∧ num ≤ 4096 := of_decide_eq_true h
/-- the specified energy and error -/
def energyS (W H : Int) (D : List Bool) (num den : Int) : Nat × Int :=
  if sndB W H D.length = true then (if posB num den = true then (Skew.energy W.toNat D num den, 0) else (0, 3)) else (0, 1)
set_option maxRecDepth 100000 in
set_option maxHeartbeats 2000000 in
theorem energyx_any (W H : Int) (A : Option Addr) (D : List Bool) (c : Nat) (num den : Int) (w : World) (hr : RdB w A D) :
    Calls Try.prog 17 #[.agg (matA W H A D.length c), .int .i64 num, .int .i64 den] w fun e w' => e = .returned (.tuple #[.int .i64 (((energyS W H D num den).1 : Nat) : Int), .int .i64 (energyS W H D num den).2]) ∧ Below w.heap.size w w' := by
  have HR := Lib.hid hr
  clear hr
  cases hs : sndB W H D.length
  · have he : energyS W H D num den = (0, 1) := by unfold energyS; rw [hs]; rfl
    rw [he]
    unfold matA
    go_enter Try.func17, Try.ntmps17
    go_wp2_with (refine wpList_box rfl 24 _ rfl _ rfl ?_; intro w1 hb1 hB1 hz1; have hb1 : Blk w1 w.heap.size 24 (matA W H A D.length c) := hb1; obtain ⟨c0, c1, c2⟩ := mat_cells hb1; have H1 := Lib.hid hz1; clear hz1)
    refine (check_any W H A D.length c _).mono ?_
    rintro e w2 ⟨rfl, hB2⟩
    rw [hs]
    have HBB := Lib.hid (hB1.trans (hB2.mono (by have := H1.out; omega)))
    go_wp2_with fail
    go_ret2
    exact ⟨rfl, HBB.out⟩
  · cases hp : posB num den
    · have he : energyS W H D num den = (0, 3) := by unfold energyS; rw [hs, hp]; rfl
      rw [he]
      unfold matA
      go_enter Try.func17, Try.ntmps17
      go_wp2_with (refine wpList_box rfl 24 _ rfl _ rfl ?_; intro w1 hb1 hB1 hz1; have hb1 : Blk w1 w.heap.size 24 (matA W H A D.length c) := hb1; obtain ⟨c0, c1, c2⟩ := mat_cells hb1; have H1 := Lib.hid hz1; clear hz1)
      refine (check_any W H A D.length c _).mono ?_
      rintro e w2 ⟨rfl, hB2⟩
      rw [hs]
      have HBB := Lib.hid (hB1.trans (hB2.mono (by have := H1.out; omega)))
      go_wp2_with fail
      refine (possible_any num den _).mono ?_
      rintro e w3 ⟨rfl, rfl⟩
      rw [hp]
      go_wp2_with fail
      go_ret2
      exact ⟨rfl, HBB.out⟩
    · have he : energyS W H D num den = (Skew.energy W.toNat D num den, 0) := by unfold energyS; rw [hs, hp]; rfl
      rw [he]
      obtain ⟨W, H, rfl, rfl, hW1, hW2, hH1, hH2, hD, hDl⟩ := snd_nat hs
      obtain ⟨hd1, hd2, hn1, hn2⟩ := pos_of hp
      rw [Int.toNat_natCast]
      have HD := Lib.hid hD
      clear hD he
      unfold matA
      go_enter Try.func17, Try.ntmps17
      go_wp2_with (refine wpList_box rfl 24 _ rfl _ rfl ?_; intro w1 hb1 hB1 hz1; have hb1 : Blk w1 w.heap.size 24 (matA W H A D.length c) := hb1; obtain ⟨c0, c1, c2⟩ := mat_cells hb1; have H1 := Lib.hid hz1; clear hz1)
      refine (check_any W H A D.length c _).mono ?_
      rintro e w2 ⟨rfl, hB2⟩
      rw [hs]
      have HBB := Lib.hid (hB1.trans (hB2.mono (by have := H1.out; omega)))
      obtain ⟨c0', c1', c2'⟩ := mat_cells (hb1.below hB2 (by have := H1.out; omega))
      clear c0 c1 c2
      go_wp2_with fail
      refine (possible_any num den _).mono ?_
      rintro e w3 ⟨rfl, rfl⟩
      rw [hp]
      go_wp2_with fail
      refine (energy_any W H ⟨hW1, hW2⟩ A D HD.out hDl c num den hd1 hn1 hn2 _ (HR.out.below HBB.out (Nat.le_refl _))).mono ?_
      rintro e w4 ⟨rfl, hB4⟩
      have HB4 := Lib.hid (HBB.out.trans (hB4.mono HBB.out.size))
      go_wp2_with fail
      go_ret2
      exact ⟨rfl, HB4.out⟩
end Go.Proofs.Yticbpifgjjcjmaa
