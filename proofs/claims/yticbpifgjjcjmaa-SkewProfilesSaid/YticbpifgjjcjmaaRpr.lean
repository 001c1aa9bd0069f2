/- The walk of the reference's Profile. -/
import Derived.Test.YticbpifgjjcjmaaPro
import Derived.Test.YticbpifgjjcjmaaRen
namespace Go.Proofs.Yticbpifgjjcjmaa
open Go.RowKit Go.Maps
set_option maxRecDepth 100000 in
set_option maxHeartbeats 2000000 in
theorem refprofile_any (W H : Int) (A : Option Addr) (D : List Bool) (c : Nat) (w : World) (hr : RdB w A D) :
    Calls Try.prog 27 #[.agg (matA W H A D.length c)] w fun e w' => ∃ v, e = .returned v ∧ ProfR w' v W H D ∧ Below w.heap.size w w' := by
  have HR := Lib.hid hr
  clear hr
  unfold ProfR
  cases hs : sndB W H D.length
  · simp only [Bool.false_eq_true, ↓reduceIte]
    unfold matA
    go_enter Try.func27, Try.ntmps27
    go_wp2_with (refine wpList_box rfl 24 _ rfl _ rfl ?_; intro w1 hb1 hB1 hz1; have hb1 : Blk w1 w.heap.size 24 (matA W H A D.length c) := hb1; obtain ⟨c0, c1, c2⟩ := mat_cells hb1; have H1 := Lib.hid hz1; clear hz1)
    refine (refcheck_any W H A D.length c _).mono ?_
    rintro e w2 ⟨rfl, hB2⟩
    rw [hs]
    have HBB := Lib.hid (hB1.trans (hB2.mono (by have := H1.out; omega)))
    go_wp2_with fail
    go_ret2
    exact ⟨_, rfl, ⟨none, 0, rfl, fun h => absurd h (Nat.not_lt_zero _)⟩, HBB.out⟩
  · simp only [↓reduceIte]
    obtain ⟨W, H, rfl, rfl, hW1, hW2, hH1, hH2, hD, hDl⟩ := snd_nat hs
    rw [Int.toNat_natCast, Int.toNat_natCast]
    have HD := Lib.hid hD
    clear hD
    unfold matA
    go_enter Try.func27, Try.ntmps27
    go_wp2_with (refine wpList_box rfl 24 _ rfl _ rfl ?_; intro w1 hb1 hB1 hz1; have hb1 : Blk w1 w.heap.size 24 (matA W H A D.length c) := hb1; obtain ⟨c0, c1, c2⟩ := mat_cells hb1; have H1 := Lib.hid hz1; clear hz1)
    refine (refcheck_any W H A D.length c _).mono ?_
    rintro e w2 ⟨rfl, hB2⟩
    rw [hs]
    clear hs
    have HBB := Lib.hid (hB1.trans (hB2.mono (by have := H1.out; omega)))
    have HM := Lib.hid (hb1.below hB2 (by have := H1.out; omega))
    have hsz2 : w.heap.size + 1 ≤ w2.heap.size := by have := H1.out; have := hB2.size; omega
    obtain ⟨c0', c1', c2'⟩ := mat_cells HM.out
    clear c0 c1 c2 hB1 hB2 hb1
    go_wp2_with fail
    have HO : Hid (OwnV w2 (w.heap.size + 1) 3 (.slice none 0 0) (numL (Skew.pf W D) 0)) := Lib.hid (by unfold numL; exact OwnV.nil _ _ _)
    clear c0' c1' c2'
    go_loopw [4, 5] (fun vr vy wr => ∃ y : Nat, y ≤ H ∧ vy = .int .i64 (y : Int) ∧ OwnV wr (w.heap.size + 1) 3 vr (numL (Skew.pf W D) y) ∧ Blk wr w.heap.size 24 (matA W H A D.length c) ∧ Below w.heap.size w wr ∧ w.heap.size + 1 ≤ wr.heap.size) (fun _ vy _ => H - (intOf vy).toNat)
    case atStart => exact ⟨0, Nat.zero_le _, rfl, HO.out, HM.out, HBB.out, hsz2⟩
    case round =>
      clear HO HM HBB
      obtain ⟨y, hy, rfl, hO, hM, hB, hsz⟩ := hrel
      have HO := Lib.hid hO
      have HM := Lib.hid hM
      have HB := Lib.hid hB
      obtain ⟨m0, m1, m2⟩ := mat_cells hM
      obtain ⟨A', c', rfl⟩ := hO.slice
      rw [numL_len] at *
      clear hO hM hB
      by_cases hlt : y < H
      · have hd : decide ((y : Int) < (H : Int)) = true := decide_eq_true (by omega)
        go_wp2_with fail
        clear m0 m1 m2
        go_loopw [6, 7] (fun vn vx wv => ∃ x : Nat, x ≤ W ∧ vx = .int .i64 (x : Int) ∧ vn = .int .i64 ((Skew.cn D (fun i => i / W) (y * W + x) y : Nat) : Int) ∧ OwnV wv (w.heap.size + 1) 3 (.slice A' y c') (numL (Skew.pf W D) y) ∧ Blk wv w.heap.size 24 (matA W H A D.length c) ∧ Below w.heap.size w wv ∧ w.heap.size + 1 ≤ wv.heap.size) (fun _ vx _ => W - (intOf vx).toNat)
        case atStart => exact ⟨0, Nat.zero_le _, rfl, by rw [Nat.add_zero, Skew.pf_start hW1]; rfl, HO.out, HM.out, HB.out, hsz⟩
        case round =>
          clear HO HM HB hsz
          obtain ⟨x, hx, rfl, rfl, hO, hM, hB, hsz⟩ := hrel
          have HO := Lib.hid hO
          have HM := Lib.hid hM
          have HB := Lib.hid hB
          have HRR := Lib.hid (HR.out.below hB (Nat.le_refl _))
          obtain ⟨m0, m1, m2⟩ := mat_cells hM
          clear hO hM hB
          by_cases hlx : x < W
          · have hdx : decide ((x : Int) < (W : Int)) = true := decide_eq_true (by omega)
            have hidx : y * W + x < D.length := by
              have := Nat.mul_le_mul (show y + 1 ≤ H from hlt) (Nat.le_refl W)
              rw [HD.out, Nat.mul_comm W H]; rw [Nat.add_mul] at this; omega
            obtain ⟨ad, rfl, hcell⟩ := HRR.out.at_ hidx
            rw [show D.getD (y * W + x) false = Skew.dk D (y * W + x) from rfl] at hcell
            have he1 : (y : Int) * (W : Int) = ((y * W : Nat) : Int) := (Int.natCast_mul _ _).symm
            have hcl := Skew.cn_le D (fun i => i / W) (y * W + x) y
            have hq : (y * W + x) / W = y := by
              rw [Nat.mul_comm, Nat.mul_add_div (by omega), Nat.div_eq_of_lt hlx, Nat.add_zero]
            cases hdk : Skew.dk D (y * W + x)
            · rw [hdk] at hcell
              have HN := Lib.hid (Skew.cn_light (f := fun i => i / W) hdk y)
              clear hdk hq
              generalize y * W = p at *
              have q1 : IntKind.i64.wrap ((y : Int) * (W : Int)) = (p : Int) := by rw [he1, IntKind.wrap_i64]; omega
              go_wp2_with fail
              go_roundw
              case rel => exact ⟨x + 1, by omega, by go_num, by rw [← Nat.add_assoc, HN.out], HO.out, HM.out, HB.out, hsz⟩
              case measure => simp [intOf]; omega
            · rw [hdk] at hcell
              have hn := Skew.cn_dark (f := fun i => i / W) hdk y
              simp only [hq, ↓reduceIte] at hn
              have HN := Lib.hid hn
              clear hdk hq hn
              generalize y * W = p at *
              have q1 : IntKind.i64.wrap ((y : Int) * (W : Int)) = (p : Int) := by rw [he1, IntKind.wrap_i64]; omega
              go_wp2_with fail
              go_roundw
              case rel => exact ⟨x + 1, by omega, by go_num, by rw [← Nat.add_assoc, HN.out]; go_num, HO.out, HM.out, HB.out, hsz⟩
              case measure => simp [intOf]; omega
          · have hdx : decide ((x : Int) < (W : Int)) = false := decide_eq_false (by omega)
            obtain rfl : x = W := by omega
            have HE := Lib.hid (Skew.pf_end hW1 HD.out hlt)
            rw [HE.out]
            go_wp2_with (at_builtin; refine wpList_app1V rfl _ _ 44 rfl (w.heap.size + 1) 3 (.int .i64 0) 8 Try.underlying44 info3 rfl (by decide) _ _ rfl HO.out _ (.int .i64 ((Skew.pf x D y : Nat) : Int)) rfl rfl rfl (by rw [numL_len]; omega) hsz ?_; intro v1 w1 HO1 hg1 hat1)
            obtain ⟨A1, c1, rfl⟩ := HO1.slice
            rw [List.length_append, numL_len] at *
            go_roundw
            case rel => exact ⟨y + 1, by omega, by go_num, by rw [numL_succ]; exact HO1, HM.out.grown hg1 (fun e => by have := HO.out.base_ _ e.symm; omega), below_grownV' HB.out hsz HO.out hg1, Nat.le_trans hsz hg1.size⟩
            case measure => simp [intOf]; omega
      · have hd : decide ((y : Int) < (H : Int)) = false := decide_eq_false (by omega)
        obtain rfl : y = H := by omega
        obtain ⟨A1, c1, hv, hN⟩ := HO.out.nums
        injection hv with e1 e2 e3
        subst e1 e3
        have HNN := Lib.hid hN
        clear hN
        go_wp2_with fail
        go_ret2
        exact ⟨_, rfl, ⟨A', ⟨c', rfl⟩, HNN.out⟩, HB.out⟩
end Go.Proofs.Yticbpifgjjcjmaa
