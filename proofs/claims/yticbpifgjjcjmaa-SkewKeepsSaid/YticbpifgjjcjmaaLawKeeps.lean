/- The law SkewKeeps: a shear does not change the numbers of dark pixels of the columns, the energy is the sum of the squares of the profile of the shear, the slope 0 changes nothing, and the chapter's examples hold. -/
import Derived.Test.YticbpifgjjcjmaaExa
import Derived.Test.YticbpifgjjcjmaaCol
import Derived.Test.YticbpifgjjcjmaaRen
import Derived.Test.YticbpifgjjcjmaaArg
import Derived.Test.YticbpifgjjcjmaaRows
import Derived.WalkKit
import Derived.ProofKit
import Derived.OpenShut
import Derived.ShutString
import Derived.ChangeOld
import Derived.Below
namespace Go.Proofs.Yticbpifgjjcjmaa.skewKeeps
open Go.ChangeShapes Go.WideShapes Go.ChangeAt Go.RowKit
open Go.ChangeMaps (open_string shut_string)
set_option linter.unusedVariables false
theorem own : ownKnob Try.prog.godebug = none := by kernel_rfl
theorem laidOut : laidOutB Try.prog = true := by kernel_rfl
theorem top_small {W N d : Nat} {num : Int} (hW : 1 ≤ W) (hd : 1 ≤ d) (hN : max num (-num) = (N : Int)) (h : W * N / d ≤ 300) : Skew.top W num d ≤ 301 := by
  have h1 : W * N < 301 * d := by
    have := (Nat.div_lt_iff_lt_mul (show 0 < d by omega)).1 (show W * N / d < 301 by omega)
    omega
  have h2 : (W - 1) * N ≤ W * N := Nat.mul_le_mul (by omega) (Nat.le_refl N)
  have hx : ((W - 1 : Nat) : Int) * num ≤ (((W - 1) * N : Nat) : Int) := by
    rw [Int.natCast_mul]
    exact Int.mul_le_mul_of_nonneg_left (by omega) (by omega)
  have hy : -(((W - 1) * N : Nat) : Int) ≤ ((W - 1 : Nat) : Int) * num := by
    rw [Int.natCast_mul, ← Int.mul_neg]
    exact Int.mul_le_mul_of_nonneg_left (by omega) (by omega)
  have hr1 : Skew.raw num d (W - 1) < 301 := by
    unfold Skew.raw
    rw [Int.ediv_lt_iff_lt_mul (by omega)]
    omega
  have hr2 : -301 ≤ Skew.raw num d (W - 1) := by
    unfold Skew.raw
    rw [Int.le_ediv_iff_mul_le (by omega)]
    omega
  unfold Skew.top Skew.most Skew.least
  rw [if_neg (by omega), if_neg (by omega)]
  omega
theorem keeps_facts {W H N d : Nat} {num : Int} {D : List Bool} (hs : sndB W H D.length = true) (hl : D.length ≤ 1500) (hd1 : 1 ≤ d) (hd2 : d ≤ 4096) (hN : max num (-num) = (N : Int)) (hN2 : N ≤ 4096) (hq : W * N / d ≤ 300) :
    ∃ (L : Nat) (E : List Bool), shearS W H D num d = ((W : Int), (L : Int), E, 0) ∧ shearS W H D 0 d = ((W : Int), (H : Int), D, 0) ∧ sndB W (L : Int) E.length = true ∧ energyS W H D num d = (Skew.energy W D num d, 0) ∧
      (∀ x, x < W → Skew.cl E W x (L) = Skew.cl D W x H) ∧ Skew.sq (Skew.pf W E) (L) = Skew.energy W D num d ∧ L ≤ 4096 ∧ Skew.energy W D num d ≤ 17592186044416 := by
  obtain ⟨W', H', e1, e2, hW1, hW2, hH1, hH2, hD, hDl⟩ := snd_nat hs
  obtain rfl : W = W' := by omega
  obtain rfl : H = H' := by omega
  clear e1 e2
  have hp : posB num d = true := decide_eq_true (by omega)
  have hp0 : posB 0 d = true := decide_eq_true (by omega)
  have hT := top_small hW1 hd1 hN hq
  have hH : H ≤ 1500 := by
    have := Nat.mul_le_mul hW1 (Nat.le_refl H); omega
  have hWl : W ≤ 1500 := by
    have := Nat.mul_le_mul (Nat.le_refl W) hH1; omega
  have hWT : W * (H + Skew.top W num d) ≤ 453000 := by
    have := Nat.mul_le_mul hWl hT
    rw [Nat.mul_add]; omega
  have hc : (W : Int) * ((H : Int) + ((Skew.top W num d : Nat) : Int)) = ((W * (H + Skew.top W num d) : Nat) : Int) := by rw [Int.natCast_mul, Int.natCast_add]
  refine ⟨H + Skew.top W num d, mkL D (Skew.place W num d) D.length (W * (H + Skew.top W num d)), ?_, ?_, ?_, ?_, fun x hx => Skew.cl_shear hx (by omega) hD, Skew.sq_shear hW1 (by omega) hD, by omega, ?_⟩
  · unfold shearS
    rw [hs, hp, if_pos rfl, if_pos rfl, Int.toNat_natCast, Int.toNat_natCast, if_neg (by rw [hc]; omega), Int.natCast_add]
  · unfold shearS
    have hc0 : (W : Int) * (H : Int) = ((W * H : Nat) : Int) := (Int.natCast_mul _ _).symm
    rw [hs, hp0, if_pos rfl, if_pos rfl, Int.toNat_natCast, Int.toNat_natCast, Skew.top_z, if_neg (by simp only [Int.natCast_zero, Int.add_zero]; rw [hc0]; omega), Nat.add_zero, ← hD, Skew.mkL_z]
    simp
  · rw [mkL_len]
    refine decide_eq_true ⟨by omega, by omega, by omega, by omega, ?_, ?_⟩
    · rw [Int.natCast_add, hc]; omega
    · rw [Int.natCast_add, hc]
  · unfold energyS
    rw [hs, hp, if_pos rfl, if_pos rfl, Int.toNat_natCast]
  · have h1 := Skew.en_le D (Skew.rowOf W num d) D.length
    have h2 := Nat.mul_le_mul (show D.length ≤ 4194304 by omega) (show D.length ≤ 4194304 by omega)
    unfold Skew.energy
    omega
attribute [local go_sem] max2_int min2_int max_two min_two
set_option maxRecDepth 100000 in
set_option maxHeartbeats 2000000 in
theorem walk (x0 x1 : Int) (A : Option Addr) (D : List Bool) (c : Nat) (a1 : Int) (a2 : Int) (w : World) (hr : RdB w A D) (hl : D.length ≤ 9223372036854775807) (w1 : (Lit.int .i16 a1).wf = true) (w2 : (Lit.int .u16 a2).wf = true) :
    Calls Try.prog 10 #[.agg (matA x0 x1 A D.length c), .int .i16 a1, .int .u16 a2] w fun e w' => e = .returned (.bool true) ∧ Below w.heap.size w w' := by
  have HR := Lib.hid hr
  clear hr
  have hw1 : -32768 ≤ a1 ∧ a1 < 32768 := by simp [Lit.wf, IntKind.min, IntKind.max, IntKind.signed, IntKind.bits] at w1; omega
  have hw2 : 0 ≤ a2 ∧ a2 < 65536 := by simp [Lit.wf, IntKind.min, IntKind.max, IntKind.signed, IntKind.bits] at w2; omega
  clear w1 w2
  obtain ⟨q, rfl⟩ : ∃ q : Nat, a2 = q := ⟨a2.toNat, by omega⟩
  have tq : (q : Int).tmod 4096 = ((q % 4096 : Nat) : Int) := (Int.ofNat_tmod q 4096).symm
  have hq := Nat.mod_lt q (show 0 < 4096 by omega)
  generalize q % 4096 = r at *
  obtain ⟨N, hN⟩ : ∃ N : Nat, max a1 (-a1) = (N : Int) := ⟨(max a1 (-a1)).toNat, by omega⟩
  have hNb : N ≤ 32768 := by omega
  unfold matA
  by_cases hf : D.length ≤ 1500
  · have hfew : decide (D.length ≤ 1500) = true := decide_eq_true hf
    cases hs : sndB x0 x1 D.length
    · clear hf
      go_enter Try.func10, Try.ntmps10
      go_wp2_with (refine wpList_box rfl 24 _ rfl _ rfl ?_; intro w1 hb1 hB1 hz1; have hb1 : Blk w1 w.heap.size 24 (matA x0 x1 A D.length c) := hb1; obtain ⟨c0, c1, c2⟩ := mat_cells hb1; have H1 := Lib.hid hz1; clear hz1)
      refine (few_any x0 x1 A D.length c _ hl).mono ?_
      rintro e w2 ⟨rfl, hB2⟩
      rw [hfew]
      have HB2 := Lib.hid (hB1.trans (hB2.mono (by have := H1.out; omega)))
      have HM2 := Lib.hid (hb1.below hB2 (by have := H1.out; omega))
      have hs2 : w.heap.size + 1 ≤ w2.heap.size := by have := H1.out; have := hB2.size; omega
      clear c0 c1 c2 hB1 hB2 hb1
      obtain ⟨c0, c1, c2⟩ := mat_cells HM2.out
      go_wp2_with fail
      refine (refcheck_any x0 x1 A D.length c _).mono ?_
      rintro e w3 ⟨rfl, hB3⟩
      rw [hs]
      have HB3 := Lib.hid (HB2.out.trans (hB3.mono HB2.out.size))
      have HM3 := Lib.hid (HM2.out.below hB3 (by omega))
      have hs3 : w.heap.size + 1 ≤ w3.heap.size := by have := hB3.size; omega
      clear c0 c1 c2 hB3
      obtain ⟨c0, c1, c2⟩ := mat_cells HM3.out
      go_wp2_with fail
      refine (example_any _).mono ?_
      rintro e w9 ⟨rfl, hB9⟩
      have HB9 := Lib.hid (HB3.out.trans (hB9.mono HB3.out.size))
      go_wp2_with fail
      go_ret
      exact ⟨rfl, HB9.out⟩
    · by_cases hn1 : 4096 < a1
      · have t1 : decide (4096 < a1) = true := decide_eq_true hn1
        clear hf
        go_enter Try.func10, Try.ntmps10
        go_wp2_with (refine wpList_box rfl 24 _ rfl _ rfl ?_; intro w1 hb1 hB1 hz1; have hb1 : Blk w1 w.heap.size 24 (matA x0 x1 A D.length c) := hb1; obtain ⟨c0, c1, c2⟩ := mat_cells hb1; have H1 := Lib.hid hz1; clear hz1)
        refine (few_any x0 x1 A D.length c _ hl).mono ?_
        rintro e w2 ⟨rfl, hB2⟩
        rw [hfew]
        have HB2 := Lib.hid (hB1.trans (hB2.mono (by have := H1.out; omega)))
        have HM2 := Lib.hid (hb1.below hB2 (by have := H1.out; omega))
        have hs2 : w.heap.size + 1 ≤ w2.heap.size := by have := H1.out; have := hB2.size; omega
        clear c0 c1 c2 hB1 hB2 hb1
        obtain ⟨c0, c1, c2⟩ := mat_cells HM2.out
        go_wp2_with fail
        refine (refcheck_any x0 x1 A D.length c _).mono ?_
        rintro e w3 ⟨rfl, hB3⟩
        rw [hs]
        have HB3 := Lib.hid (HB2.out.trans (hB3.mono HB2.out.size))
        have HM3 := Lib.hid (HM2.out.below hB3 (by omega))
        have hs3 : w.heap.size + 1 ≤ w3.heap.size := by have := hB3.size; omega
        clear c0 c1 c2 hB3
        obtain ⟨c0, c1, c2⟩ := mat_cells HM3.out
        go_wp2_with fail
        refine (example_any _).mono ?_
        rintro e w9 ⟨rfl, hB9⟩
        have HB9 := Lib.hid (HB3.out.trans (hB9.mono HB3.out.size))
        go_wp2_with fail
        go_ret
        exact ⟨rfl, HB9.out⟩
      · have t1 : decide (4096 < a1) = false := decide_eq_false hn1
        by_cases hn2 : a1 < -4096
        · have t2 : decide (a1 < -4096) = true := decide_eq_true hn2
          clear hf
          go_enter Try.func10, Try.ntmps10
          go_wp2_with (refine wpList_box rfl 24 _ rfl _ rfl ?_; intro w1 hb1 hB1 hz1; have hb1 : Blk w1 w.heap.size 24 (matA x0 x1 A D.length c) := hb1; obtain ⟨c0, c1, c2⟩ := mat_cells hb1; have H1 := Lib.hid hz1; clear hz1)
          refine (few_any x0 x1 A D.length c _ hl).mono ?_
          rintro e w2 ⟨rfl, hB2⟩
          rw [hfew]
          have HB2 := Lib.hid (hB1.trans (hB2.mono (by have := H1.out; omega)))
          have HM2 := Lib.hid (hb1.below hB2 (by have := H1.out; omega))
          have hs2 : w.heap.size + 1 ≤ w2.heap.size := by have := H1.out; have := hB2.size; omega
          clear c0 c1 c2 hB1 hB2 hb1
          obtain ⟨c0, c1, c2⟩ := mat_cells HM2.out
          go_wp2_with fail
          refine (refcheck_any x0 x1 A D.length c _).mono ?_
          rintro e w3 ⟨rfl, hB3⟩
          rw [hs]
          have HB3 := Lib.hid (HB2.out.trans (hB3.mono HB2.out.size))
          have HM3 := Lib.hid (HM2.out.below hB3 (by omega))
          have hs3 : w.heap.size + 1 ≤ w3.heap.size := by have := hB3.size; omega
          clear c0 c1 c2 hB3
          obtain ⟨c0, c1, c2⟩ := mat_cells HM3.out
          go_wp2_with fail
          refine (example_any _).mono ?_
          rintro e w9 ⟨rfl, hB9⟩
          have HB9 := Lib.hid (HB3.out.trans (hB9.mono HB3.out.size))
          go_wp2_with fail
          go_ret
          exact ⟨rfl, HB9.out⟩
        · have t2 : decide (a1 < -4096) = false := decide_eq_false hn2
          have hs' := hs
          obtain ⟨W, H, rfl, rfl, hW1, hW2, hH1, hH2, hD, hDl⟩ := snd_nat hs
          have hP : W * N ≤ 134217728 := Nat.mul_le_mul hW2 hNb
          have hm : (W : Int) * (N : Int) = ((W * N : Nat) : Int) := (Int.natCast_mul _ _).symm
          have hK := @keeps_facts W H N (1 + r) a1 D hs hf (by omega) (by omega) hN (by omega)
          rw [show ((1 + r : Nat) : Int) = 1 + (r : Int) by omega] at hK
          have HK := Lib.hid hK
          obtain ⟨p, hp⟩ : ∃ p, Hid (p = W * N) := ⟨_, Lib.hid rfl⟩
          have tdv : (p : Int).tdiv (1 + (r : Int)) = ((p / (1 + r) : Nat) : Int) := (Int.ofNat_tdiv p (1 + r)).symm
          obtain ⟨dv, hdv⟩ : ∃ dv, Hid (dv = p / (1 + r)) := ⟨_, Lib.hid rfl⟩
          rw [← hdv.out] at tdv
          rw [← hp.out] at hP hm
          have hq1 : IntKind.i64.wrap ((W : Int) * (N : Int)) = (p : Int) := by rw [hm, IntKind.wrap_i64]; omega
          have hdp : dv ≤ p := by rw [hdv.out]; exact Nat.div_le_self _ _
          have hr0 : ((1 + (r : Int)) == 0) = false := by rw [beq_eq_false_iff_ne]; omega
          clear hK hD hDl
          by_cases hbig : 300 < dv
          · have t3 : decide (300 < dv) = true := decide_eq_true hbig
            have t3' : decide (300 < (dv : Int)) = true := decide_eq_true (by omega)
            clear hf
            go_enter Try.func10, Try.ntmps10
            go_wp2_with (refine wpList_box rfl 24 _ rfl _ rfl ?_; intro w1 hb1 hB1 hz1; have hb1 : Blk w1 w.heap.size 24 (matA (W : Int) (H : Int) A D.length c) := hb1; obtain ⟨c0, c1, c2⟩ := mat_cells hb1; have H1 := Lib.hid hz1; clear hz1)
            refine (few_any (W : Int) (H : Int) A D.length c _ hl).mono ?_
            rintro e w2 ⟨rfl, hB2⟩
            rw [hfew]
            have HB2 := Lib.hid (hB1.trans (hB2.mono (by have := H1.out; omega)))
            have HM2 := Lib.hid (hb1.below hB2 (by have := H1.out; omega))
            have hs2 : w.heap.size + 1 ≤ w2.heap.size := by have := H1.out; have := hB2.size; omega
            clear c0 c1 c2 hB1 hB2 hb1
            obtain ⟨c0, c1, c2⟩ := mat_cells HM2.out
            go_wp2_with fail
            refine (refcheck_any (W : Int) (H : Int) A D.length c _).mono ?_
            rintro e w3 ⟨rfl, hB3⟩
            rw [hs]
            have HB3 := Lib.hid (HB2.out.trans (hB3.mono HB2.out.size))
            have HM3 := Lib.hid (HM2.out.below hB3 (by omega))
            have hs3 : w.heap.size + 1 ≤ w3.heap.size := by have := hB3.size; omega
            clear c0 c1 c2 hB3
            obtain ⟨c0, c1, c2⟩ := mat_cells HM3.out
            go_wp2_with fail
            refine (example_any _).mono ?_
            rintro e w9 ⟨rfl, hB9⟩
            have HB9 := Lib.hid (HB3.out.trans (hB9.mono HB3.out.size))
            go_wp2_with fail
            go_ret
            exact ⟨rfl, HB9.out⟩
          · have t3 : decide (300 < dv) = false := decide_eq_false hbig
            have t3' : decide (300 < (dv : Int)) = false := decide_eq_false (by omega)
            have hlen : D.length ≤ 1500 := hf
            obtain ⟨L, E, k1, k2, k3, k4, k5, k6, k7, k8⟩ := HK.out (by rw [← hp.out, ← hdv.out]; omega)
            have K1 := Lib.hid k1
            have K2 := Lib.hid k2
            have K3 := Lib.hid k3
            have K4 := Lib.hid k4
            have K5 := Lib.hid k5
            have K6 := Lib.hid k6
            clear k1 k2 k3 k4 k5 k6 hf
            go_enter Try.func10, Try.ntmps10
            go_wp2_with (refine wpList_box rfl 24 _ rfl _ rfl ?_; intro w1 hb1 hB1 hz1; have hb1 : Blk w1 w.heap.size 24 (matA (W : Int) (H : Int) A D.length c) := hb1; obtain ⟨c0, c1, c2⟩ := mat_cells hb1; have H1 := Lib.hid hz1; clear hz1)
            refine (few_any (W : Int) (H : Int) A D.length c _ hl).mono ?_
            rintro e w2 ⟨rfl, hB2⟩
            rw [hfew]
            have HB2 := Lib.hid (hB1.trans (hB2.mono (by have := H1.out; omega)))
            have HM2 := Lib.hid (hb1.below hB2 (by have := H1.out; omega))
            have hs2 : w.heap.size + 1 ≤ w2.heap.size := by have := H1.out; have := hB2.size; omega
            clear c0 c1 c2 hB1 hB2 hb1
            obtain ⟨c0, c1, c2⟩ := mat_cells HM2.out
            go_wp2_with fail
            refine (refcheck_any (W : Int) (H : Int) A D.length c _).mono ?_
            rintro e w3 ⟨rfl, hB3⟩
            rw [hs]
            have HB3 := Lib.hid (HB2.out.trans (hB3.mono HB2.out.size))
            have HM3 := Lib.hid (HM2.out.below hB3 (by omega))
            have hs3 : w.heap.size + 1 ≤ w3.heap.size := by have := hB3.size; omega
            clear c0 c1 c2 hB3
            obtain ⟨c0, c1, c2⟩ := mat_cells HM3.out
            go_wp2_with fail
            refine (shear_any W H A D c a1 (1 + (r : Int)) _ (HR.out.below HB3.out (Nat.le_refl _))).mono ?_
            rintro e w4 ⟨v, rfl, ⟨A4, c4, rfl, hR⟩, hB⟩
            rw [K1.out] at hR ⊢
            have HR4 := Lib.hid hR
            have HB4 := Lib.hid (HB3.out.trans (hB.mono HB3.out.size))
            have M4 := Lib.hid (HM3.out.below hB (by omega))
            have hs4 : w.heap.size + 1 ≤ w4.heap.size := by have := hB.size; omega
            clear hR hB c0 c1 c2
            have y := fun o => mat_cells (M4.out.alloc o)
            have y0 := fun o => (y o).1
            have y1 := fun o => (y o).2.1
            have y2 := fun o => (y o).2.2
            clear y
            unfold matA
            go_wp2_with fail
            clear y0 y1 y2
            obtain ⟨u4, hu, N3, N8, HC4⟩ : ∃ ux, ux = w4.alloc (.cells (matA W (L : Int) A4 E.length c4) 24) ∧ Hid (Blk ux w.heap.size 24 (matA W H A D.length c)) ∧ Hid (Mat ux (w.heap.size + 1) w4.heap.size W (L : Int) A4 c4 E) ∧ Hid (Below w.heap.size w ux) :=
              ⟨_, rfl, Lib.hid (M4.out.alloc _), Lib.hid (Mat.new HR4.out hs4), Lib.hid (HB4.out.alloc HB4.out.size _)⟩
            unfold matA at hu
            rw [← hu]
            clear hu HR4 HB4 M4
            generalize w4.heap.size = g8 at *
            have hs4' : w.heap.size + 1 ≤ u4.heap.size := by have := N3.out.lt; omega
            refine (energyx_any W H A D c a1 (1 + (r : Int)) _ (HR.out.below HC4.out (Nat.le_refl _))).mono ?_
            rintro e w5 ⟨rfl, hB⟩
            rw [K4.out]
            have HB5 := Lib.hid (HC4.out.trans (hB.mono HC4.out.size))
            have N3' := Lib.hid (N3.out.below hB (by omega))
            have N8' := Lib.hid (N8.out.below hB)
            have hs5 : w.heap.size + 1 ≤ w5.heap.size := by have := hB.size; omega
            clear hB N3 N8 HC4
            obtain ⟨x0, x1, x2⟩ := mat_cells N8'.out.1
            obtain ⟨c0, c1, c2⟩ := mat_cells N3'.out
            go_wp2_with fail
            clear x0 x1 x2 c0 c1 c2
            refine (profile_any W (L : Int) A4 E c4 _ N8'.out.2.1).mono ?_
            rintro e w6 ⟨v, rfl, hP, hB⟩
            unfold ProfR at hP
            rw [K3.out, if_pos rfl, if_pos rfl, Int.toNat_natCast, Int.toNat_natCast] at hP
            obtain ⟨A6, c6, rfl, hN6⟩ := hP
            have HN6 := Lib.hid hN6
            have HB6 := Lib.hid (HB5.out.trans (hB.mono HB5.out.size))
            have N3 := Lib.hid (N3'.out.below hB (by omega))
            have N8 := Lib.hid (N8'.out.below hB)
            have hs6 : w.heap.size + 1 ≤ w6.heap.size := by have := hB.size; omega
            clear hB hN6 N3' N8' HB5
            obtain ⟨c0, c1, c2⟩ := mat_cells N3.out
            go_wp2_with fail
            clear c0 c1 c2
            refine (shear_any W H A D c 0 (1 + (r : Int)) _ (HR.out.below HB6.out (Nat.le_refl _))).mono ?_
            rintro e w7 ⟨v, rfl, ⟨A7, c7, rfl, hR⟩, hB⟩
            rw [K2.out] at hR ⊢
            have HR7 := Lib.hid hR
            have HB7 := Lib.hid (HB6.out.trans (hB.mono HB6.out.size))
            have M3 := Lib.hid (N3.out.below hB (by omega))
            have M8 := Lib.hid (N8.out.below hB)
            have MN6 := Lib.hid (HN6.out.below hB (Nat.le_refl _))
            have hs7 : w.heap.size + 1 ≤ w7.heap.size := by have := hB.size; omega
            clear hR hB N3 N8 HN6 HB6
            have y := fun o => mat_cells (M3.out.alloc o)
            have y0 := fun o => (y o).1
            have y1 := fun o => (y o).2.1
            have y2 := fun o => (y o).2.2
            have z := fun o => mat_cells (M8.out.alloc o).1
            have z0 := fun o => (z o).1
            have z1 := fun o => (z o).2.1
            have z2 := fun o => (z o).2.2
            clear y z
            have tWW : ((W : Int) != (W : Int)) = false := by rw [bne_eq_false_iff_eq]
            unfold matA
            go_wp2_with fail
            clear y0 y1 y2 z0 z1 z2
            obtain ⟨u7, hu, N3, N8, N14, MN7, HC7⟩ : ∃ ux, ux = w7.alloc (.cells (matA W H A7 D.length c7) 24) ∧ Hid (Blk ux w.heap.size 24 (matA W H A D.length c)) ∧ Hid (Mat ux (w.heap.size + 1) g8 W (L : Int) A4 c4 E) ∧ Hid (Mat ux (w.heap.size + 1) w7.heap.size W H A7 c7 D) ∧ Hid (RdN ux A6 (Skew.pf W E) (L)) ∧ Hid (Below w.heap.size w ux) :=
              ⟨_, rfl, Lib.hid (M3.out.alloc _), Lib.hid (M8.out.alloc _), Lib.hid (Mat.new HR7.out hs7), Lib.hid (MN6.out.below ((Below.refl _ _).alloc (Nat.le_refl _) _) (Nat.le_refl _)), Lib.hid (HB7.out.alloc HB7.out.size _)⟩
            unfold matA at hu
            rw [← hu]
            clear hu M3 M8 MN6 HB7 HR7
            have hs7' : w.heap.size + 1 ≤ u7.heap.size := by have := N3.out.lt; omega
            refine (equal_any _ _ _ _ _ _ _ _ _ _ _ N14.out.2.1 (HR.out.below HC7.out (Nat.le_refl _)) (by omega)).mono ?_
            rintro e w8 ⟨rfl, hB⟩
            rw [eqB_self]
            have HB8 := Lib.hid (HC7.out.trans (hB.mono HC7.out.size))
            have M3 := Lib.hid (N3.out.below hB (by omega))
            have M8 := Lib.hid (N8.out.below hB)
            have MN8 := Lib.hid (MN7.out.below hB (Nat.le_refl _))
            have hs8 : w.heap.size + 1 ≤ w8.heap.size := by have := hB.size; omega
            clear hB N3 N8 N14 MN7 HC7
            go_wp2_with fail
            clear tWW
            go_loopw [16] (fun vx wr => ∃ x : Nat, x ≤ W ∧ vx = .int .i64 (x : Int) ∧ Blk wr w.heap.size 24 (matA W H A D.length c) ∧ Mat wr (w.heap.size + 1) g8 W (L : Int) A4 c4 E ∧ RdN wr A6 (Skew.pf W E) (L) ∧ Below w.heap.size w wr ∧ w.heap.size + 1 ≤ wr.heap.size) (fun vx _ => W - (intOf vx).toNat)
            case atStart => exact ⟨0, Nat.zero_le _, rfl, M3.out, M8.out, MN8.out, HB8.out, hs8⟩
            case round =>
              clear M3 M8 MN8 HB8
              obtain ⟨x, hx, rfl, h3, h8, hN, hB, hsz⟩ := hrel
              have M3 := Lib.hid h3
              have M8 := Lib.hid h8
              have MN := Lib.hid hN
              have HB := Lib.hid hB
              obtain ⟨c0, c1, c2⟩ := mat_cells h3
              clear h3 h8 hN hB
              by_cases hlt : x < W
              · have hdx : decide ((x : Int) < (W : Int)) = true := decide_eq_true (by omega)
                go_wp2_with fail
                clear c0 c1 c2
                have K : ∀ w', Below wr.heap.size wr w' → w'.cell? ⟨g8, 0, none⟩ = some (.int .i64 (W : Int)) ∧ w'.cell? ⟨g8, 1, none⟩ = some (.int .i64 (L : Int)) ∧ w'.cell? ⟨g8, 2, none⟩ = some (.slice A4 E.length c4) ∧ w'.cell? ⟨w.heap.size, 0, none⟩ = some (.int .i64 (W : Int)) ∧ w'.cell? ⟨w.heap.size, 1, none⟩ = some (.int .i64 (H : Int)) ∧ w'.cell? ⟨w.heap.size, 2, none⟩ = some (.slice A D.length c) := fun w' hb => by
                  obtain ⟨p0, p1, p2⟩ := mat_cells (M8.out.below hb).1
                  obtain ⟨q0, q1, q2⟩ := mat_cells (M3.out.below hb (by omega))
                  exact ⟨p0, p1, p2, q0, q1, q2⟩
                have KD : ∀ w', Below wr.heap.size wr w' → RdB w' A D := fun w' hb => HR.out.below (HB.out.trans (hb.mono HB.out.size)) (Nat.le_refl _)
                have KE : ∀ w', Below wr.heap.size wr w' → RdB w' A4 E := fun w' hb => (M8.out.below hb).2.1
                have HK1 := Lib.hid K
                have HKD := Lib.hid KD
                have HKE := Lib.hid KE
                have hBC : Below wr.heap.size wr wr.drew := (Below.refl _ _).drew
                obtain ⟨k1, k2, k3, k4, k5, k6⟩ := K _ (Below.refl _ _)
                have hcE : ((Skew.cl E W x (L) : Nat) : Int) = ((Skew.cl D W x H : Nat) : Int) := by rw [K5.out x hlt]
                have hce : (((Skew.cl D W x H : Nat) : Int) != ((Skew.cl D W x H : Nat) : Int)) = false := by rw [bne_eq_false_iff_eq]
                have HCE := Lib.hid hcE
                clear K KD KE hcE
                go_region_held3 (fun w' => w'.cell? ⟨g8, 0, none⟩ = some (.int .i64 (W : Int)) ∧ w'.cell? ⟨g8, 1, none⟩ = some (.int .i64 (L : Int)) ∧ w'.cell? ⟨g8, 2, none⟩ = some (.slice A4 E.length c4) ∧ w'.cell? ⟨w.heap.size, 0, none⟩ = some (.int .i64 (W : Int)) ∧ w'.cell? ⟨w.heap.size, 1, none⟩ = some (.int .i64 (H : Int)) ∧ w'.cell? ⟨w.heap.size, 2, none⟩ = some (.slice A D.length c)) (first | exact HK1.out _ hBC | exact HK1.out _ (Below.refl _ _)) ((go_at_call 28; refine (column_any _ _ _ _ _ _ _ ?h1 ?h2 ?h3).mono ?_; (case h1 => first | exact HKE.out _ hBC | exact HKD.out _ hBC); (case h2 => first | exact K3.out | exact hs'); (case h3 => exact hlt); rintro e w9 ⟨rfl, hB⟩; (first | rw [HCE.out] | skip); have hBC := hBC.trans (hB.mono hBC.size)))
                all_goals
                  have M3d := Lib.hid (M3.out.below hBC (by omega))
                  have M8d := Lib.hid (M8.out.below hBC)
                  have MNd := Lib.hid (MN.out.below hBC (Nat.le_refl _))
                  have HBd := Lib.hid (HB.out.trans (hBC.mono HB.out.size))
                  have hsd := Nat.le_trans hsz hBC.size
                  go_wp2_with fail
                  go_roundw
                  case rel => exact ⟨x + 1, by omega, by go_num, M3d.out, M8d.out, MNd.out, HBd.out, hsd⟩
                  case measure => simp [intOf]; omega
              · have hdx : decide ((x : Int) < (W : Int)) = false := decide_eq_false (by omega)
                go_wp2_with fail
                clear M3 M8 c0 c1 c2
                have hsb : Skew.sq (Skew.pf W E) (L) ≤ 17592186044416 := by rw [K6.out]; exact k8
                have HSB := Lib.hid hsb
                obtain ⟨f, hfh⟩ : ∃ f, Hid (f = Skew.pf W E) := ⟨_, Lib.hid rfl⟩
                rw [← hfh.out] at MN HSB
                clear hsb
                go_loopw [17, 18] (fun vs vy wv => ∃ y : Nat, y ≤ L ∧ vy = .int .i64 (y : Int) ∧ vs = .int .i64 ((Skew.sq f y : Nat) : Int) ∧ RdN wv A6 f L ∧ Below w.heap.size w wv) (fun _ vy _ => L - (intOf vy).toNat)
                case atStart => exact ⟨0, Nat.zero_le _, rfl, rfl, MN.out, HB.out⟩
                case round =>
                  clear MN HB
                  obtain ⟨y, hy, rfl, rfl, hN, hB⟩ := hrel
                  have MN := Lib.hid hN
                  have HB := Lib.hid hB
                  clear hN hB
                  by_cases hly : y < L
                  · have hdy : decide ((y : Int) < (L : Int)) = true := decide_eq_true (by omega)
                    obtain ⟨ad, rfl, hcell⟩ := MN.out.at_ hly
                    have hb1 := sq_le HSB.out hly
                    have HSS := Lib.hid (show Skew.sq f (y + 1) = Skew.sq f y + f y * f y from rfl)
                    generalize Skew.sq f y = s0 at *
                    generalize hcy : f y = cy at *
                    have HCY := Lib.hid hcy
                    clear hcy
                    generalize hm2 : cy * cy = m at *
                    have q1 : IntKind.i64.wrap ((cy : Int) * (cy : Int)) = (m : Int) := by
                      rw [show (cy : Int) * (cy : Int) = (m : Int) from by rw [← hm2]; exact (Int.natCast_mul _ _).symm, IntKind.wrap_i64]; omega
                    have q2 : IntKind.i64.wrap ((s0 : Int) + (m : Int)) = ((s0 + m : Nat) : Int) := by rw [IntKind.wrap_i64]; omega
                    clear hm2
                    go_wp2_with fail
                    refine wp_region_still_tail 11 mixed (by kernel_rfl) ?_
                    change wpStill _ _ (World.drew _) _ _ _
                    change wpStill _ _ _ (fun a' => wpList _ _ _ _ a' (World.drew _)) _ _
                    simp only [List.take_succ_cons, List.take_zero, List.drop_succ_cons, List.drop_zero]
                    repeat still_step
                    refine wpStill_nil ?_
                    have MNd : Hid (RdN wr.drew (some ad) f L) := Lib.hid MN.out
                    have HBd := Lib.hid HB.out.drew
                    go_wp2
                    go_roundw
                    case rel => exact ⟨y + 1, by omega, by go_num, by rw [HSS.out]; rfl, MNd.out, HBd.out⟩
                    case measure => simp [intOf]; omega
                  · have hdy : decide ((y : Int) < (L : Int)) = false := decide_eq_false (by omega)
                    obtain rfl : y = L := by omega
                    have hsq : Skew.sq f y = Skew.energy W D a1 (1 + (r : Int)) := by rw [hfh.out]; exact K6.out
                    rw [hsq]
                    have teq : (((Skew.energy W D a1 (1 + (r : Int)) : Nat) : Int) == ((Skew.energy W D a1 (1 + (r : Int)) : Nat) : Int)) = true := by rw [beq_iff_eq]
                    clear hsq
                    generalize Skew.energy W D a1 (1 + (r : Int)) = en at *
                    go_wp2_with fail
                    refine (example_any _).mono ?_
                    rintro e w9 ⟨rfl, hB9⟩
                    have HB9 := Lib.hid (HB.out.trans (hB9.mono HB.out.size))
                    go_wp2_with fail
                    go_ret
                    exact ⟨rfl, HB9.out⟩
  · have hfew : decide (D.length ≤ 1500) = false := decide_eq_false hf
    clear hf
    go_enter Try.func10, Try.ntmps10
    go_wp2_with (refine wpList_box rfl 24 _ rfl _ rfl ?_; intro w1 hb1 hB1 hz1; have hb1 : Blk w1 w.heap.size 24 (matA x0 x1 A D.length c) := hb1; obtain ⟨c0, c1, c2⟩ := mat_cells hb1; have H1 := Lib.hid hz1; clear hz1)
    refine (few_any x0 x1 A D.length c _ hl).mono ?_
    rintro e w2 ⟨rfl, hB2⟩
    rw [hfew]
    have HB2 := Lib.hid (hB1.trans (hB2.mono (by have := H1.out; omega)))
    have HM2 := Lib.hid (hb1.below hB2 (by have := H1.out; omega))
    have hs2 : w.heap.size + 1 ≤ w2.heap.size := by have := H1.out; have := hB2.size; omega
    clear c0 c1 c2 hB1 hB2 hb1
    obtain ⟨c0, c1, c2⟩ := mat_cells HM2.out
    go_wp2_with fail
    refine (example_any _).mono ?_
    rintro e w9 ⟨rfl, hB9⟩
    have HB9 := Lib.hid (HB2.out.trans (hB9.mono HB2.out.size))
    go_wp2_with fail
    go_ret
    exact ⟨rfl, HB9.out⟩
set_option maxRecDepth 100000 in
theorem lifted (os : Os) (started : os.Started) (H : Type) (enc : TypeId × Value → H) :
    ReturnsInHanded {} Try.checked os 10 .any (Rows.skewKeepsSpec.pre6 enc Try.prog Try.f10 Rows.skewKeepsRow.domain false) (Rows.skewKeepsSpec.post enc Try.prog Try.f10 false true false false) := by
  refine returnsInHanded_of_change (C := Try.checked) own started (by kernel_rfl) Try.func10
    (ChangeSpec.witness6 (enc := enc) (C := Try.checked) false ⟨#[], #[.agg #[.int .i64 0, .int .i64 0, .slice none 0 0], .int .i16 0, .int .u16 0], []⟩ 8 (by kernel_rfl) (by kernel_rfl) (by kernel_rfl) (by kernel_rfl)) ?_
  intro W base args ds gs before hval0 hW hcnd _
  have hval : ∀ (j : Nat) t v, Try.f10.params[j]? = some t → args[j]? = some v → Value.okWide Try.prog W .any base t v := hval0
  have hW' := hW
  obtain ⟨p, q, hA0, hV, rfl, hfz, hnd⟩ := hW
  have hA : DataW.TrodAll enc Try.prog W 0 (fun _ => true) true Try.f10.params.toList args.toList ds p := hA0
  rw [Try.params10] at hA hval
  obtain ⟨v0, vs0, d0, ds0, p0, q0, hargs, rfl, rfl, h0, r0⟩ := trodAll_cons hA
  obtain ⟨v1, vs1, d1, ds1, p1, q1, rfl, rfl, rfl, h1, r1⟩ := trodAll_cons r0
  obtain ⟨v2, vs2, d2, ds2, p2, q2, rfl, rfl, rfl, h2, r2⟩ := trodAll_cons r1
  obtain ⟨rfl, rfl, rfl⟩ := trodAll_nil r2
  obtain rfl : args = #[v0, v1, v2] := by cases args; simp_all
  obtain ⟨rfl, rfl⟩ := trodVars_none hV
  have k0 := h0
  have lt0 : ∀ x ∈ p0, x.block < W.heap.size := by obtain ⟨m, hm⟩ := k0; exact DataW.trod_lt m _ _ _ hm
  obtain ⟨x0, x1, A, D, c, hv, f0, f1, hr, hl⟩ := open_mat (hval 0 24 v0 rfl rfl) h0
  clear h0
  subst hv
  obtain ⟨a1, rfl, rfl, rfl, w1⟩ := open_int Try.underlying47 (hval 1 47 v1 rfl rfl) h1
  obtain ⟨a2, rfl, rfl, rfl, w2⟩ := open_int Try.underlying41 (hval 2 41 v2 rfl rfl) h2
  clear hA0 hval0
  refine (walk x0 x1 A D c a1 a2 W hr hl w1 w2).mono fun e W' ⟨he, bel⟩ => ?_
  subst he
  exact ⟨_, rfl, _, _, _, [], _, [], hW', trodAll_mk1 (shut_bool Try.underlying4 _), (trodAll_cons_mk (Below.trod laidOut (by kernel_rfl) (of_decide_eq_true (by kernel_rfl)) k0 bel lt0) (trodAll_cons_mk (shut_int Try.underlying47 w1) (trodAll_cons_mk (shut_int Try.underlying41 w2) trodAll_mk0))), rfl, bel.frame _, fun h => by cases h⟩
theorem over : Rows.skewKeepsRow.holds Try.pinned (OpenSpec.ofChange Rows.skewKeepsSpec) :=
  OpenClaim.holds_of_wide 10 Try.f10 rfl rfl rfl rfl rfl rfl rfl ⟨rfl, rfl, rfl, rfl, rfl⟩ rfl rfl rfl rfl rfl (by kernel_rfl) Try.func10 (by kernel_rfl)
    (of_decide_eq_true (by kernel_rfl)) (by unfold Func.isWrapper; first | (rw [if_pos (by decide +kernel)]; kernel_rfl) | (rw [if_neg (by decide +kernel)]; exact ⟨rfl, rfl⟩))
    (fun os started H enc _ => lifted os started H enc)
end Go.Proofs.Yticbpifgjjcjmaa.skewKeeps
namespace Go.Proofs.Yticbpifgjjcjmaa
theorem skewkeeps_holds : Rows.SkewKeepsSaid := skewKeeps.over
end Go.Proofs.Yticbpifgjjcjmaa
#print axioms Go.Proofs.Yticbpifgjjcjmaa.skewkeeps_holds
