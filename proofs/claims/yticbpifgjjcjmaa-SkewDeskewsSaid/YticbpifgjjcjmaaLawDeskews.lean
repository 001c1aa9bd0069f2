/- The law SkewDeskews: the corrected bitmap, the numerator and the error are the specified ones, and the chapter's examples hold. -/
import Derived.Test.YticbpifgjjcjmaaExa
import Derived.Test.YticbpifgjjcjmaaRds
import Derived.Test.YticbpifgjjcjmaaArg
import Derived.Test.YticbpifgjjcjmaaRows
import Derived.WalkKit
import Derived.ProofKit
import Derived.OpenShut
import Derived.ShutString
import Derived.ChangeOld
import Derived.Below
namespace Go.Proofs.Yticbpifgjjcjmaa.skewDeskews
open Go.ChangeShapes Go.WideShapes Go.ChangeAt Go.RowKit
open Go.ChangeMaps (open_string shut_string)
set_option linter.unusedVariables false
theorem own : ownKnob Try.prog.godebug = none := by kernel_rfl
theorem laidOut : laidOutB Try.prog = true := by kernel_rfl
theorem shear_len (W H : Int) (D : List Bool) (num den : Int) : (shearS W H D num den).2.2.1.length ≤ 16777216 := by
  unfold shearS
  split
  · rename_i hs
    obtain ⟨W', H', rfl, rfl, hW1, hW2, hH1, hH2, hD, hDl⟩ := snd_nat hs
    split
    · split
      · simp
      · rename_i hn
        rw [Int.toNat_natCast, Int.toNat_natCast] at *
        simp only [mkL_len]
        have h4 : H' + Skew.top W' num den ≤ 4096 := by omega
        have := Nat.mul_le_mul hW2 h4
        omega
    · simp
  · simp
theorem desk_len (W H : Int) (D : List Bool) (most den : Int) : (deskS W H D most den).1.2.2.1.length ≤ 16777216 := by
  unfold deskS
  split
  · split
    · exact shear_len _ _ _ _ _
    · simp
  · simp
set_option maxRecDepth 100000 in
set_option maxHeartbeats 2000000 in
theorem walk (x0 x1 : Int) (A : Option Addr) (D : List Bool) (c : Nat) (a1 : Int) (a2 : Int) (w : World) (hr : RdB w A D) (hl : D.length ≤ 9223372036854775807) (w1 : (Lit.int .i64 a1).wf = true) (w2 : (Lit.int .i64 a2).wf = true) :
    Calls Try.prog 6 #[.agg (matA x0 x1 A D.length c), .int .i64 a1, .int .i64 a2] w fun e w' => e = .returned (.bool true) ∧ Below w.heap.size w w' := by
  have HR := Lib.hid hr
  clear hr
  unfold matA
  by_cases hf : 600 < D.length
  · have hd : decide (600 < (D.length : Int)) = true := decide_eq_true (by omega)
    have hd' : decide (600 < D.length) = true := decide_eq_true hf
    go_enter Try.func6, Try.ntmps6
    go_wp2_with (refine wpList_box rfl 24 _ rfl _ rfl ?_; intro w1 hb1 hB1 hz1; have hb1 : Blk w1 w.heap.size 24 (matA x0 x1 A D.length c) := hb1; obtain ⟨c0, c1, c2⟩ := mat_cells hb1; have H1 := Lib.hid hz1; clear hz1)
    have HB2 := Lib.hid hB1
    have HM2 := Lib.hid hb1
    have hs2 : w.heap.size + 1 ≤ w1.heap.size := by have := H1.out; omega
    clear hB1 hb1
    refine (example_any _).mono ?_
    rintro e w5 ⟨rfl, hB5⟩
    have HB5 := Lib.hid (HB2.out.trans (hB5.mono HB2.out.size))
    go_wp2_with fail
    go_ret
    exact ⟨rfl, HB5.out⟩
  · have hd : decide (600 < (D.length : Int)) = false := decide_eq_false (by omega)
    have hd' : decide (600 < D.length) = false := decide_eq_false hf
    by_cases h20 : 20 < a1
    · have t1 : decide (20 < a1) = true := decide_eq_true h20
      by_cases h256 : a1 ≤ 256
      · have t2 : decide (a1 ≤ 256) = true := decide_eq_true h256
        go_enter Try.func6, Try.ntmps6
        go_wp2_with (refine wpList_box rfl 24 _ rfl _ rfl ?_; intro w1 hb1 hB1 hz1; have hb1 : Blk w1 w.heap.size 24 (matA x0 x1 A D.length c) := hb1; obtain ⟨c0, c1, c2⟩ := mat_cells hb1; have H1 := Lib.hid hz1; clear hz1)
        have HB2 := Lib.hid hB1
        have HM2 := Lib.hid hb1
        have hs2 : w.heap.size + 1 ≤ w1.heap.size := by have := H1.out; omega
        clear hB1 hb1
        refine (example_any _).mono ?_
        rintro e w5 ⟨rfl, hB5⟩
        have HB5 := Lib.hid (HB2.out.trans (hB5.mono HB2.out.size))
        go_wp2_with fail
        go_ret
        exact ⟨rfl, HB5.out⟩
      · have t2 : decide (a1 ≤ 256) = false := decide_eq_false h256
        by_cases g1 : 0 < a2
        · have t3 : decide (0 < a2) = true := decide_eq_true g1
          by_cases g2 : a2 < 4
          · have t4 : decide (a2 < 4) = true := decide_eq_true g2
            go_enter Try.func6, Try.ntmps6
            go_wp2_with (refine wpList_box rfl 24 _ rfl _ rfl ?_; intro w1 hb1 hB1 hz1; have hb1 : Blk w1 w.heap.size 24 (matA x0 x1 A D.length c) := hb1; obtain ⟨c0, c1, c2⟩ := mat_cells hb1; have H1 := Lib.hid hz1; clear hz1)
            have HB2 := Lib.hid hB1
            have HM2 := Lib.hid hb1
            have hs2 : w.heap.size + 1 ≤ w1.heap.size := by have := H1.out; omega
            clear hB1 hb1
            refine (example_any _).mono ?_
            rintro e w5 ⟨rfl, hB5⟩
            have HB5 := Lib.hid (HB2.out.trans (hB5.mono HB2.out.size))
            go_wp2_with fail
            go_ret
            exact ⟨rfl, HB5.out⟩
          · have t4 : decide (a2 < 4) = false := decide_eq_false g2
            go_enter Try.func6, Try.ntmps6
            go_wp2_with (refine wpList_box rfl 24 _ rfl _ rfl ?_; intro w1 hb1 hB1 hz1; have hb1 : Blk w1 w.heap.size 24 (matA x0 x1 A D.length c) := hb1; obtain ⟨c0, c1, c2⟩ := mat_cells hb1; have H1 := Lib.hid hz1; clear hz1)
            have HB2 := Lib.hid hB1
            have HM2 := Lib.hid hb1
            have hs2 : w.heap.size + 1 ≤ w1.heap.size := by have := H1.out; omega
            clear hB1 hb1
            obtain ⟨s0, s1, sD, s3, s4, HS⟩ : ∃ s0 s1 sD s3 s4, Hid (deskS x0 x1 D a1 a2 = ((s0, s1, sD, s3), s4)) := ⟨_, _, _, _, _, Lib.hid rfl⟩
            refine (deskew_any x0 x1 A D c a1 a2 _ (HR.out.below HB2.out (Nat.le_refl _))).mono ?_
            rintro e w4 ⟨v, rfl, ⟨A4, c4, rfl, hR⟩, hB⟩
            rw [HS.out] at hR ⊢
            have HR4 := Lib.hid hR
            have HB4 := Lib.hid (HB2.out.trans (hB.mono HB2.out.size))
            have M3 := Lib.hid (HM2.out.below hB (by omega))
            have hs4 : w.heap.size + 1 ≤ w4.heap.size := by have := hB.size; omega
            clear hR hB c0 c1 c2
            have y := fun o => mat_cells (M3.out.alloc o)
            have y0 := fun o => (y o).1
            have y1 := fun o => (y o).2.1
            have y2 := fun o => (y o).2.2
            clear y
            unfold matA
            go_wp2_with fail
            clear y0 y1 y2
            obtain ⟨u4, hu, N3, N7, HC4⟩ : ∃ ux, ux = w4.alloc (.cells (matA s0 s1 A4 sD.length c4) 24) ∧ Hid (Blk ux w.heap.size 24 (matA x0 x1 A D.length c)) ∧ Hid (Mat ux w.heap.size w4.heap.size s0 s1 A4 c4 sD) ∧ Hid (Below w.heap.size w ux) :=
              ⟨_, rfl, Lib.hid (M3.out.alloc _), Lib.hid (Mat.new HR4.out HB4.out.size), Lib.hid (HB4.out.alloc HB4.out.size _)⟩
            unfold matA at hu
            rw [← hu]
            clear hu HR4 HB4 M3
            generalize w4.heap.size = g7 at *
            refine (refdeskew_any x0 x1 A D c a1 a2 _ (HR.out.below HC4.out (Nat.le_refl _))).mono ?_
            rintro e w5 ⟨v, rfl, ⟨A5, c5, rfl, hR⟩, hB⟩
            rw [HS.out] at hR ⊢
            have HR5 := Lib.hid hR
            have HB5 := Lib.hid (HC4.out.trans (hB.mono HC4.out.size))
            have N7' := Lib.hid (N7.out.below hB)
            clear hR hB
            have y := fun o => mat_cells (N7'.out.alloc o).1
            have y0 := fun o => (y o).1
            have y1 := fun o => (y o).2.1
            have y2 := fun o => (y o).2.2
            clear y
            have tee : (s3 == s3) = true := by rw [beq_iff_eq]
            have tee2 : (s4 == s4) = true := by rw [beq_iff_eq]
            unfold matA
            go_wp2_with fail
            clear y0 y1 y2
            obtain ⟨u5, hu, P7, P9, HC5⟩ : ∃ ux, ux = w5.alloc (.cells (matA s0 s1 A5 sD.length c5) 24) ∧ Hid (Mat ux w.heap.size g7 s0 s1 A4 c4 sD) ∧ Hid (Mat ux w.heap.size w5.heap.size s0 s1 A5 c5 sD) ∧ Hid (Below w.heap.size w ux) :=
              ⟨_, rfl, Lib.hid (N7'.out.alloc _), Lib.hid (Mat.new HR5.out HB5.out.size), Lib.hid (HB5.out.alloc HB5.out.size _)⟩
            unfold matA at hu
            rw [← hu]
            clear hu
            refine (equal_any _ _ _ _ _ _ _ _ _ _ _ P7.out.2.1 P9.out.2.1 ?_).mono ?_
            · have h9 := desk_len x0 x1 D a1 a2; rw [HS.out] at h9; simp only [] at h9; omega
            rintro e w6 ⟨rfl, hB⟩
            rw [eqB_self]
            have HC6 := Lib.hid (HC5.out.trans (hB.mono HC5.out.size))
            clear hB
            go_wp2_with fail
            refine (example_any _).mono ?_
            rintro e w7 ⟨rfl, hB7⟩
            have HC7 := Lib.hid (HC6.out.trans (hB7.mono HC6.out.size))
            go_wp2_with fail
            go_ret
            exact ⟨rfl, HC7.out⟩
        · have t3 : decide (0 < a2) = false := decide_eq_false g1
          go_enter Try.func6, Try.ntmps6
          go_wp2_with (refine wpList_box rfl 24 _ rfl _ rfl ?_; intro w1 hb1 hB1 hz1; have hb1 : Blk w1 w.heap.size 24 (matA x0 x1 A D.length c) := hb1; obtain ⟨c0, c1, c2⟩ := mat_cells hb1; have H1 := Lib.hid hz1; clear hz1)
          have HB2 := Lib.hid hB1
          have HM2 := Lib.hid hb1
          have hs2 : w.heap.size + 1 ≤ w1.heap.size := by have := H1.out; omega
          clear hB1 hb1
          obtain ⟨s0, s1, sD, s3, s4, HS⟩ : ∃ s0 s1 sD s3 s4, Hid (deskS x0 x1 D a1 a2 = ((s0, s1, sD, s3), s4)) := ⟨_, _, _, _, _, Lib.hid rfl⟩
          refine (deskew_any x0 x1 A D c a1 a2 _ (HR.out.below HB2.out (Nat.le_refl _))).mono ?_
          rintro e w4 ⟨v, rfl, ⟨A4, c4, rfl, hR⟩, hB⟩
          rw [HS.out] at hR ⊢
          have HR4 := Lib.hid hR
          have HB4 := Lib.hid (HB2.out.trans (hB.mono HB2.out.size))
          have M3 := Lib.hid (HM2.out.below hB (by omega))
          have hs4 : w.heap.size + 1 ≤ w4.heap.size := by have := hB.size; omega
          clear hR hB c0 c1 c2
          have y := fun o => mat_cells (M3.out.alloc o)
          have y0 := fun o => (y o).1
          have y1 := fun o => (y o).2.1
          have y2 := fun o => (y o).2.2
          clear y
          unfold matA
          go_wp2_with fail
          clear y0 y1 y2
          obtain ⟨u4, hu, N3, N7, HC4⟩ : ∃ ux, ux = w4.alloc (.cells (matA s0 s1 A4 sD.length c4) 24) ∧ Hid (Blk ux w.heap.size 24 (matA x0 x1 A D.length c)) ∧ Hid (Mat ux w.heap.size w4.heap.size s0 s1 A4 c4 sD) ∧ Hid (Below w.heap.size w ux) :=
            ⟨_, rfl, Lib.hid (M3.out.alloc _), Lib.hid (Mat.new HR4.out HB4.out.size), Lib.hid (HB4.out.alloc HB4.out.size _)⟩
          unfold matA at hu
          rw [← hu]
          clear hu HR4 HB4 M3
          generalize w4.heap.size = g7 at *
          refine (refdeskew_any x0 x1 A D c a1 a2 _ (HR.out.below HC4.out (Nat.le_refl _))).mono ?_
          rintro e w5 ⟨v, rfl, ⟨A5, c5, rfl, hR⟩, hB⟩
          rw [HS.out] at hR ⊢
          have HR5 := Lib.hid hR
          have HB5 := Lib.hid (HC4.out.trans (hB.mono HC4.out.size))
          have N7' := Lib.hid (N7.out.below hB)
          clear hR hB
          have y := fun o => mat_cells (N7'.out.alloc o).1
          have y0 := fun o => (y o).1
          have y1 := fun o => (y o).2.1
          have y2 := fun o => (y o).2.2
          clear y
          have tee : (s3 == s3) = true := by rw [beq_iff_eq]
          have tee2 : (s4 == s4) = true := by rw [beq_iff_eq]
          unfold matA
          go_wp2_with fail
          clear y0 y1 y2
          obtain ⟨u5, hu, P7, P9, HC5⟩ : ∃ ux, ux = w5.alloc (.cells (matA s0 s1 A5 sD.length c5) 24) ∧ Hid (Mat ux w.heap.size g7 s0 s1 A4 c4 sD) ∧ Hid (Mat ux w.heap.size w5.heap.size s0 s1 A5 c5 sD) ∧ Hid (Below w.heap.size w ux) :=
            ⟨_, rfl, Lib.hid (N7'.out.alloc _), Lib.hid (Mat.new HR5.out HB5.out.size), Lib.hid (HB5.out.alloc HB5.out.size _)⟩
          unfold matA at hu
          rw [← hu]
          clear hu
          refine (equal_any _ _ _ _ _ _ _ _ _ _ _ P7.out.2.1 P9.out.2.1 ?_).mono ?_
          · have h9 := desk_len x0 x1 D a1 a2; rw [HS.out] at h9; simp only [] at h9; omega
          rintro e w6 ⟨rfl, hB⟩
          rw [eqB_self]
          have HC6 := Lib.hid (HC5.out.trans (hB.mono HC5.out.size))
          clear hB
          go_wp2_with fail
          refine (example_any _).mono ?_
          rintro e w7 ⟨rfl, hB7⟩
          have HC7 := Lib.hid (HC6.out.trans (hB7.mono HC6.out.size))
          go_wp2_with fail
          go_ret
          exact ⟨rfl, HC7.out⟩
    · have t1 : decide (20 < a1) = false := decide_eq_false h20
      by_cases g1 : 0 < a2
      · have t3 : decide (0 < a2) = true := decide_eq_true g1
        by_cases g2 : a2 < 4
        · have t4 : decide (a2 < 4) = true := decide_eq_true g2
          go_enter Try.func6, Try.ntmps6
          go_wp2_with (refine wpList_box rfl 24 _ rfl _ rfl ?_; intro w1 hb1 hB1 hz1; have hb1 : Blk w1 w.heap.size 24 (matA x0 x1 A D.length c) := hb1; obtain ⟨c0, c1, c2⟩ := mat_cells hb1; have H1 := Lib.hid hz1; clear hz1)
          have HB2 := Lib.hid hB1
          have HM2 := Lib.hid hb1
          have hs2 : w.heap.size + 1 ≤ w1.heap.size := by have := H1.out; omega
          clear hB1 hb1
          refine (example_any _).mono ?_
          rintro e w5 ⟨rfl, hB5⟩
          have HB5 := Lib.hid (HB2.out.trans (hB5.mono HB2.out.size))
          go_wp2_with fail
          go_ret
          exact ⟨rfl, HB5.out⟩
        · have t4 : decide (a2 < 4) = false := decide_eq_false g2
          go_enter Try.func6, Try.ntmps6
          go_wp2_with (refine wpList_box rfl 24 _ rfl _ rfl ?_; intro w1 hb1 hB1 hz1; have hb1 : Blk w1 w.heap.size 24 (matA x0 x1 A D.length c) := hb1; obtain ⟨c0, c1, c2⟩ := mat_cells hb1; have H1 := Lib.hid hz1; clear hz1)
          have HB2 := Lib.hid hB1
          have HM2 := Lib.hid hb1
          have hs2 : w.heap.size + 1 ≤ w1.heap.size := by have := H1.out; omega
          clear hB1 hb1
          obtain ⟨s0, s1, sD, s3, s4, HS⟩ : ∃ s0 s1 sD s3 s4, Hid (deskS x0 x1 D a1 a2 = ((s0, s1, sD, s3), s4)) := ⟨_, _, _, _, _, Lib.hid rfl⟩
          refine (deskew_any x0 x1 A D c a1 a2 _ (HR.out.below HB2.out (Nat.le_refl _))).mono ?_
          rintro e w4 ⟨v, rfl, ⟨A4, c4, rfl, hR⟩, hB⟩
          rw [HS.out] at hR ⊢
          have HR4 := Lib.hid hR
          have HB4 := Lib.hid (HB2.out.trans (hB.mono HB2.out.size))
          have M3 := Lib.hid (HM2.out.below hB (by omega))
          have hs4 : w.heap.size + 1 ≤ w4.heap.size := by have := hB.size; omega
          clear hR hB c0 c1 c2
          have y := fun o => mat_cells (M3.out.alloc o)
          have y0 := fun o => (y o).1
          have y1 := fun o => (y o).2.1
          have y2 := fun o => (y o).2.2
          clear y
          unfold matA
          go_wp2_with fail
          clear y0 y1 y2
          obtain ⟨u4, hu, N3, N7, HC4⟩ : ∃ ux, ux = w4.alloc (.cells (matA s0 s1 A4 sD.length c4) 24) ∧ Hid (Blk ux w.heap.size 24 (matA x0 x1 A D.length c)) ∧ Hid (Mat ux w.heap.size w4.heap.size s0 s1 A4 c4 sD) ∧ Hid (Below w.heap.size w ux) :=
            ⟨_, rfl, Lib.hid (M3.out.alloc _), Lib.hid (Mat.new HR4.out HB4.out.size), Lib.hid (HB4.out.alloc HB4.out.size _)⟩
          unfold matA at hu
          rw [← hu]
          clear hu HR4 HB4 M3
          generalize w4.heap.size = g7 at *
          refine (refdeskew_any x0 x1 A D c a1 a2 _ (HR.out.below HC4.out (Nat.le_refl _))).mono ?_
          rintro e w5 ⟨v, rfl, ⟨A5, c5, rfl, hR⟩, hB⟩
          rw [HS.out] at hR ⊢
          have HR5 := Lib.hid hR
          have HB5 := Lib.hid (HC4.out.trans (hB.mono HC4.out.size))
          have N7' := Lib.hid (N7.out.below hB)
          clear hR hB
          have y := fun o => mat_cells (N7'.out.alloc o).1
          have y0 := fun o => (y o).1
          have y1 := fun o => (y o).2.1
          have y2 := fun o => (y o).2.2
          clear y
          have tee : (s3 == s3) = true := by rw [beq_iff_eq]
          have tee2 : (s4 == s4) = true := by rw [beq_iff_eq]
          unfold matA
          go_wp2_with fail
          clear y0 y1 y2
          obtain ⟨u5, hu, P7, P9, HC5⟩ : ∃ ux, ux = w5.alloc (.cells (matA s0 s1 A5 sD.length c5) 24) ∧ Hid (Mat ux w.heap.size g7 s0 s1 A4 c4 sD) ∧ Hid (Mat ux w.heap.size w5.heap.size s0 s1 A5 c5 sD) ∧ Hid (Below w.heap.size w ux) :=
            ⟨_, rfl, Lib.hid (N7'.out.alloc _), Lib.hid (Mat.new HR5.out HB5.out.size), Lib.hid (HB5.out.alloc HB5.out.size _)⟩
          unfold matA at hu
          rw [← hu]
          clear hu
          refine (equal_any _ _ _ _ _ _ _ _ _ _ _ P7.out.2.1 P9.out.2.1 ?_).mono ?_
          · have h9 := desk_len x0 x1 D a1 a2; rw [HS.out] at h9; simp only [] at h9; omega
          rintro e w6 ⟨rfl, hB⟩
          rw [eqB_self]
          have HC6 := Lib.hid (HC5.out.trans (hB.mono HC5.out.size))
          clear hB
          go_wp2_with fail
          refine (example_any _).mono ?_
          rintro e w7 ⟨rfl, hB7⟩
          have HC7 := Lib.hid (HC6.out.trans (hB7.mono HC6.out.size))
          go_wp2_with fail
          go_ret
          exact ⟨rfl, HC7.out⟩
      · have t3 : decide (0 < a2) = false := decide_eq_false g1
        go_enter Try.func6, Try.ntmps6
        go_wp2_with (refine wpList_box rfl 24 _ rfl _ rfl ?_; intro w1 hb1 hB1 hz1; have hb1 : Blk w1 w.heap.size 24 (matA x0 x1 A D.length c) := hb1; obtain ⟨c0, c1, c2⟩ := mat_cells hb1; have H1 := Lib.hid hz1; clear hz1)
        have HB2 := Lib.hid hB1
        have HM2 := Lib.hid hb1
        have hs2 : w.heap.size + 1 ≤ w1.heap.size := by have := H1.out; omega
        clear hB1 hb1
        obtain ⟨s0, s1, sD, s3, s4, HS⟩ : ∃ s0 s1 sD s3 s4, Hid (deskS x0 x1 D a1 a2 = ((s0, s1, sD, s3), s4)) := ⟨_, _, _, _, _, Lib.hid rfl⟩
        refine (deskew_any x0 x1 A D c a1 a2 _ (HR.out.below HB2.out (Nat.le_refl _))).mono ?_
        rintro e w4 ⟨v, rfl, ⟨A4, c4, rfl, hR⟩, hB⟩
        rw [HS.out] at hR ⊢
        have HR4 := Lib.hid hR
        have HB4 := Lib.hid (HB2.out.trans (hB.mono HB2.out.size))
        have M3 := Lib.hid (HM2.out.below hB (by omega))
        have hs4 : w.heap.size + 1 ≤ w4.heap.size := by have := hB.size; omega
        clear hR hB c0 c1 c2
        have y := fun o => mat_cells (M3.out.alloc o)
        have y0 := fun o => (y o).1
        have y1 := fun o => (y o).2.1
        have y2 := fun o => (y o).2.2
        clear y
        unfold matA
        go_wp2_with fail
        clear y0 y1 y2
        obtain ⟨u4, hu, N3, N7, HC4⟩ : ∃ ux, ux = w4.alloc (.cells (matA s0 s1 A4 sD.length c4) 24) ∧ Hid (Blk ux w.heap.size 24 (matA x0 x1 A D.length c)) ∧ Hid (Mat ux w.heap.size w4.heap.size s0 s1 A4 c4 sD) ∧ Hid (Below w.heap.size w ux) :=
          ⟨_, rfl, Lib.hid (M3.out.alloc _), Lib.hid (Mat.new HR4.out HB4.out.size), Lib.hid (HB4.out.alloc HB4.out.size _)⟩
        unfold matA at hu
        rw [← hu]
        clear hu HR4 HB4 M3
        generalize w4.heap.size = g7 at *
        refine (refdeskew_any x0 x1 A D c a1 a2 _ (HR.out.below HC4.out (Nat.le_refl _))).mono ?_
        rintro e w5 ⟨v, rfl, ⟨A5, c5, rfl, hR⟩, hB⟩
        rw [HS.out] at hR ⊢
        have HR5 := Lib.hid hR
        have HB5 := Lib.hid (HC4.out.trans (hB.mono HC4.out.size))
        have N7' := Lib.hid (N7.out.below hB)
        clear hR hB
        have y := fun o => mat_cells (N7'.out.alloc o).1
        have y0 := fun o => (y o).1
        have y1 := fun o => (y o).2.1
        have y2 := fun o => (y o).2.2
        clear y
        have tee : (s3 == s3) = true := by rw [beq_iff_eq]
        have tee2 : (s4 == s4) = true := by rw [beq_iff_eq]
        unfold matA
        go_wp2_with fail
        clear y0 y1 y2
        obtain ⟨u5, hu, P7, P9, HC5⟩ : ∃ ux, ux = w5.alloc (.cells (matA s0 s1 A5 sD.length c5) 24) ∧ Hid (Mat ux w.heap.size g7 s0 s1 A4 c4 sD) ∧ Hid (Mat ux w.heap.size w5.heap.size s0 s1 A5 c5 sD) ∧ Hid (Below w.heap.size w ux) :=
          ⟨_, rfl, Lib.hid (N7'.out.alloc _), Lib.hid (Mat.new HR5.out HB5.out.size), Lib.hid (HB5.out.alloc HB5.out.size _)⟩
        unfold matA at hu
        rw [← hu]
        clear hu
        refine (equal_any _ _ _ _ _ _ _ _ _ _ _ P7.out.2.1 P9.out.2.1 ?_).mono ?_
        · have h9 := desk_len x0 x1 D a1 a2; rw [HS.out] at h9; simp only [] at h9; omega
        rintro e w6 ⟨rfl, hB⟩
        rw [eqB_self]
        have HC6 := Lib.hid (HC5.out.trans (hB.mono HC5.out.size))
        clear hB
        go_wp2_with fail
        refine (example_any _).mono ?_
        rintro e w7 ⟨rfl, hB7⟩
        have HC7 := Lib.hid (HC6.out.trans (hB7.mono HC6.out.size))
        go_wp2_with fail
        go_ret
        exact ⟨rfl, HC7.out⟩
set_option maxRecDepth 100000 in
theorem lifted (os : Os) (started : os.Started) (H : Type) (enc : TypeId × Value → H) :
    ReturnsInHanded {} Try.checked os 6 .any (Rows.skewDeskewsSpec.pre6 enc Try.prog Try.f6 Rows.skewDeskewsRow.domain false) (Rows.skewDeskewsSpec.post enc Try.prog Try.f6 false true false false) := by
  refine returnsInHanded_of_change (C := Try.checked) own started (by kernel_rfl) Try.func6
    (ChangeSpec.witness6 (enc := enc) (C := Try.checked) false ⟨#[], #[.agg #[.int .i64 0, .int .i64 0, .slice none 0 0], .int .i64 0, .int .i64 0], []⟩ 8 (by kernel_rfl) (by kernel_rfl) (by kernel_rfl) (by kernel_rfl)) ?_
  intro W base args ds gs before hval0 hW hcnd _
  have hval : ∀ (j : Nat) t v, Try.f6.params[j]? = some t → args[j]? = some v → Value.okWide Try.prog W .any base t v := hval0
  have hW' := hW
  obtain ⟨p, q, hA0, hV, rfl, hfz, hnd⟩ := hW
  have hA : DataW.TrodAll enc Try.prog W 0 (fun _ => true) true Try.f6.params.toList args.toList ds p := hA0
  rw [Try.params6] at hA hval
  obtain ⟨v0, vs0, d0, ds0, p0, q0, hargs, rfl, rfl, h0, r0⟩ := trodAll_cons hA
  obtain ⟨v1, vs1, d1, ds1, p1, q1, rfl, rfl, rfl, h1, r1⟩ := trodAll_cons r0
  obtain ⟨v2, vs2, d2, ds2, p2, q2, rfl, rfl, rfl, h2, r2⟩ := trodAll_cons r1
  obtain ⟨rfl, rfl, rfl⟩ := trodAll_nil r2
  obtain rfl : args = #[v0, v1, v2] := by cases args; simp_all
  obtain ⟨rfl, rfl⟩ := trodVars_none hV
  have k0 := h0
  have lt0 : ∀ x ∈ p0, x.block < W.heap.size := by obtain ⟨m, hm⟩ := k0; exact DataW.trod_lt m _ _ _ hm
  obtain ⟨x0, x1, A, D, c, hv, f0, f1, hr, hl⟩ := open_mat (hval 0 24 v0 rfl rfl) h0
  clear h0
  subst hv
  obtain ⟨a1, rfl, rfl, rfl, w1⟩ := open_int Try.underlying3 (hval 1 3 v1 rfl rfl) h1
  obtain ⟨a2, rfl, rfl, rfl, w2⟩ := open_int Try.underlying3 (hval 2 3 v2 rfl rfl) h2
  clear hA0 hval0
  refine (walk x0 x1 A D c a1 a2 W hr hl w1 w2).mono fun e W' ⟨he, bel⟩ => ?_
  subst he
  exact ⟨_, rfl, _, _, _, [], _, [], hW', trodAll_mk1 (shut_bool Try.underlying4 _), (trodAll_cons_mk (Below.trod laidOut (by kernel_rfl) (of_decide_eq_true (by kernel_rfl)) k0 bel lt0) (trodAll_cons_mk (shut_int Try.underlying3 w1) (trodAll_cons_mk (shut_int Try.underlying3 w2) trodAll_mk0))), rfl, bel.frame _, fun h => by cases h⟩
theorem over : Rows.skewDeskewsRow.holds Try.pinned (OpenSpec.ofChange Rows.skewDeskewsSpec) :=
  OpenClaim.holds_of_wide 6 Try.f6 rfl rfl rfl rfl rfl rfl rfl ⟨rfl, rfl, rfl, rfl, rfl⟩ rfl rfl rfl rfl rfl (by kernel_rfl) Try.func6 (by kernel_rfl)
    (of_decide_eq_true (by kernel_rfl)) (by unfold Func.isWrapper; first | (rw [if_pos (by decide +kernel)]; kernel_rfl) | (rw [if_neg (by decide +kernel)]; exact ⟨rfl, rfl⟩))
    (fun os started H enc _ => lifted os started H enc)
end Go.Proofs.Yticbpifgjjcjmaa.skewDeskews
namespace Go.Proofs.Yticbpifgjjcjmaa
theorem skewdeskews_holds : Rows.SkewDeskewsSaid := skewDeskews.over
end Go.Proofs.Yticbpifgjjcjmaa
#print axioms Go.Proofs.Yticbpifgjjcjmaa.skewdeskews_holds
