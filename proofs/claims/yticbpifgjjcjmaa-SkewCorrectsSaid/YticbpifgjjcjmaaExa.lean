/- The walk of the chapter's examples. -/
import Derived.Test.YticbpifgjjcjmaaDsk
import Derived.Test.YticbpifgjjcjmaaBmp
import Derived.Test.YticbpifgjjcjmaaEql
import Derived.Test.YticbpifgjjcjmaaEnx
namespace Go.Proofs.Yticbpifgjjcjmaa
open Go.RowKit Go.Maps
def d3 : List Bool := [true, true, false, false, false, true]
def d5 : List Bool := [false, true, true, true, false, false]
def d11 : List Bool := [false, false, false, false, false, false, true, true, true, false, false, false, false, false, false]
def rowD : List Bool := [true, true, true]
def lineD : List Bool := [false, false, true, false, true, false, true, false, false]
theorem ex1 : shearS 3 1 rowD 1 2 = (3, 2, d3, 0) := by decide
theorem ex2 : shearS 3 1 rowD (-1) 2 = (3, 2, d5, 0) := by decide
theorem ex3 : energyS 3 1 rowD 1 2 = (5, 0) := by decide
theorem ex4 : energyS 3 1 rowD 0 1 = (9, 0) := by decide
theorem ex5 : deskS 3 3 lineD 1 1 = ((3, 5, d11, 0), 1) := by decide
theorem ex6 : energyS 3 3 lineD 0 1 = (3, 0) := by decide
theorem eqB_self (W H : Int) (D : List Bool) : eqB W H D W H D = true := by simp [eqB]
theorem bt1 : bitsOf ⟨#[49, 49, 49]⟩ (ByteArray.size ⟨#[49, 49, 49]⟩) = rowD := by decide
theorem bt2 : bitsOf ⟨#[48, 48, 49, 48, 49, 48, 49, 48, 48]⟩ (ByteArray.size ⟨#[48, 48, 49, 48, 49, 48, 49, 48, 48]⟩) = lineD := by decide
theorem bt3 : bitsOf ⟨#[49, 49, 48, 48, 48, 49]⟩ (ByteArray.size ⟨#[49, 49, 48, 48, 48, 49]⟩) = d3 := by decide
theorem bt4 : bitsOf ⟨#[48, 49, 49, 49, 48, 48]⟩ (ByteArray.size ⟨#[48, 49, 49, 49, 48, 48]⟩) = d5 := by decide
theorem bt5 : bitsOf ⟨#[48, 48, 48, 48, 48, 48, 49, 49, 49, 48, 48, 48, 48, 48, 48]⟩ (ByteArray.size ⟨#[48, 48, 48, 48, 48, 48, 49, 49, 49, 48, 48, 48, 48, 48, 48]⟩) = d11 := by decide
/-- a bitmap in a variable of the call's own -/
def Mat (w : World) (B g : Nat) (W H : Int) (A : Option Addr) (c : Nat) (D : List Bool) : Prop := Blk w g 24 (matA W H A D.length c) ∧ RdB w A D ∧ B ≤ g
theorem Mat.below {w w' : World} {B g : Nat} {W H : Int} {A : Option Addr} {c : Nat} {D : List Bool} (h : Mat w B g W H A c D) (hb : Below w.heap.size w w') : Mat w' B g W H A c D :=
  ⟨h.1.below hb h.1.lt, h.2.1.below hb (Nat.le_refl _), h.2.2⟩
theorem Mat.alloc {w : World} {B g : Nat} {W H : Int} {A : Option Addr} {c : Nat} {D : List Bool} (h : Mat w B g W H A c D) (o : Obj) : Mat (w.alloc o) B g W H A c D := h.below ((Below.refl _ _).alloc (Nat.le_refl _) _)
theorem Mat.new {w : World} {B : Nat} {W H : Int} {A : Option Addr} {c : Nat} {D : List Bool} (hr : RdB w A D) (hB : B ≤ w.heap.size) : Mat (w.alloc (.cells (matA W H A D.length c) 24)) B w.heap.size W H A c D :=
  ⟨Blk.new _ _ _, hr.below ((Below.refl _ _).alloc (Nat.le_refl _) _) (Nat.le_refl _), hB⟩
set_option maxRecDepth 100000 in
set_option maxHeartbeats 4000000 in
theorem example_any (w : World) : Calls Try.prog 13 #[] w fun e w' => e = .returned (.bool true) ∧ Below w.heap.size w w' := by
  go_enter Try.func13, Try.ntmps13
  go_wp2_with fail
  refine (bitmap_any 3 1 ⟨#[49, 49, 49]⟩ (by decide) _).mono ?_
  rintro e w1 ⟨v, rfl, ⟨A1, c1, rfl, hR1⟩, hB1⟩
  rw [bt1] at hR1 ⊢
  have HR1 := Lib.hid hR1
  have HB1 := Lib.hid hB1
  clear hR1 hB1
  go_wp2_with fail
  refine (bitmap_any 3 3 ⟨#[48, 48, 49, 48, 49, 48, 49, 48, 48]⟩ (by decide) _).mono ?_
  rintro e w2 ⟨v, rfl, ⟨A2, c2, rfl, hR2⟩, hB2⟩
  rw [bt2] at hR2 ⊢
  have HR2 := Lib.hid hR2
  have HR1' := Lib.hid (HR1.out.below hB2 (Nat.le_refl _))
  have HB2 := Lib.hid (HB1.out.trans (hB2.mono HB1.out.size))
  clear hR2 hB2 HR1 HB1
  unfold matA
  go_wp2_with fail
  obtain ⟨u0, hu, M1, M2, HB⟩ : ∃ u0, u0 = (w2.alloc (.cells (matA 3 1 A1 rowD.length c1) 24)).alloc (.cells (matA 3 3 A2 lineD.length c2) 24) ∧ Hid (Mat u0 w.heap.size w2.heap.size 3 1 A1 c1 rowD) ∧ Hid (Mat u0 w.heap.size (w2.heap.size + 1) 3 3 A2 c2 lineD) ∧ Hid (Below w.heap.size w u0) := by
    refine ⟨_, rfl, Lib.hid ((Mat.new HR1'.out HB2.out.size).alloc _), Lib.hid ?_, Lib.hid ((HB2.out.alloc HB2.out.size _).alloc (by have := HB2.out.size; simp; omega) _)⟩
    have h := Mat.new (w := w2.alloc (.cells (matA 3 1 A1 rowD.length c1) 24)) (B := w.heap.size) (W := 3) (H := 3) (c := c2) (HR2.out.below ((Below.refl _ _).alloc (Nat.le_refl _) _) (Nat.le_refl _)) (by have := HB2.out.size; simp; omega)
    rw [World.size_alloc] at h
    exact h
  unfold matA at hu
  rw [← hu]
  clear hu HR1' HR2 HB2
  generalize w2.heap.size + 1 = g2 at *
  generalize w2.heap.size = g1 at *
  refine (shear_any 3 1 A1 rowD c1 1 2 _ M1.out.2.1).mono ?_
  rintro e u1 ⟨v, rfl, ⟨A3, c3, rfl, hR⟩, hB⟩
  rw [ex1] at hR ⊢
  have M1' := Lib.hid (M1.out.below hB)
  have M2' := Lib.hid (M2.out.below hB)
  have HB' := Lib.hid (HB.out.trans (hB.mono HB.out.size))
  clear hB HB
  clear M1
  have M1 := M1'
  clear M1'
  clear M2
  have M2 := M2'
  clear M2'
  have HB := HB'
  clear HB'
  have HR := Lib.hid hR
  clear hR
  obtain ⟨xg10, xg11, xg12⟩ := mat_cells M1.out.1
  have yg1 := fun o => mat_cells (M1.out.alloc o).1
  have yg10 := fun o => (yg1 o).1
  have yg11 := fun o => (yg1 o).2.1
  have yg12 := fun o => (yg1 o).2.2
  clear yg1
  obtain ⟨xg20, xg21, xg22⟩ := mat_cells M2.out.1
  have yg2 := fun o => mat_cells (M2.out.alloc o).1
  have yg20 := fun o => (yg2 o).1
  have yg21 := fun o => (yg2 o).2.1
  have yg22 := fun o => (yg2 o).2.2
  clear yg2
  unfold matA
  go_wp2_with fail
  clear xg10 xg11 xg12 yg10 yg11 yg12
  clear xg20 xg21 xg22 yg20 yg21 yg22
  obtain ⟨u1x, hu, M1', M2', M3, HB'⟩ : ∃ ux, ux = u1.alloc (.cells (matA 3 2 A3 d3.length c3) 24) ∧ Hid (Mat ux w.heap.size g1 3 1 A1 c1 rowD) ∧ Hid (Mat ux w.heap.size g2 3 3 A2 c2 lineD) ∧ Hid (Mat ux w.heap.size u1.heap.size 3 2 A3 c3 d3) ∧ Hid (Below w.heap.size w ux) :=
    ⟨_, rfl, Lib.hid (M1.out.alloc _), Lib.hid (M2.out.alloc _), Lib.hid (Mat.new HR.out HB.out.size), Lib.hid (HB.out.alloc HB.out.size _)⟩
  unfold matA at hu
  rw [← hu]
  clear hu HR HB
  have HB := HB'
  clear HB'
  clear M1
  have M1 := M1'
  clear M1'
  clear M2
  have M2 := M2'
  clear M2'
  generalize u1.heap.size = g3 at *
  refine (shear_any 3 1 A1 rowD c1 (-1) 2 _ M1.out.2.1).mono ?_
  rintro e u2 ⟨v, rfl, ⟨A4, c4, rfl, hR⟩, hB⟩
  rw [ex2] at hR ⊢
  have M1' := Lib.hid (M1.out.below hB)
  have M2' := Lib.hid (M2.out.below hB)
  have M3' := Lib.hid (M3.out.below hB)
  have HB' := Lib.hid (HB.out.trans (hB.mono HB.out.size))
  clear hB HB
  clear M1
  have M1 := M1'
  clear M1'
  clear M2
  have M2 := M2'
  clear M2'
  clear M3
  have M3 := M3'
  clear M3'
  have HB := HB'
  clear HB'
  have HR := Lib.hid hR
  clear hR
  obtain ⟨xg10, xg11, xg12⟩ := mat_cells M1.out.1
  have yg1 := fun o => mat_cells (M1.out.alloc o).1
  have yg10 := fun o => (yg1 o).1
  have yg11 := fun o => (yg1 o).2.1
  have yg12 := fun o => (yg1 o).2.2
  clear yg1
  obtain ⟨xg20, xg21, xg22⟩ := mat_cells M2.out.1
  have yg2 := fun o => mat_cells (M2.out.alloc o).1
  have yg20 := fun o => (yg2 o).1
  have yg21 := fun o => (yg2 o).2.1
  have yg22 := fun o => (yg2 o).2.2
  clear yg2
  obtain ⟨xg30, xg31, xg32⟩ := mat_cells M3.out.1
  have yg3 := fun o => mat_cells (M3.out.alloc o).1
  have yg30 := fun o => (yg3 o).1
  have yg31 := fun o => (yg3 o).2.1
  have yg32 := fun o => (yg3 o).2.2
  clear yg3
  unfold matA
  go_wp2_with fail
  clear xg10 xg11 xg12 yg10 yg11 yg12
  clear xg20 xg21 xg22 yg20 yg21 yg22
  clear xg30 xg31 xg32 yg30 yg31 yg32
  obtain ⟨u2x, hu, M1', M2', M3', M4, HB'⟩ : ∃ ux, ux = u2.alloc (.cells (matA 3 2 A4 d5.length c4) 24) ∧ Hid (Mat ux w.heap.size g1 3 1 A1 c1 rowD) ∧ Hid (Mat ux w.heap.size g2 3 3 A2 c2 lineD) ∧ Hid (Mat ux w.heap.size g3 3 2 A3 c3 d3) ∧ Hid (Mat ux w.heap.size u2.heap.size 3 2 A4 c4 d5) ∧ Hid (Below w.heap.size w ux) :=
    ⟨_, rfl, Lib.hid (M1.out.alloc _), Lib.hid (M2.out.alloc _), Lib.hid (M3.out.alloc _), Lib.hid (Mat.new HR.out HB.out.size), Lib.hid (HB.out.alloc HB.out.size _)⟩
  unfold matA at hu
  rw [← hu]
  clear hu HR HB
  have HB := HB'
  clear HB'
  clear M1
  have M1 := M1'
  clear M1'
  clear M2
  have M2 := M2'
  clear M2'
  clear M3
  have M3 := M3'
  clear M3'
  generalize u2.heap.size = g4 at *
  refine (energyx_any 3 1 A1 rowD c1 1 2 _ M1.out.2.1).mono ?_
  rintro e u3 ⟨rfl, hB⟩
  rw [ex3]
  have M1' := Lib.hid (M1.out.below hB)
  have M2' := Lib.hid (M2.out.below hB)
  have M3' := Lib.hid (M3.out.below hB)
  have M4' := Lib.hid (M4.out.below hB)
  have HB' := Lib.hid (HB.out.trans (hB.mono HB.out.size))
  clear hB HB
  clear M1
  have M1 := M1'
  clear M1'
  clear M2
  have M2 := M2'
  clear M2'
  clear M3
  have M3 := M3'
  clear M3'
  clear M4
  have M4 := M4'
  clear M4'
  have HB := HB'
  clear HB'
  obtain ⟨xg10, xg11, xg12⟩ := mat_cells M1.out.1
  obtain ⟨xg20, xg21, xg22⟩ := mat_cells M2.out.1
  obtain ⟨xg30, xg31, xg32⟩ := mat_cells M3.out.1
  obtain ⟨xg40, xg41, xg42⟩ := mat_cells M4.out.1
  go_wp2_with fail
  clear xg10 xg11 xg12
  clear xg20 xg21 xg22
  clear xg30 xg31 xg32
  clear xg40 xg41 xg42
  refine (energyx_any 3 1 A1 rowD c1 0 1 _ M1.out.2.1).mono ?_
  rintro e u4 ⟨rfl, hB⟩
  rw [ex4]
  have M1' := Lib.hid (M1.out.below hB)
  have M2' := Lib.hid (M2.out.below hB)
  have M3' := Lib.hid (M3.out.below hB)
  have M4' := Lib.hid (M4.out.below hB)
  have HB' := Lib.hid (HB.out.trans (hB.mono HB.out.size))
  clear hB HB
  clear M1
  have M1 := M1'
  clear M1'
  clear M2
  have M2 := M2'
  clear M2'
  clear M3
  have M3 := M3'
  clear M3'
  clear M4
  have M4 := M4'
  clear M4'
  have HB := HB'
  clear HB'
  obtain ⟨xg10, xg11, xg12⟩ := mat_cells M1.out.1
  obtain ⟨xg20, xg21, xg22⟩ := mat_cells M2.out.1
  obtain ⟨xg30, xg31, xg32⟩ := mat_cells M3.out.1
  obtain ⟨xg40, xg41, xg42⟩ := mat_cells M4.out.1
  go_wp2_with fail
  clear xg10 xg11 xg12
  clear xg20 xg21 xg22
  clear xg30 xg31 xg32
  clear xg40 xg41 xg42
  refine (deskew_any 3 3 A2 lineD c2 1 1 _ M2.out.2.1).mono ?_
  rintro e u5 ⟨v, rfl, ⟨A7, c7, rfl, hR⟩, hB⟩
  rw [ex5] at hR ⊢
  have M1' := Lib.hid (M1.out.below hB)
  have M2' := Lib.hid (M2.out.below hB)
  have M3' := Lib.hid (M3.out.below hB)
  have M4' := Lib.hid (M4.out.below hB)
  have HB' := Lib.hid (HB.out.trans (hB.mono HB.out.size))
  clear hB HB
  clear M1
  have M1 := M1'
  clear M1'
  clear M2
  have M2 := M2'
  clear M2'
  clear M3
  have M3 := M3'
  clear M3'
  clear M4
  have M4 := M4'
  clear M4'
  have HB := HB'
  clear HB'
  have HR := Lib.hid hR
  clear hR
  obtain ⟨xg10, xg11, xg12⟩ := mat_cells M1.out.1
  have yg1 := fun o => mat_cells (M1.out.alloc o).1
  have yg10 := fun o => (yg1 o).1
  have yg11 := fun o => (yg1 o).2.1
  have yg12 := fun o => (yg1 o).2.2
  clear yg1
  obtain ⟨xg20, xg21, xg22⟩ := mat_cells M2.out.1
  have yg2 := fun o => mat_cells (M2.out.alloc o).1
  have yg20 := fun o => (yg2 o).1
  have yg21 := fun o => (yg2 o).2.1
  have yg22 := fun o => (yg2 o).2.2
  clear yg2
  obtain ⟨xg30, xg31, xg32⟩ := mat_cells M3.out.1
  have yg3 := fun o => mat_cells (M3.out.alloc o).1
  have yg30 := fun o => (yg3 o).1
  have yg31 := fun o => (yg3 o).2.1
  have yg32 := fun o => (yg3 o).2.2
  clear yg3
  obtain ⟨xg40, xg41, xg42⟩ := mat_cells M4.out.1
  have yg4 := fun o => mat_cells (M4.out.alloc o).1
  have yg40 := fun o => (yg4 o).1
  have yg41 := fun o => (yg4 o).2.1
  have yg42 := fun o => (yg4 o).2.2
  clear yg4
  unfold matA
  go_wp2_with fail
  clear xg10 xg11 xg12 yg10 yg11 yg12
  clear xg20 xg21 xg22 yg20 yg21 yg22
  clear xg30 xg31 xg32 yg30 yg31 yg32
  clear xg40 xg41 xg42 yg40 yg41 yg42
  obtain ⟨u5x, hu, M1', M2', M3', M4', M7, HB'⟩ : ∃ ux, ux = u5.alloc (.cells (matA 3 5 A7 d11.length c7) 24) ∧ Hid (Mat ux w.heap.size g1 3 1 A1 c1 rowD) ∧ Hid (Mat ux w.heap.size g2 3 3 A2 c2 lineD) ∧ Hid (Mat ux w.heap.size g3 3 2 A3 c3 d3) ∧ Hid (Mat ux w.heap.size g4 3 2 A4 c4 d5) ∧ Hid (Mat ux w.heap.size u5.heap.size 3 5 A7 c7 d11) ∧ Hid (Below w.heap.size w ux) :=
    ⟨_, rfl, Lib.hid (M1.out.alloc _), Lib.hid (M2.out.alloc _), Lib.hid (M3.out.alloc _), Lib.hid (M4.out.alloc _), Lib.hid (Mat.new HR.out HB.out.size), Lib.hid (HB.out.alloc HB.out.size _)⟩
  unfold matA at hu
  rw [← hu]
  clear hu HR HB
  have HB := HB'
  clear HB'
  clear M1
  have M1 := M1'
  clear M1'
  clear M2
  have M2 := M2'
  clear M2'
  clear M3
  have M3 := M3'
  clear M3'
  clear M4
  have M4 := M4'
  clear M4'
  generalize u5.heap.size = g7 at *
  refine (energyx_any 3 3 A2 lineD c2 0 1 _ M2.out.2.1).mono ?_
  rintro e u6 ⟨rfl, hB⟩
  rw [ex6]
  have M1' := Lib.hid (M1.out.below hB)
  have M2' := Lib.hid (M2.out.below hB)
  have M3' := Lib.hid (M3.out.below hB)
  have M4' := Lib.hid (M4.out.below hB)
  have M7' := Lib.hid (M7.out.below hB)
  have HB' := Lib.hid (HB.out.trans (hB.mono HB.out.size))
  clear hB HB
  clear M1
  have M1 := M1'
  clear M1'
  clear M2
  have M2 := M2'
  clear M2'
  clear M3
  have M3 := M3'
  clear M3'
  clear M4
  have M4 := M4'
  clear M4'
  clear M7
  have M7 := M7'
  clear M7'
  have HB := HB'
  clear HB'
  obtain ⟨xg10, xg11, xg12⟩ := mat_cells M1.out.1
  obtain ⟨xg20, xg21, xg22⟩ := mat_cells M2.out.1
  obtain ⟨xg30, xg31, xg32⟩ := mat_cells M3.out.1
  obtain ⟨xg40, xg41, xg42⟩ := mat_cells M4.out.1
  obtain ⟨xg70, xg71, xg72⟩ := mat_cells M7.out.1
  go_wp2_with fail
  clear xg10 xg11 xg12
  clear xg20 xg21 xg22
  clear xg30 xg31 xg32
  clear xg40 xg41 xg42
  clear xg70 xg71 xg72
  have K : ∀ w', Below u6.heap.size u6 w' → w'.cell? ⟨g3, 0, none⟩ = some (.int .i64 3) ∧ w'.cell? ⟨g3, 1, none⟩ = some (.int .i64 2) ∧ w'.cell? ⟨g3, 2, none⟩ = some (.slice A3 d3.length c3) ∧ w'.cell? ⟨g4, 0, none⟩ = some (.int .i64 3) ∧ w'.cell? ⟨g4, 1, none⟩ = some (.int .i64 2) ∧ w'.cell? ⟨g4, 2, none⟩ = some (.slice A4 d5.length c4) ∧ w'.cell? ⟨g7, 0, none⟩ = some (.int .i64 3) ∧ w'.cell? ⟨g7, 1, none⟩ = some (.int .i64 5) ∧ w'.cell? ⟨g7, 2, none⟩ = some (.slice A7 d11.length c7) := fun w' hb => by
    obtain ⟨p0, p1, p2⟩ := mat_cells (M3.out.below hb).1
    obtain ⟨q0, q1, q2⟩ := mat_cells (M4.out.below hb).1
    obtain ⟨r0, r1, r2⟩ := mat_cells (M7.out.below hb).1
    exact ⟨p0, p1, p2, q0, q1, q2, r0, r1, r2⟩
  have K3 : ∀ w', Below u6.heap.size u6 w' → RdB w' A3 d3 := fun w' hb => (M3.out.below hb).2.1
  have K4 : ∀ w', Below u6.heap.size u6 w' → RdB w' A4 d5 := fun w' hb => (M4.out.below hb).2.1
  have K7 : ∀ w', Below u6.heap.size u6 w' → RdB w' A7 d11 := fun w' hb => (M7.out.below hb).2.1
  have HK := Lib.hid K
  have HK3 := Lib.hid K3
  have HK4 := Lib.hid K4
  have HK7 := Lib.hid K7
  have hBC : Below u6.heap.size u6 u6.drew := (Below.refl _ _).drew
  obtain ⟨k1, k2, k3, k4, k5, k6, k7, k8, k9⟩ := K _ (Below.refl _ _)
  clear K K3 K4 K7 M1 M2 M3 M4 M7
  go_region_held3 (fun w' => w'.cell? ⟨g3, 0, none⟩ = some (.int .i64 3) ∧ w'.cell? ⟨g3, 1, none⟩ = some (.int .i64 2) ∧ w'.cell? ⟨g3, 2, none⟩ = some (.slice A3 d3.length c3) ∧ w'.cell? ⟨g4, 0, none⟩ = some (.int .i64 3) ∧ w'.cell? ⟨g4, 1, none⟩ = some (.int .i64 2) ∧ w'.cell? ⟨g4, 2, none⟩ = some (.slice A4 d5.length c4) ∧ w'.cell? ⟨g7, 0, none⟩ = some (.int .i64 3) ∧ w'.cell? ⟨g7, 1, none⟩ = some (.int .i64 5) ∧ w'.cell? ⟨g7, 2, none⟩ = some (.slice A7 d11.length c7)) (first | exact HK.out _ hBC | exact HK.out _ (Below.refl _ _)) (first
    | (go_at_call 29; refine (bitmap_any _ _ _ ?h _).mono ?_; (case h => decide); rintro e w9 ⟨v, rfl, ⟨A9, c9, rfl, hR⟩, hB⟩; (first | rw [bt3] at hR ⊢ | rw [bt4] at hR ⊢ | rw [bt5] at hR ⊢); have hBC := hBC.trans (hB.mono hBC.size))
    | (go_at_call 16; refine (equal_any _ _ _ _ _ _ _ _ _ _ _ ?h1 ?h2 ?h3).mono ?_; (case h1 => first | exact HK3.out _ hBC | exact HK4.out _ hBC | exact HK7.out _ hBC); (case h2 => exact hR); (case h3 => decide); rintro e w9 ⟨rfl, hB⟩; rw [eqB_self]; have hBC := hBC.trans (hB.mono hBC.size)))
  go_wp2_with fail
  go_ret
  exact ⟨rfl, HB.out.trans (hBC.mono HB.out.size)⟩
end Go.Proofs.Yticbpifgjjcjmaa
