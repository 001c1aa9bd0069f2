/- The walk of trimmed: a bitmap without the light rows at its top and bottom. -/
import Derived.Test.YticbpifgjjcjmaaCrp
import Derived.Test.YticbpifgjjcjmaaDsk
namespace Go.Proofs.Yticbpifgjjcjmaa
open Go.RowKit Go.Maps
theorem dks_le {D : List Bool} {k f l : Nat} (hf : (dks D k)[0]? = some f) (hl : (dks D k)[(dks D k).length - 1]? = some l) : f ≤ l := by
  have hp : (dks D k).Pairwise (· < ·) := by unfold dks; exact List.Pairwise.filter _ List.pairwise_lt_range
  rcases Nat.eq_zero_or_pos ((dks D k).length - 1) with h0 | h0
  · rw [h0, hf] at hl
    injection hl with hl; omega
  · obtain ⟨h1, e1⟩ := List.getElem?_eq_some_iff.1 hf
    obtain ⟨h2, e2⟩ := List.getElem?_eq_some_iff.1 hl
    have := (List.pairwise_iff_getElem.1 hp) 0 ((dks D k).length - 1) h1 h2 h0
    omega
theorem dks_lt {D : List Bool} {k j i : Nat} (h : (dks D k)[j]? = some i) : i < k ∧ Skew.dk D i = true := by
  have := List.mem_of_getElem? h
  unfold dks at this
  rw [List.mem_filter, List.mem_range] at this
  exact this
/-- what trimmed returns -/
def TrmR (w : World) (v : Value) (W : Nat) (D : List Bool) : Prop :=
  (dks D D.length = [] ∧ v = .tuple #[.agg (matA 0 0 none 0 0), .bool false]) ∨
  ∃ f l : Nat, ∃ A c, (dks D D.length)[0]? = some f ∧ (dks D D.length)[(dks D D.length).length - 1]? = some l ∧
    v = .tuple #[.agg (matA W ((l / W - f / W + 1 : Nat) : Int) A (crL D (f / W * W) ((l / W - f / W + 1) * W)).length c), .bool true] ∧ RdB w A (crL D (f / W * W) ((l / W - f / W + 1) * W))
set_option maxRecDepth 100000 in
set_option maxHeartbeats 2000000 in
theorem trimmed_any (W H : Nat) (A : Option Addr) (D : List Bool) (c : Nat) (w : World) (hr : RdB w A D) (hs : sndB W H D.length = true) :
    Calls Try.prog 23 #[.agg (matA W H A D.length c)] w fun e w' => ∃ v, e = .returned v ∧ TrmR w' v W D ∧ Below w.heap.size w w' := by
  obtain ⟨W', H', e1, e2, hW1, hW2, hH1, hH2, hD, hDl⟩ := snd_nat hs
  obtain rfl : W = W' := by omega
  obtain rfl : H = H' := by omega
  clear e1 e2
  have HR := Lib.hid hr
  have HD := Lib.hid hD
  clear hD hr
  unfold matA
  go_enter Try.func23, Try.ntmps23
  go_wp2_with fail
  obtain ⟨w1, hu, HM, HN, HB, hs1⟩ : ∃ u, u = (w.alloc (.cells #[.int .i64 W, .int .i64 H, .slice A D.length c] 24)).alloc (.cells #[.int .i64 0, .int .i64 0, .slice none 0 0] 24) ∧ Hid (Blk u w.heap.size 24 (matA W H A D.length c)) ∧ Hid (Blk u (w.heap.size + 1) 24 (matA 0 0 none 0 0)) ∧ Hid (Below w.heap.size w u) ∧ u.heap.size = w.heap.size + 2 :=
    ⟨_, rfl, Lib.hid ((Blk.new w 24 _).alloc _), Lib.hid (Blk.alloc_new (by simp) rfl), Lib.hid (((Below.refl _ _).alloc (Nat.le_refl _) _).alloc (by simp) _), by simp⟩
  rw [← hu]
  clear hu
  refine (bounds_any W H A D c _ (HR.out.below HB.out (Nat.le_refl _)) hs).mono ?_
  rintro e w2 ⟨v, rfl, hBnd, hB2⟩
  have HM2 := Lib.hid (HM.out.below hB2 (by omega))
  have HN2 := Lib.hid (HN.out.below hB2 (by omega))
  have HB2 := Lib.hid (HB.out.trans (hB2.mono HB.out.size))
  have hs2 : w.heap.size + 2 ≤ w2.heap.size := by have := hB2.size; omega
  clear hB2 HM HN HB
  rcases hBnd with ⟨hP, rfl⟩ | ⟨f, l, x, a, hf, hl, rfl⟩
  · have HP := Lib.hid hP
    clear hP
    unfold boxA
    go_wp2_with (refine wpList_store_row rfl 24 _ _ rfl (w.heap.size + 1) (matA 0 0 none 0 0) rfl rfl 24 _ (HN2.out.alloc _) size24 rfl (matA_one _ _ _ _ _) ?_)
    refine bodyPost_ret (results_mat rfl _ _ (w.heap.size + 1) 24 (matA 0 0 none 0 0) (0, 0) _ rfl ((HN2.out.alloc _).setRow _) Try.underlying24 rfl size24) rfl ?_
    exact ⟨_, rfl, (by unfold TrmR; exact .inl ⟨HP.out, rfl⟩), below_setRow (HB2.out.alloc (by omega) _) (by omega) _⟩
  · have hfl := dks_le hf hl
    have hll := (dks_lt hl).1
    have hd1 : f / W ≤ l / W := Nat.div_le_div_right hfl
    have hd2 : l / W < H := (Nat.div_lt_iff_lt_mul (show 0 < W by omega)).2 (by rw [Nat.mul_comm]; have := HD.out; omega)
    have hcast : ((l / W : Nat) : Int) - ((f / W : Nat) : Int) + 1 = ((l / W - f / W + 1 : Nat) : Int) := by
      generalize l / W = p at *; generalize f / W = q at *; omega
    rw [hcast]
    have HF := Lib.hid hf
    have HL := Lib.hid hl
    obtain ⟨h, hh⟩ : ∃ h, Hid (h = l / W - f / W + 1) := ⟨_, Lib.hid rfl⟩
    obtain ⟨t, ht⟩ : ∃ t, Hid (t = f / W) := ⟨_, Lib.hid rfl⟩
    have h1 : 1 ≤ h := by have := hh.out; omega
    have h2 : t + h ≤ H := by have := hh.out; have := ht.out; generalize l / W = p at *; generalize f / W = q at *; omega
    rw [← hh.out, ← ht.out]
    clear hf hl hcast hd1 hd2 hfl hll
    unfold boxA
    have y := fun o => mat_cells (HM2.out.alloc o)
    have y0 := fun o => (y o).1
    have y1 := fun o => (y o).2.1
    have y2 := fun o => (y o).2.2
    clear y
    go_wp2_with fail
    clear y0 y1 y2
    obtain ⟨w3, hu, HM3, HN3, HB3, hs3⟩ : ∃ u, u = w2.alloc (.cells #[.int .i64 x, .int .i64 t, .int .i64 a, .int .i64 h] 58) ∧ Hid (Blk u w.heap.size 24 (matA W H A D.length c)) ∧ Hid (Blk u (w.heap.size + 1) 24 (matA 0 0 none 0 0)) ∧ Hid (Below w.heap.size w u) ∧ w.heap.size + 2 ≤ u.heap.size :=
      ⟨_, rfl, Lib.hid (HM2.out.alloc _), Lib.hid (HN2.out.alloc _), Lib.hid (HB2.out.alloc HB2.out.size _), by simp; omega⟩
    rw [← hu]
    clear hu HM2 HN2 HB2
    refine (crop_any W H A D c t h _ (HR.out.below HB3.out (Nat.le_refl _)) hs h1 h2).mono ?_
    rintro e w4 ⟨v, rfl, hRes, hB4⟩
    obtain ⟨A4, c4, rfl, hR4⟩ := hRes
    have HN4 := Lib.hid (HN3.out.below hB4 (by omega))
    have HB4 := Lib.hid (HB3.out.trans (hB4.mono HB3.out.size))
    have hs4 : w.heap.size + 2 ≤ w4.heap.size := by have := hB4.size; omega
    have HR4 := Lib.hid hR4
    simp only [] at HR4
    clear hB4 HN3 HB3 HM3 hR4
    unfold matA
    go_wp2_with (refine wpList_store_row rfl 24 _ _ rfl (w.heap.size + 1) (matA W h A4 (crL D (t * W) (h * W)).length c4) rfl rfl 24 _ (HN4.out.alloc _) size24 rfl (matA_one _ _ _ _ _) ?_)
    refine bodyPost_ret (results_mat rfl _ _ (w.heap.size + 1) 24 (matA W h A4 (crL D (t * W) (h * W)).length c4) (0, 0) _ rfl ((HN4.out.alloc _).setRow _) Try.underlying24 rfl size24) rfl ?_
    refine ⟨_, rfl, ?_, below_setRow (HB4.out.alloc (by omega) _) (by omega) _⟩
    unfold TrmR
    refine .inr ⟨f, l, A4, c4, HF.out, HL.out, ?_, ?_⟩
    · rw [← hh.out, ← ht.out]; rfl
    · rw [← hh.out, ← ht.out]
      exact (HR4.out.below ((Below.refl _ _).alloc (Nat.le_refl _) _) (Nat.le_refl _)).set_mat (HN4.out.alloc _) _
end Go.Proofs.Yticbpifgjjcjmaa
