/- The walk of Deskew. -/
import Derived.Test.YticbpifgjjcjmaaEst
import Derived.Test.YticbpifgjjcjmaaShr
namespace Go.Proofs.Yticbpifgjjcjmaa
open Go.RowKit Go.Maps
/-- the specified bitmap, error and number -/
def deskS (W H : Int) (D : List Bool) (most den : Int) : (Int × Int × List Bool × Int) × Int :=
  if (estS W H D most den).2 = 0 then
    (if (shearS W H D (estS W H D most den).1 den).2.2.2 = 0 then (shearS W H D (estS W H D most den).1 den, (estS W H D most den).1)
     else ((0, 0, [], (shearS W H D (estS W H D most den).1 den).2.2.2), 0))
  else ((0, 0, [], (estS W H D most den).2), 0)
def MatR3 (w : World) (v : Value) (s : (Int × Int × List Bool × Int) × Int) : Prop := ∃ A c, v = .tuple #[.agg (matA s.1.1 s.1.2.1 A s.1.2.2.1.length c), .int .i64 s.2, .int .i64 s.1.2.2.2] ∧ RdB w A s.1.2.2.1
theorem MatR3.zero (w : World) (n : Int) : MatR3 w (.tuple #[.agg (matA 0 0 none 0 0), .int .i64 0, .int .i64 n]) ((0, 0, [], n), 0) := ⟨none, 0, rfl, fun h => absurd h (Nat.not_lt_zero _)⟩
theorem results_mat3 {P : Program} {fn : Func} {p u u' : Tmp} {ty : TypeId} (h : fn.results = #[.cell p ty, .tmp u, .tmp u']) (tmps : Array Value) (w : World) (g : Nat) (t : TypeId) (cs : Array Value) (fr : Nat × Nat) (d : TypeDesc)
    (hp : tmps.getD p undef = .pointer (some ⟨g, 0, none⟩)) (hg : w.heap[g]? = some (.cells cs t fr))
    (hu : P.underlying ty = some d) (hd : (match d with | .struct _ | .array _ _ => true | _ => false) = true) (hi : (P.info? ty).map (·.size) = some cs.size) :
    (results fn tmps).run P w = .ok (.tuple #[.agg cs, tmps.getD u undef, tmps.getD u' undef]) w := by
  have hp' : tmps[p]?.getD undef = .pointer (some ⟨g, 0, none⟩) := by simpa using hp
  simp only [results, h]
  simp [hp', asAddr, run_loadVar_row w g t ty cs fr d hg hu hd hi, Result.andThen]
theorem RdB.setRow_far {w : World} {A : Option Addr} {D : List Bool} (h : RdB w A D) {k : Nat} (hk : ∀ ad : Addr, A = some ad → ad.block ≠ k) (cs : Array Value) : RdB (w.setRow k cs) A D := fun h0 => by
  obtain ⟨ad, e, hl, hc⟩ := h h0
  refine ⟨ad, e, by simpa using hl, fun j hj => ?_⟩
  have hbl : (ad.add j).block = ad.block := by unfold Addr.add; split <;> rfl
  exact (World.cell?_of_block (setRow_other w k _ _ (by rw [hbl]; exact hk ad e))).trans (hc j hj)
theorem RdB.not_mat {w : World} {A : Option Addr} {D : List Bool} (h : RdB w A D) (h0 : 0 < D.length) {g : Nat} {W H : Int} {A' : Option Addr} {n c : Nat} (hb : Blk w g 24 (matA W H A' n c)) : ∀ ad : Addr, A = some ad → ad.block ≠ g := by
  intro ad e hg
  obtain ⟨ad', e', _, hc⟩ := h h0
  rw [e] at e'
  injection e' with e'
  subst e'
  have hc0 := hc 0 h0
  have hbl : (ad.add 0).block = g := by rw [← hg]; unfold Addr.add; split <;> rfl
  have hb' : w.heap[(ad.add 0).block]? = some (.cells (matA W H A' n c) 24 (0, 0)) := by rw [hbl]; exact hb
  simp only [World.cell?, hb', matA] at hc0
  rcases Nat.lt_or_ge (ad.add 0).off 3 with h3 | h3
  · rcases (by omega : (ad.add 0).off = 0 ∨ (ad.add 0).off = 1 ∨ (ad.add 0).off = 2) with h | h | h <;> simp [h] at hc0
  · rw [Array.getElem?_eq_none (by simpa using h3)] at hc0; simp at hc0
theorem RdB.set_mat {w : World} {A : Option Addr} {D : List Bool} (h : RdB w A D) {g : Nat} {W H : Int} {A' : Option Addr} {n c : Nat} (hb : Blk w g 24 (matA W H A' n c)) (cs : Array Value) : RdB (w.setRow g cs) A D :=
  fun h0 => h.setRow_far (h.not_mat h0 hb) cs h0
set_option maxRecDepth 100000 in
set_option maxHeartbeats 2000000 in
theorem deskew_any (W H : Int) (A : Option Addr) (D : List Bool) (c : Nat) (most den : Int) (w : World) (hr : RdB w A D) :
    Calls Try.prog 21 #[.agg (matA W H A D.length c), .int .i64 most, .int .i64 den] w fun e w' => ∃ v, e = .returned v ∧ MatR3 w' v (deskS W H D most den) ∧ Below w.heap.size w w' := by
  have HR := Lib.hid hr
  clear hr
  by_cases he1 : (estS W H D most den).2 = 0
  · by_cases hs1 : (shearS W H D (estS W H D most den).1 den).2.2.2 = 0
    · have he : deskS W H D most den = (shearS W H D (estS W H D most den).1 den, (estS W H D most den).1) := by unfold deskS; rw [if_pos he1, if_pos hs1]
      rw [he]
      clear he
      have t1 : ((estS W H D most den).2 != 0) = false := by rw [bne_eq_false_iff_eq]; exact he1
      have t2 : ((shearS W H D (estS W H D most den).1 den).2.2.2 != 0) = false := by rw [bne_eq_false_iff_eq]; exact hs1
      have HS1 := Lib.hid hs1
      clear he1 hs1
      unfold matA
      go_enter Try.func21, Try.ntmps21
      go_wp2_with (first | (refine wpList_box rfl 24 _ rfl _ rfl ?_; intro w1 hb1 hB1 hz1; have hb1 : Blk w1 w.heap.size 24 (matA W H A D.length c) := hb1; have H1 := Lib.hid hz1; clear hz1; refine wpList_new rfl 24 rfl _ info24 ?_; intro w2 hn2 hB2 hz2; rw [H1.out] at hn2; have hb2 := hb1.below hB2 (by have := H1.out; omega); obtain ⟨c0, c1, c2⟩ := mat_cells hb2; have HBB := Lib.hid (hB1.trans (hB2.mono (by have := H1.out; omega))); rw [H1.out]; have H2 : w2.heap.size = w.heap.size + 2 := by have := H1.out; omega))
      refine (estimate_any W H A D c most den _ (HR.out.below HBB.out (Nat.le_refl _))).mono ?_
      rintro e w3 ⟨rfl, hB3⟩
      have HBBB := Lib.hid (HBB.out.trans (hB3.mono HBB.out.size))
      have HN := Lib.hid (hn2.below hB3 (by omega))
      have HM := Lib.hid (hb2.below hB3 (by have := hb2.lt; omega))
      have H3 := hB3.size
      clear hn2 c0 c1 c2 hb2
      obtain ⟨c0, c1, c2⟩ := mat_cells HM.out
      go_wp2_with fail
      refine (shear_any W H A D c (estS W H D most den).1 den _ (HR.out.below HBBB.out (Nat.le_refl _))).mono ?_
      rintro e w4 ⟨v, rfl, ⟨A4, c4, rfl, hR4⟩, hB4⟩
      have HB4 := Lib.hid (HBBB.out.trans (hB4.mono HBBB.out.size))
      have HN4 := Lib.hid (HN.out.below hB4 (by omega))
      have H4 := hB4.size
      have HR4 := Lib.hid hR4
      clear c0 c1 c2 hR4
      unfold matA
      go_wp2_with (refine wpList_store_row rfl 24 _ _ rfl (w.heap.size + 1) (matA (shearS W H D (estS W H D most den).1 den).1 (shearS W H D (estS W H D most den).1 den).2.1 A4 (shearS W H D (estS W H D most den).1 den).2.2.1.length c4) rfl rfl 24 _ (HN4.out.alloc _) size24 rfl (matA_one _ _ _ _ _) ?_)
      refine bodyPost_ret (results_mat3 rfl _ _ (w.heap.size + 1) 24 _ (0, 0) _ rfl ((HN4.out.alloc _).setRow _) Try.underlying24 rfl size24) rfl ?_
      exact ⟨_, rfl, ⟨A4, c4, by rw [HS1.out]; rfl, RdB.set_mat (W := 0) (H := 0) (A' := none) (n := 0) (c := 0) (HR4.out.below ((Below.refl _ _).alloc (Nat.le_refl _) _) (Nat.le_refl _)) (HN4.out.alloc _) _⟩, below_setRow (HB4.out.alloc (by omega) _) (by omega) _⟩
    · have he : deskS W H D most den = ((0, 0, [], (shearS W H D (estS W H D most den).1 den).2.2.2), 0) := by unfold deskS; rw [if_pos he1, if_neg hs1]
      rw [he]
      clear he
      have t1 : ((estS W H D most den).2 != 0) = false := by rw [bne_eq_false_iff_eq]; exact he1
      have t2 : ((shearS W H D (estS W H D most den).1 den).2.2.2 != 0) = true := by rw [bne_iff_ne]; exact hs1
      clear he1 hs1
      unfold matA
      go_enter Try.func21, Try.ntmps21
      go_wp2_with (first | (refine wpList_box rfl 24 _ rfl _ rfl ?_; intro w1 hb1 hB1 hz1; have hb1 : Blk w1 w.heap.size 24 (matA W H A D.length c) := hb1; have H1 := Lib.hid hz1; clear hz1; refine wpList_new rfl 24 rfl _ info24 ?_; intro w2 hn2 hB2 hz2; rw [H1.out] at hn2; have hb2 := hb1.below hB2 (by have := H1.out; omega); obtain ⟨c0, c1, c2⟩ := mat_cells hb2; have HBB := Lib.hid (hB1.trans (hB2.mono (by have := H1.out; omega))); rw [H1.out]; have H2 : w2.heap.size = w.heap.size + 2 := by have := H1.out; omega))
      refine (estimate_any W H A D c most den _ (HR.out.below HBB.out (Nat.le_refl _))).mono ?_
      rintro e w3 ⟨rfl, hB3⟩
      have HBBB := Lib.hid (HBB.out.trans (hB3.mono HBB.out.size))
      have HN := Lib.hid (hn2.below hB3 (by omega))
      have HM := Lib.hid (hb2.below hB3 (by have := hb2.lt; omega))
      have H3 := hB3.size
      clear hn2 c0 c1 c2 hb2
      obtain ⟨c0, c1, c2⟩ := mat_cells HM.out
      go_wp2_with fail
      refine (shear_any W H A D c (estS W H D most den).1 den _ (HR.out.below HBBB.out (Nat.le_refl _))).mono ?_
      rintro e w4 ⟨v, rfl, ⟨A4, c4, rfl, hR4⟩, hB4⟩
      have HB4 := Lib.hid (HBBB.out.trans (hB4.mono HBBB.out.size))
      have HN4 := Lib.hid (HN.out.below hB4 (by omega))
      have H4 := hB4.size
      have HR4 := Lib.hid hR4
      clear c0 c1 c2 hR4
      unfold matA
      go_wp2_with (refine wpList_store_row rfl 24 _ _ rfl (w.heap.size + 1) (matA 0 0 none 0 0) rfl rfl 24 _ (HN4.out.alloc _) size24 rfl (matA_one _ _ _ _ _) ?_)
      refine bodyPost_ret (results_mat3 rfl _ _ (w.heap.size + 1) 24 _ (0, 0) _ rfl ((HN4.out.alloc _).setRow _) Try.underlying24 rfl size24) rfl ?_
      exact ⟨_, rfl, MatR3.zero _ _, below_setRow (HB4.out.alloc (by omega) _) (by omega) _⟩
  · have he : deskS W H D most den = ((0, 0, [], (estS W H D most den).2), 0) := if_neg he1
    rw [he]
    clear he
    have t1 : ((estS W H D most den).2 != 0) = true := by rw [bne_iff_ne]; exact he1
    unfold matA
    go_enter Try.func21, Try.ntmps21
    go_wp2_with (first | (refine wpList_box rfl 24 _ rfl _ rfl ?_; intro w1 hb1 hB1 hz1; have hb1 : Blk w1 w.heap.size 24 (matA W H A D.length c) := hb1; have H1 := Lib.hid hz1; clear hz1; refine wpList_new rfl 24 rfl _ info24 ?_; intro w2 hn2 hB2 hz2; rw [H1.out] at hn2; have hb2 := hb1.below hB2 (by have := H1.out; omega); obtain ⟨c0, c1, c2⟩ := mat_cells hb2; have HBB := Lib.hid (hB1.trans (hB2.mono (by have := H1.out; omega))); rw [H1.out]; have H2 : w2.heap.size = w.heap.size + 2 := by have := H1.out; omega))
    refine (estimate_any W H A D c most den _ (HR.out.below HBB.out (Nat.le_refl _))).mono ?_
    rintro e w3 ⟨rfl, hB3⟩
    have HBBB := Lib.hid (HBB.out.trans (hB3.mono HBB.out.size))
    have HN := Lib.hid (hn2.below hB3 (by omega))
    clear hn2 c0 c1 c2 hb2
    go_wp2_with (refine wpList_store_row rfl 24 _ _ rfl (w.heap.size + 1) (matA 0 0 none 0 0) rfl rfl 24 _ HN.out size24 rfl (matA_one _ _ _ _ _) ?_)
    refine bodyPost_ret (results_mat3 rfl _ _ (w.heap.size + 1) 24 (matA 0 0 none 0 0) (0, 0) _ rfl (HN.out.setRow _) Try.underlying24 rfl size24) rfl ?_
    exact ⟨_, rfl, MatR3.zero _ _, below_setRow HBBB.out (by omega) _⟩
end Go.Proofs.Yticbpifgjjcjmaa
