/- The walk of Crop where the box has the bitmap's width and lies within it: some rows of a bitmap. -/
import Derived.Test.YticbpifgjjcjmaaBnd
import Derived.Test.YticbpifgjjcjmaaCol
import Derived.Test.YticbpifgjjcjmaaBmp
import Derived.Test.YticbpifgjjcjmaaNew
import Derived.Test.YticbpifgjjcjmaaSeq
namespace Go.Proofs.Yticbpifgjjcjmaa
open Go.RowKit Go.Maps
theorem at_int (W H : Nat) (A : Option Addr) (D : List Bool) (c : Nat) (x y : Int) (w : World) (hr : RdB w A D) (hs : sndB W H D.length = true) (hx0 : 0 ≤ x) (hx : x < W) (hy0 : 0 ≤ y) (hy : y < H) :
    Calls Try.prog 40 #[.agg (matA W H A D.length c), .int .i64 x, .int .i64 y] w fun e w' => e = .returned (.bool (Skew.dk D (y.toNat * W + x.toNat))) ∧ Below w.heap.size w w' := by
  obtain ⟨x', rfl⟩ : ∃ x' : Nat, x = x' := ⟨x.toNat, by omega⟩
  obtain ⟨y', rfl⟩ : ∃ y' : Nat, y = y' := ⟨y.toNat, by omega⟩
  rw [Int.toNat_natCast, Int.toNat_natCast]
  exact at_in W H A D c x' y' w hr hs (by omega) (by omega)
attribute [local go_sem] max2_int min2_int max_two min_two
set_option maxRecDepth 100000 in
theorem near_int (n : Int) (h0 : 0 ≤ n) (h1 : n ≤ 4096) (w : World) :
    Calls Try.prog 45 #[.int .i64 n] w fun e w' => e = .returned (.int .i64 n) ∧ w = w' := by
  have e1 : min 10000 n = n := by omega
  have e2 : max (-10000) n = n := by omega
  go_enter Try.func45, Try.ntmps45
  go_wp2
  go_ret
  exact ⟨rfl, rfl⟩
/-- n pixels from the place o on -/
def crL (D : List Bool) (o n : Nat) : List Bool := (List.range n).map fun j => Skew.dk D (o + j)
theorem crL_len (D : List Bool) (o n : Nat) : (crL D o n).length = n := by simp [crL]
theorem crL_succ (D : List Bool) (o n : Nat) : cellsL (crL D o (n + 1)) = cellsL (crL D o n) ++ [.bool (Skew.dk D (o + n))] := by
  simp [crL, cellsL, List.range_succ]
attribute [irreducible] crL
set_option maxRecDepth 100000 in
set_option maxHeartbeats 4000000 in
theorem crop_any (W H : Nat) (A : Option Addr) (D : List Bool) (c y0 h : Nat) (w : World) (hr : RdB w A D) (hs : sndB W H D.length = true) (h1 : 1 ≤ h) (hy : y0 + h ≤ H) :
    Calls Try.prog 37 #[.agg (matA W H A D.length c), .agg (boxA 0 y0 W h)] w fun e w' => ∃ v, e = .returned v ∧ MatR w' v ((W : Int), (h : Int), crL D (y0 * W) (h * W), 0) ∧ Below w.heap.size w w' := by
  obtain ⟨W', H', e1, e2, hW1, hW2, hH1, hH2, hD, hDl⟩ := snd_nat hs
  obtain rfl : W = W' := by omega
  obtain rfl : H = H' := by omega
  clear e1 e2
  have HR := Lib.hid hr
  have hf : fitB W h = true := decide_eq_true ⟨by omega, by
    have := Nat.mul_le_mul (Nat.le_refl W) (show h ≤ H by omega); omega⟩
  have hbt : h * W ≤ 4194304 := by
    have := Nat.mul_le_mul (show h ≤ H by omega) (Nat.le_refl W); rw [Nat.mul_comm H W] at this; omega
  have HD := Lib.hid hD
  clear hD hr
  unfold matA boxA
  go_enter Try.func37, Try.ntmps37
  go_wp2_with fail
  obtain ⟨w3, hu, hb3, hx3, hn3, HBB, H3⟩ : ∃ u, u = ((w.alloc (.cells #[.int .i64 W, .int .i64 H, .slice A D.length c] 24)).alloc (.cells #[.int .i64 0, .int .i64 y0, .int .i64 W, .int .i64 h] 58)).alloc (.cells #[.int .i64 0, .int .i64 0, .slice none 0 0] 24) ∧ Blk u w.heap.size 24 (matA W H A D.length c) ∧ Blk u (w.heap.size + 1) 58 (boxA 0 y0 W h) ∧ Blk u (w.heap.size + 2) 24 (matA 0 0 none 0 0) ∧ Hid (Below w.heap.size w u) ∧ u.heap.size = w.heap.size + 3 :=
    ⟨_, rfl, ((Blk.new w 24 _).alloc _).alloc _, (Blk.alloc_new (by simp) rfl).alloc _, Blk.alloc_new (by simp) rfl, Lib.hid ((((Below.refl _ _).alloc (Nat.le_refl _) _).alloc (by simp) _).alloc (by simp; omega) _), by simp⟩
  rw [← hu]
  clear hu
  refine (valid_any W H A D.length c _).mono ?_
  rintro e w4 ⟨rfl, hB4⟩
  rw [hs]
  have H4 := hB4.size
  have HM4 := Lib.hid (hb3.below hB4 (by omega))
  have HX4 := Lib.hid (hx3.below hB4 (by omega))
  have HN4 : Hid (Blk w4 (w.heap.size + 2) 24 (matA 0 0 none 0 0)) := Lib.hid (hn3.below hB4 (by omega))
  have HB4 := Lib.hid (HBB.out.trans (hB4.mono HBB.out.size))
  clear hb3 hx3 hn3 hB4 HBB
  have b0 : w4.cell? ⟨w.heap.size + 1, 0, none⟩ = some (.int .i64 0) := blk_cell HX4.out 0 _ rfl
  have b1 : w4.cell? ⟨w.heap.size + 1, 1, none⟩ = some (.int .i64 (y0 : Int)) := blk_cell HX4.out 1 _ rfl
  have b2 : w4.cell? ⟨w.heap.size + 1, 2, none⟩ = some (.int .i64 (W : Int)) := blk_cell HX4.out 2 _ rfl
  have b3 : w4.cell? ⟨w.heap.size + 1, 3, none⟩ = some (.int .i64 (h : Int)) := blk_cell HX4.out 3 _ rfl
  go_wp2_with fail
  refine (fits_any W h hW1 hW2 h1 (by omega) _).mono ?_
  rintro e w5 ⟨rfl, rfl⟩
  rw [hf]
  go_wp2_with fail
  obtain ⟨u5, hu, HM5, HX5, HN5, HG5, HO5, HB5, hs5⟩ : ∃ u, u = w4.alloc (.cells #[.int .i64 W, .int .i64 h, .slice none 0 0] 24) ∧ Hid (Blk u w.heap.size 24 (matA W H A D.length c)) ∧ Hid (Blk u (w.heap.size + 1) 58 (boxA 0 y0 W h)) ∧ Hid (Blk u (w.heap.size + 2) 24 (matA 0 0 none 0 0)) ∧ Hid (Blk u w4.heap.size 24 (matA W h none 0 0)) ∧ Hid (OwnV u (w4.heap.size + 1) 4 (.slice none 0 0) (cellsL (crL D (y0 * W) 0))) ∧ Hid (Below w.heap.size w u) ∧ u.heap.size = w4.heap.size + 1 :=
    ⟨_, rfl, Lib.hid (HM4.out.alloc _), Lib.hid (HX4.out.alloc _), Lib.hid (HN4.out.alloc _), Lib.hid (Blk.new w4 24 _), Lib.hid (by unfold crL; exact OwnV.nil _ _ _), Lib.hid (HB4.out.alloc HB4.out.size _), by simp⟩
  rw [← hu]
  clear hu HM4 HX4 HN4 HB4 b0 b1 b2 b3
  have hg3 : w.heap.size + 3 ≤ w4.heap.size := by omega
  clear H4 H3
  generalize w4.heap.size = g at *
  obtain ⟨o, ho⟩ : ∃ o, Hid (o = y0 * W) := ⟨_, Lib.hid rfl⟩
  rw [← ho.out] at HO5
  go_loopw [7] (fun vy wr => ∃ y : Nat, ∃ A1 c1, y ≤ h ∧ vy = .int .i64 (y : Int) ∧ Blk wr w.heap.size 24 (matA W H A D.length c) ∧ Blk wr (w.heap.size + 1) 58 (boxA 0 y0 W h) ∧ Blk wr (w.heap.size + 2) 24 (matA 0 0 none 0 0) ∧ Blk wr g 24 (matA W h A1 (y * W) c1) ∧ OwnV wr (g + 1) 4 (.slice A1 (y * W) c1) (cellsL (crL D o (y * W))) ∧ Below w.heap.size w wr ∧ g + 1 ≤ wr.heap.size) (fun vy _ => h - (intOf vy).toNat)
  case atStart => exact ⟨0, none, 0, Nat.zero_le _, rfl, HM5.out, HX5.out, HN5.out, by rw [Nat.zero_mul]; exact HG5.out, by rw [Nat.zero_mul]; exact HO5.out, HB5.out, by omega⟩
  case round =>
    clear HM5 HX5 HN5 HG5 HO5 HB5 hs5
    obtain ⟨y, A1, c1, hyh, rfl, hM, hX, hN, hG, hO, hB, hsz⟩ := hrel
    have HM := Lib.hid hM
    have HX := Lib.hid hX
    have HN := Lib.hid hN
    have HG := Lib.hid hG
    have HO := Lib.hid hO
    have HB := Lib.hid hB
    have b3 : wr.cell? ⟨w.heap.size + 1, 3, none⟩ = some (.int .i64 (h : Int)) := blk_cell hX 3 _ rfl
    clear hM hX hN hG hO hB
    by_cases hlt : y < h
    · have hd : decide ((y : Int) < (h : Int)) = true := decide_eq_true (by omega)
      go_wp2_with fail
      clear b3
      go_loopw [8] (fun vx wv => ∃ x : Nat, ∃ A2 c2, x ≤ W ∧ vx = .int .i64 (x : Int) ∧ Blk wv w.heap.size 24 (matA W H A D.length c) ∧ Blk wv (w.heap.size + 1) 58 (boxA 0 y0 W h) ∧ Blk wv (w.heap.size + 2) 24 (matA 0 0 none 0 0) ∧ Blk wv g 24 (matA W h A2 (y * W + x) c2) ∧ OwnV wv (g + 1) 4 (.slice A2 (y * W + x) c2) (cellsL (crL D o (y * W + x))) ∧ Below w.heap.size w wv ∧ g + 1 ≤ wv.heap.size) (fun vx _ => W - (intOf vx).toNat)
      case atStart => exact ⟨0, A1, c1, Nat.zero_le _, rfl, HM.out, HX.out, HN.out, HG.out, HO.out, HB.out, hsz⟩
      case round =>
        clear HM HX HN HG HO HB hsz
        obtain ⟨x, A2, c2, hxW, rfl, hM, hX, hN, hG, hO, hB, hsz⟩ := hrel
        have HM := Lib.hid hM
        have HX := Lib.hid hX
        have HN := Lib.hid hN
        have HG := Lib.hid hG
        have HO := Lib.hid hO
        have HB := Lib.hid hB
        have b2 : wr.cell? ⟨w.heap.size + 1, 2, none⟩ = some (.int .i64 (W : Int)) := blk_cell hX 2 _ rfl
        clear hM hX hN hG hO hB
        by_cases hlx : x < W
        · have hdx : decide ((x : Int) < (W : Int)) = true := decide_eq_true (by omega)
          go_wp2_with fail
          clear b2
          have hpb : y * W + x < h * W := by
            have := Nat.mul_le_mul (show y + 1 ≤ h from hlt) (Nat.le_refl W)
            rw [Nat.add_mul] at this; omega
          have HIX : Hid (Skew.dk D (((y0 : Int) + (y : Int)).toNat * W + ((x : Nat) : Int).toNat) = Skew.dk D (o + (y * W + x))) := Lib.hid (by
            rw [Int.toNat_natCast, show ((y0 : Int) + (y : Int)).toNat = y0 + y by omega, Nat.add_mul, ho.out, Nat.add_assoc])
          obtain ⟨p, hp⟩ : ∃ p, Hid (p = y * W + x) := ⟨_, Lib.hid rfl⟩
          rw [← hp.out] at hpb HO HG HIX
          obtain ⟨b, hbb⟩ : ∃ b, Hid (b = Skew.dk D (o + p)) := ⟨_, Lib.hid rfl⟩
          rw [← hbb.out] at HIX
          have K : ∀ w', Below wr.heap.size wr w' → w'.cell? ⟨w.heap.size, 0, none⟩ = some (.int .i64 (W : Int)) ∧ w'.cell? ⟨w.heap.size, 1, none⟩ = some (.int .i64 (H : Int)) ∧ w'.cell? ⟨w.heap.size, 2, none⟩ = some (.slice A D.length c) ∧ w'.cell? ⟨w.heap.size + 1, 0, none⟩ = some (.int .i64 0) ∧ w'.cell? ⟨w.heap.size + 1, 1, none⟩ = some (.int .i64 (y0 : Int)) ∧ w'.cell? ⟨g, 2, none⟩ = some (.slice A2 p c2) := fun w' hb => by
            obtain ⟨p0, p1, p2⟩ := mat_cells (HM.out.below hb (by omega))
            have q := HX.out.below hb (by omega)
            exact ⟨p0, p1, p2, blk_cell q 0 _ rfl, blk_cell q 1 _ rfl, blk_cell (HG.out.below hb (by omega)) 2 _ rfl⟩
          have HK := Lib.hid K
          have hBC : Below wr.heap.size wr wr.drew := (Below.refl _ _).drew
          clear K
          have q1 : IntKind.i64.wrap ((y0 : Int) + (y : Int)) = (y0 : Int) + (y : Int) := by rw [IntKind.wrap_i64]; omega
          have q2 : IntKind.i64.wrap (x : Int) = (x : Int) := by rw [IntKind.wrap_i64]; omega
          refine wp_region_seq (S := fun w' => Below wr.heap.size wr w') 15 [(0, true), (1, true), (2, true), (3, true), (4, true), (6, true), (8, true), (9, true), (11, true), (5, false), (7, true), (10, false), (12, true), (13, false), (14, false)] (by kernel_rfl) rfl (by kernel_rfl) hBC ?_
          simp only [List.map_cons, List.map_nil, List.getD_cons_succ, List.getD_cons_zero, List.drop_succ_cons, List.drop_zero]
          iterate 9
            refine wpSeq_take (v := ?_) (by rfl) ?_ ?_
            rotate_left
            · intro w' hw'
              obtain ⟨k1, k2, k3, k4, k5, k6⟩ := HK.out w' hw'
              go_simp
              try with_reducible rfl
            simp only [Act.put, List.setIfInBounds_toArray, List.set_cons_zero, List.set_cons_succ]
          refine wpSeq_step fun K hK => ?_
          go_simp
          go_at_call 45
          refine (near_int _ (by omega) (by omega) _).mono ?_
          rintro e w9 ⟨rfl, rfl⟩
          refine hK.out _ _ hBC ?_
          clear hK K
          try simp only [Act.put, List.setIfInBounds_toArray, List.set_cons_zero, List.set_cons_succ]
          iterate 1
            refine wpSeq_take (v := ?_) (by rfl) ?_ ?_
            rotate_left
            · intro w' hw'
              obtain ⟨k1, k2, k3, k4, k5, k6⟩ := HK.out w' hw'
              go_simp
              try with_reducible rfl
            simp only [Act.put, List.setIfInBounds_toArray, List.set_cons_zero, List.set_cons_succ]
          refine wpSeq_step fun K hK => ?_
          go_simp
          go_at_call 45
          refine (near_int _ (by omega) (by omega) _).mono ?_
          rintro e w9 ⟨rfl, rfl⟩
          refine hK.out _ _ hBC ?_
          clear hK K
          try simp only [Act.put, List.setIfInBounds_toArray, List.set_cons_zero, List.set_cons_succ]
          iterate 1
            refine wpSeq_take (v := ?_) (by rfl) ?_ ?_
            rotate_left
            · intro w' hw'
              obtain ⟨k1, k2, k3, k4, k5, k6⟩ := HK.out w' hw'
              go_simp
              try with_reducible rfl
            simp only [Act.put, List.setIfInBounds_toArray, List.set_cons_zero, List.set_cons_succ]
          refine wpSeq_step fun K hK => ?_
          go_simp
          go_at_call 40
          refine (at_int _ _ _ _ _ _ _ _ (HR.out.below (HB.out.trans (hBC.mono HB.out.size)) (Nat.le_refl _)) hs (by omega) (by omega) (by omega) (by omega)).mono ?_
          rintro e w9 ⟨rfl, hB9⟩
          rw [HIX.out]
          have hBC9 := hBC.trans (hB9.mono hBC.size)
          refine hK.out _ _ hBC9 ?_
          clear hK K
          try simp only [Act.put, List.setIfInBounds_toArray, List.set_cons_zero, List.set_cons_succ]
          refine wpSeq_step fun K hK => ?_
          go_simp
          refine hK.out _ _ (hBC9.alloc hBC9.size _) ?_
          clear hK K
          try simp only [Act.put, List.setIfInBounds_toArray, List.set_cons_zero, List.set_cons_succ]
          refine wpSeq_nil ?_
          have hown : ∀ k, (Value.slice A2 p c2).ownBlock = some k → g + 1 ≤ k := HO.out.base_
          have h9 := hBC9.size
          go_wp2_with (at_builtin; refine wpList_app1V rfl _ _ 22 rfl (g + 1) 4 (.bool false) 1 Try.underlying22 info4 rfl (by decide) _ _ rfl (HO.out.below hBC9) _ (.bool b) rfl rfl rfl (by rw [cellsL_len, crL_len]; omega) (by omega) ?_; intro v1 wn HO1 hg1 hat1; obtain ⟨A3, c3, rfl⟩ := HO1.slice; have hGn := (HG.out.below hBC9 (by omega)).grown hg1 (fun e => by have := hown _ e.symm; omega); have hfn := hGn.frozen 2; have hcn : wn.cell? ⟨g, 2, none⟩ = some (.slice A2 p c2) := blk_cell hGn 2 _ rfl)
          have hMn := (HM.out.below hBC9 (by omega)).grown hg1 (fun e => by have := hown _ e.symm; omega)
          have hXn := (HX.out.below hBC9 (by omega)).grown hg1 (fun e => by have := hown _ e.symm; omega)
          have hNn := (HN.out.below hBC9 (by omega)).grown hg1 (fun e => by have := hown _ e.symm; omega)
          have hBn := (HB.out.trans (hBC9.mono HB.out.size)).grown hg1 (by have := HB.out.size; omega) (fun k hk => by have := hown k hk; omega)
          have hsn := hg1.size
          refine NoPanic.normal ?_
          rw [List.length_append, cellsL_len, crL_len] at *
          have hOn := HO1.setCell_below (a := ⟨g, 2, none⟩) (by simp only []; omega) (.slice A3 (p + [Value.bool b].length) c3)
          go_wp2_with fail
          go_roundw
          case rel => exact ⟨x + 1, A3, c3, by omega, by go_num, hMn.far (by simp only []; omega) _, hXn.far (by simp only []; omega) _, hNn.far (by simp only []; omega) _, by rw [← Nat.add_assoc, ← hp.out]; exact hGn.set_ 2 _, by rw [← Nat.add_assoc, ← hp.out, crL_succ, ← hbb.out]; exact hOn, hBn.setCell (by simp only []; omega) _, by simp; omega⟩
          case measure => simp [intOf]; omega
        · have hdx : decide ((x : Int) < (W : Int)) = false := decide_eq_false (by omega)
          obtain rfl : x = W := by omega
          go_wp2_with fail
          go_roundw
          case rel => exact ⟨y + 1, A2, c2, by omega, by go_num, HM.out, HX.out, HN.out, by rw [Nat.add_mul, Nat.one_mul]; exact HG.out, by rw [Nat.add_mul, Nat.one_mul]; exact HO.out, HB.out, hsz⟩
          case measure => simp [intOf]; omega
    · have hd : decide ((y : Int) < (h : Int)) = false := decide_eq_false (by omega)
      obtain rfl : y = h := by omega
      obtain ⟨c0, c1', c2⟩ := mat_cells HG.out
      obtain ⟨A', c', hv, hR⟩ := HO.out.bools
      rw [crL_len] at hv
      injection hv with e1 _ e3
      subst e1 e3
      have HRR := Lib.hid hR
      clear hR
      go_wp2_with (refine wpList_store_row rfl 24 _ _ rfl (w.heap.size + 2) (matA W y A1 (y * W) c1) rfl rfl 24 _ HN.out size24 rfl (matA_one _ _ _ _ _) ?_)
      refine bodyPost_ret (results_mat rfl _ _ (w.heap.size + 2) 24 (matA W y A1 (y * W) c1) (0, 0) _ rfl (HN.out.setRow _) Try.underlying24 rfl size24) rfl ?_
      refine ⟨_, rfl, ⟨A1, c1, by simp only [crL_len]; rfl, ?_⟩, below_setRow HB.out (by omega) _⟩
      rw [← ho.out]
      intro h0
      obtain ⟨ad, e, hl, hc⟩ := HRR.out h0
      have hbs := HO.out.base_ ad.block (by rw [e]; rfl)
      refine ⟨ad, e, by simpa using hl, fun j hj => ?_⟩
      have hbl : (ad.add j).block = ad.block := by unfold Addr.add; split <;> rfl
      exact (World.cell?_of_block (setRow_other wr (w.heap.size + 2) _ _ (by rw [hbl]; omega))).trans (hc j hj)
end Go.Proofs.Yticbpifgjjcjmaa
