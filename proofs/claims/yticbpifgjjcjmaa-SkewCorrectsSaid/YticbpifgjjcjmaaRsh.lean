/- The walk of the reference's Shear. -/
import Derived.Test.YticbpifgjjcjmaaNew
namespace Go.Proofs.Yticbpifgjjcjmaa
open Go.RowKit Go.Maps
attribute [local go_sem] max2_int min2_int max_two min_two
theorem refshift_int (x : Int) (W : Nat) (num den : Int) (hx0 : 0 ≤ x) (hx : x < W) (hW : W ≤ 4096) (hd1 : 1 ≤ den) (h1 : -4096 ≤ num) (h2 : num ≤ 4096) (w : World) :
    Calls Try.prog 24 #[.int .i64 x, .int .i64 (W : Int), .int .i64 num, .int .i64 den] w fun e w' => e = .returned (.int .i64 ((Skew.sh W num den x.toNat : Nat) : Int)) ∧ w = w' := by
  obtain ⟨y, rfl⟩ : ∃ y : Nat, x = y := ⟨x.toNat, by omega⟩
  rw [Int.toNat_natCast]
  exact refshift_any y W num den (by omega) hW hd1 h1 h2 w
set_option maxRecDepth 100000 in
set_option maxHeartbeats 2000000 in
theorem refshear_any (W H : Int) (A : Option Addr) (D : List Bool) (c : Nat) (num den : Int) (w : World) (hr : RdB w A D) :
    Calls Try.prog 15 #[.agg (matA W H A D.length c), .int .i64 num, .int .i64 den] w fun e w' => ∃ v, e = .returned v ∧ MatR w' v (shearS W H D num den) ∧ Below w.heap.size w w' := by
  have HR := Lib.hid hr
  clear hr
  cases hs : sndB W H D.length
  · have he : shearS W H D num den = (0, 0, [], 1) := by unfold shearS; rw [hs]; rfl
    rw [he]
    clear he
    unfold matA
    go_enter Try.func15, Try.ntmps15
    go_wp2_with (first | (refine wpList_box rfl 24 _ rfl _ rfl ?_; intro w1 hb1 hB1 hz1; have hb1 : Blk w1 w.heap.size 24 (matA W H A D.length c) := hb1; have H1 := Lib.hid hz1; clear hz1; refine wpList_new rfl 24 rfl _ info24 ?_; intro w2 hn2 hB2 hz2; rw [H1.out] at hn2; have hb2 := hb1.below hB2 (by have := H1.out; omega); obtain ⟨c0, c1, c2⟩ := mat_cells hb2; have HBB := Lib.hid (hB1.trans (hB2.mono (by have := H1.out; omega))); rw [H1.out]; have H2 : w2.heap.size = w.heap.size + 2 := by have := H1.out; omega))
    refine (refcheck_any W H A D.length c _).mono ?_
    rintro e w3 ⟨rfl, hB3⟩
    rw [hs]
    have HBBB := Lib.hid (HBB.out.trans (hB3.mono HBB.out.size))
    have HN := Lib.hid (hn2.below hB3 (by omega))
    have HM := Lib.hid (hb2.below hB3 (by have := hb2.lt; omega))
    have H3 := hB3.size
    clear c0 c1 c2 hn2 hb2
    obtain ⟨c0, c1, c2⟩ := mat_cells HM.out
    go_wp2_with (refine wpList_store_row rfl 24 _ _ rfl (w.heap.size + 1) (matA 0 0 none 0 0) rfl rfl 24 _ HN.out size24 rfl (matA_one _ _ _ _ _) ?_)
    refine bodyPost_ret (results_mat rfl _ _ (w.heap.size + 1) 24 (matA 0 0 none 0 0) (0, 0) _ rfl (HN.out.setRow _) Try.underlying24 rfl size24) rfl ?_
    exact ⟨_, rfl, MatR.zero _ 1, below_setRow HBBB.out (by omega) _⟩
  · cases hp : posB num den
    · have he : shearS W H D num den = (0, 0, [], 3) := by unfold shearS; rw [hs, hp]; rfl
      rw [he]
      clear he
      unfold matA
      go_enter Try.func15, Try.ntmps15
      go_wp2_with (first | (refine wpList_box rfl 24 _ rfl _ rfl ?_; intro w1 hb1 hB1 hz1; have hb1 : Blk w1 w.heap.size 24 (matA W H A D.length c) := hb1; have H1 := Lib.hid hz1; clear hz1; refine wpList_new rfl 24 rfl _ info24 ?_; intro w2 hn2 hB2 hz2; rw [H1.out] at hn2; have hb2 := hb1.below hB2 (by have := H1.out; omega); obtain ⟨c0, c1, c2⟩ := mat_cells hb2; have HBB := Lib.hid (hB1.trans (hB2.mono (by have := H1.out; omega))); rw [H1.out]; have H2 : w2.heap.size = w.heap.size + 2 := by have := H1.out; omega))
      refine (refcheck_any W H A D.length c _).mono ?_
      rintro e w3 ⟨rfl, hB3⟩
      rw [hs]
      have HBBB := Lib.hid (HBB.out.trans (hB3.mono HBB.out.size))
      have HN := Lib.hid (hn2.below hB3 (by omega))
      have HM := Lib.hid (hb2.below hB3 (by have := hb2.lt; omega))
      have H3 := hB3.size
      clear c0 c1 c2 hn2 hb2
      obtain ⟨c0, c1, c2⟩ := mat_cells HM.out
      go_wp2_with fail
      refine (refpossible_any num den _).mono ?_
      rintro e w4 ⟨rfl, rfl⟩
      rw [hp]
      go_wp2_with (refine wpList_store_row rfl 24 _ _ rfl (w.heap.size + 1) (matA 0 0 none 0 0) rfl rfl 24 _ HN.out size24 rfl (matA_one _ _ _ _ _) ?_)
      refine bodyPost_ret (results_mat rfl _ _ (w.heap.size + 1) 24 (matA 0 0 none 0 0) (0, 0) _ rfl (HN.out.setRow _) Try.underlying24 rfl size24) rfl ?_
      exact ⟨_, rfl, MatR.zero _ 3, below_setRow HBBB.out (by omega) _⟩
    · obtain ⟨W, H, rfl, rfl, hW1, hW2, hH1, hH2, hD, hDl⟩ := snd_nat hs
      obtain ⟨hd1, hd2, hn1, hn2⟩ := pos_of hp
      have htop := Skew.top_le hd1 hn1 hn2 hW2
      obtain ⟨T, HT⟩ : ∃ T, Hid (T = Skew.top W num den) := ⟨_, Lib.hid rfl⟩
      rw [← HT.out] at htop
      have HD := Lib.hid hD
      clear hD
      have hmx : max ((Skew.sh W num den 0 : Nat) : Int) ((Skew.sh W num den (W - 1) : Nat) : Int) = (T : Int) := by rw [HT.out]; exact (Skew.top_max hd1 hW1).symm
      have hWm : IntKind.i64.wrap ((W : Int) - 1) = ((W - 1 : Nat) : Int) := by rw [IntKind.wrap_i64]; omega
      have hWm' : (W : Int) - 1 = ((W - 1 : Nat) : Int) := by omega
      have hWm2 : IntKind.i64.wrap ((W - 1 : Nat) : Int) = ((W - 1 : Nat) : Int) := by rw [IntKind.wrap_i64]; omega
      unfold matA
      go_enter Try.func15, Try.ntmps15
      go_wp2_with (first | (refine wpList_box rfl 24 _ rfl _ rfl ?_; intro w1 hb1 hB1 hz1; have hb1 : Blk w1 w.heap.size 24 (matA W H A D.length c) := hb1; have H1 := Lib.hid hz1; clear hz1; refine wpList_new rfl 24 rfl _ info24 ?_; intro w2 hn2 hB2 hz2; rw [H1.out] at hn2; have hb2 := hb1.below hB2 (by have := H1.out; omega); obtain ⟨c0, c1, c2⟩ := mat_cells hb2; have HBB := Lib.hid (hB1.trans (hB2.mono (by have := H1.out; omega))); rw [H1.out]; have H2 : w2.heap.size = w.heap.size + 2 := by have := H1.out; omega))
      refine (refcheck_any W H A D.length c _).mono ?_
      rintro e w3 ⟨rfl, hB3⟩
      rw [hs]
      have HBBB := Lib.hid (HBB.out.trans (hB3.mono HBB.out.size))
      have HN := Lib.hid (hn2.below hB3 (by omega))
      have HM := Lib.hid (hb2.below hB3 (by have := hb2.lt; omega))
      have H3 := hB3.size
      clear c0 c1 c2 hn2 hb2
      obtain ⟨c0, c1, c2⟩ := mat_cells HM.out
      go_wp2_with fail
      refine (refpossible_any num den _).mono ?_
      rintro e w4 ⟨rfl, rfl⟩
      rw [hp]
      go_wp2_with fail
      go_cut [8] from 23 to 36 (fun v8 wx => v8 = .int .i64 (T : Int) ∧ Blk wx w.heap.size 24 (matA W H A D.length c) ∧ Blk wx (w.heap.size + 1) 24 (Value.agg #[.int .i64 0, .int .i64 0, .slice none 0 0]).cells ∧ Below w.heap.size w wx ∧ w.heap.size + 2 ≤ wx.heap.size)
      case first =>
        go_region_held3 (fun w' => w'.cell? ⟨w.heap.size, 0, none⟩ = some (.int .i64 (W : Int))) (go_keep) ((go_at_call 24; refine (refshift_int _ W num den ?h0 ?h1 hW2 hd1 hn1 hn2 _).mono ?_; (case h0 => omega); (case h1 => omega); rintro e w9 ⟨rfl, rfl⟩; (first | rw [Int.toNat_natCast] | rw [Int.toNat_zero])))
        go_wp2_with fail
        go_meet
        case rel => exact ⟨rfl, HM.out, HN.out, HBBB.out.drew, by simpa using (by omega : w.heap.size + 2 ≤ w3.heap.size)⟩
      case rest =>
        obtain ⟨rfl, hMc, hNc, hBc, hsc⟩ := hcut
        have HM4 := Lib.hid hMc
        have HN4 := Lib.hid hNc
        have HB4 := Lib.hid hBc
        clear c0 c1 c2 hMc hNc hBc HM HN HBBB
        obtain ⟨c0, c1, c2⟩ := mat_cells HM4.out
        go_wp2_with fail
        refine (new_any W (H + T) hW1 hW2 (by omega) (by omega) _).mono ?_
        rintro e w5 ⟨v, rfl, hNew, hB5⟩
        have HM5 := Lib.hid (HM4.out.below hB5 (by omega))
        have HN5 := Lib.hid (HN4.out.below hB5 (by omega))
        have HB5 := Lib.hid (HB4.out.trans (hB5.mono HB4.out.size))
        have hs5 : w.heap.size + 2 ≤ w5.heap.size := by have := hB5.size; omega
        clear c0 c1 c2 hmx hB5
        unfold NewR at hNew
        cases hfit : fitB W (H + T)
        · rw [hfit] at hNew
          simp only [Bool.false_eq_true, ↓reduceIte] at hNew
          subst hNew
          have hnf : ¬ (H + T ≤ 4096 ∧ W * (H + T) ≤ 4194304) := of_decide_eq_false hfit
          have hm : (W : Int) * ((H : Int) + (T : Int)) = ((W * (H + T) : Nat) : Int) := by rw [Int.natCast_mul, Int.natCast_add]
          have he : shearS W H D num den = (0, 0, [], 4) := by
            unfold shearS; rw [hs, hp, if_pos rfl, if_pos rfl, if_pos]
            rw [Int.toNat_natCast, ← HT.out, hm]; omega
          have HE := Lib.hid he
          clear he hm
          unfold matA
          go_wp2_with (refine wpList_store_row rfl 24 _ _ rfl (w.heap.size + 1) (matA 0 0 none 0 0) rfl rfl 24 _ (HN5.out.alloc _) size24 rfl (matA_one _ _ _ _ _) ?_)
          refine bodyPost_ret (results_mat rfl _ _ (w.heap.size + 1) 24 (matA 0 0 none 0 0) (0, 0) _ rfl ((HN5.out.alloc _).setRow _) Try.underlying24 rfl size24) rfl ?_
          exact ⟨_, rfl, by rw [HE.out]; exact MatR.zero _ 4, below_setRow (HB5.out.alloc (by omega) _) (by omega) _⟩
        · rw [hfit] at hNew
          simp only [↓reduceIte] at hNew
          obtain ⟨gd, rfl, hgd, hgd2⟩ := hNew
          have hyf : H + T ≤ 4096 ∧ W * (H + T) ≤ 4194304 := of_decide_eq_true hfit
          obtain ⟨t, ht⟩ : ∃ t, Hid (t = W * (H + T)) := ⟨_, Lib.hid rfl⟩
          rw [← ht.out] at hyf hgd ⊢
          have hm : (W : Int) * ((H : Int) + (T : Int)) = (t : Int) := by rw [ht.out, Int.natCast_mul, Int.natCast_add]
          have he : shearS W H D num den = ((W : Int), (H : Int) + (T : Int), mkL D (Skew.place W num den) D.length t, 0) := by
            unfold shearS; rw [hs, hp, if_pos rfl, if_pos rfl, if_neg]
            · rw [Int.toNat_natCast, Int.toNat_natCast, ← HT.out, ← ht.out]
            · rw [Int.toNat_natCast, ← HT.out, hm]; omega
          have HE := Lib.hid he
          have HGD := Lib.hid (show Blk w5 gd 4 (cellsL (mkL D (Skew.place W num den) 0 t)).toArray from by rw [mkL_zero]; exact hgd)
          clear he hm hgd hfit hs hp
          obtain ⟨hyf1, hyf2⟩ := hyf
          unfold matA
          go_wp2_with fail
          have hgd3 := HGD.out.lt
          obtain ⟨u0, hu, HO6, HGD6, HM6, HN6, HB6⟩ : ∃ u0, u0 = w5.alloc (.cells (matA W ((H : Int) + (T : Int)) (some ⟨gd, 0, none⟩) t t) 24) ∧ Hid (Blk u0 w5.heap.size 24 (matA W ((H : Int) + (T : Int)) (some ⟨gd, 0, none⟩) t t)) ∧ Hid (Blk u0 gd 4 (cellsL (mkL D (Skew.place W num den) 0 t)).toArray) ∧ Hid (Blk u0 w.heap.size 24 (matA W H A D.length c)) ∧ Hid (Blk u0 (w.heap.size + 1) 24 (Value.agg #[.int .i64 0, .int .i64 0, .slice none 0 0]).cells) ∧ Hid (Below w.heap.size w u0) :=
            ⟨_, rfl, Lib.hid (Blk.new _ _ _), Lib.hid (HGD.out.alloc _), Lib.hid (HM5.out.alloc _), Lib.hid (HN5.out.alloc _), Lib.hid (HB5.out.alloc (by omega) _)⟩
          unfold matA at hu
          rw [← hu]
          clear hu HGD HM5 HN5 HB5 HM4 HN4 HB4
          generalize hgo : w5.heap.size = go at *
          have hne : go ≠ gd := by omega
          have hgo2 : w.heap.size + 2 ≤ go := hs5
          clear hgo
          go_loopw [11] (fun vi wr => ∃ k : Nat, k ≤ D.length ∧ vi = .int .i64 (k : Int) ∧ Blk wr gd 4 (cellsL (mkL D (Skew.place W num den) k t)).toArray ∧ Blk wr go 24 (matA W ((H : Int) + (T : Int)) (some ⟨gd, 0, none⟩) t t) ∧ Blk wr w.heap.size 24 (matA W H A D.length c) ∧ Blk wr (w.heap.size + 1) 24 (Value.agg #[.int .i64 0, .int .i64 0, .slice none 0 0]).cells ∧ Below w.heap.size w wr) (fun vi _ => D.length - (intOf vi).toNat)
          case atStart => exact ⟨0, Nat.zero_le _, rfl, HGD6.out, HO6.out, HM6.out, HN6.out, HB6.out⟩
          case round =>
            clear HGD6 HO6 HM6 HN6 HB6
            obtain ⟨k, hk, rfl, b1, b2, b3, b4, hB⟩ := hrel
            have B1 := Lib.hid b1
            have B2 := Lib.hid b2
            have B3 := Lib.hid b3
            have B4 := Lib.hid b4
            have HB := Lib.hid hB
            have HRR := Lib.hid (HR.out.below hB (Nat.le_refl _))
            obtain ⟨m0, m1, m2⟩ := mat_cells b3
            clear b1 b2 b3 b4 hB
            by_cases hlt : k < D.length
            · have hdl : decide ((k : Int) < (D.length : Int)) = true := decide_eq_true (by omega)
              obtain ⟨ad, rfl, hcell⟩ := HRR.out.at_ hlt
              rw [show D.getD k false = Skew.dk D k from rfl] at hcell
              cases hdk : Skew.dk D k
              · have HMK := Lib.hid (mkL_light (p := Skew.place W num den) hdk t)
                rw [hdk] at hcell
                clear hdk
                go_wp2_with fail
                go_roundw
                case rel => exact ⟨k + 1, by omega, by go_num, by rw [HMK.out]; exact B1.out, B2.out, B3.out, B4.out, HB.out⟩
                case measure => simp [intOf]; omega
              · have hmod := Nat.mod_lt k (show 0 < W by omega)
                have hset := B1.out.set_ (Skew.place W num den k) (.bool true)
                rw [mkL_dark hdk] at hset
                have hsl := Skew.sh_le (num := num) hd1 hmod
                rw [← HT.out] at hsl
                have hdm : W * (k / W) + k % W = k := Nat.div_add_mod k W
                have hpl : Skew.place W num den k = (k / W + Skew.sh W num den (k % W)) * W + k % W := by
                  unfold Skew.place; rw [Nat.add_mul, Nat.mul_comm (k / W) W]; omega
                have hmul := Nat.mul_le_mul hsl (Nat.le_refl W)
                have htt : t = W * H + T * W := by rw [ht.out, Nat.mul_add, Nat.mul_comm W T]
                have hpb : (k / W + Skew.sh W num den (k % W)) * W + k % W < t := by
                  rw [← hpl]; unfold Skew.place; have := HD.out; omega
                have hc2 := blk_cell B2.out 2 (.slice (some ⟨gd, 0, none⟩) t t) rfl
                have t1 : (k : Int).tdiv (W : Int) = ((k / W : Nat) : Int) := (Int.ofNat_tdiv k W).symm
                have t2 : (k : Int).tmod (W : Int) = ((k % W : Nat) : Int) := (Int.ofNat_tmod k W).symm
                have hW0 : ((W : Int) == 0) = false := by rw [beq_eq_false_iff_ne]; omega
                have hWn : ¬ W = 0 := by omega
                have hdv : k / W ≤ k := Nat.div_le_self _ _
                rw [hpl] at hset
                have HSET := Lib.hid hset
                rw [hdk] at hcell
                clear hset hpl hmul htt hdk hdm
                have hcall : ∀ w9, Calls Try.prog 24 #[.int .i64 ((k % W : Nat) : Int), .int .i64 (W : Int), .int .i64 num, .int .i64 den] w9 fun e w' => e = .returned (.int .i64 ((Skew.sh W num den (k % W) : Nat) : Int)) ∧ w' = w9 := fun w9 => (refshift_any (k % W) W num den hmod hW2 hd1 hn1 hn2 w9).mono fun _ _ h => ⟨h.1, h.2.symm⟩
                generalize Skew.sh W num den (k % W) = s at *
                generalize k % W = x at *
                generalize k / W = q at *
                obtain ⟨y, hy⟩ : ∃ y, Hid (y = q + s) := ⟨_, Lib.hid rfl⟩
                rw [← hy.out] at hpb HSET
                have q1 : IntKind.i64.wrap ((q : Int) + (s : Int)) = (y : Int) := by rw [IntKind.wrap_i64]; have := hy.out; omega
                have he1 : (y : Int) * (W : Int) = ((y * W : Nat) : Int) := (Int.natCast_mul _ _).symm
                generalize hp' : y * W = p at *
                have q2 : IntKind.i64.wrap ((y : Int) * (W : Int)) = (p : Int) := by rw [he1, IntKind.wrap_i64]; omega
                have q3 : IntKind.i64.wrap ((p : Int) + (x : Int)) = ((p + x : Nat) : Int) := by rw [IntKind.wrap_i64]; omega
                clear hp' he1
                have hpb' : p + x < t := hpb
                generalize hz : p + x = z at *
                have hfz := B1.out.frozen z
                have hcz := blk_cell B1.out z (.bool ((mkL D (Skew.place W num den) k t).getD z false)) (by rw [List.getElem?_toArray]; exact cellsL_get _ _ (by rw [mkL_len]; exact hpb'))
                clear hz
                have HCALL := Lib.hid hcall
                clear hcall
                have HQ1 := Lib.hid q1
                have HQ2 := Lib.hid q2
                have HQ3 := Lib.hid q3
                clear q1 q2 q3
                go_wp2_with fail
                go_quiet (fail)
                have hc2d : (wr.drewN nq).cell? ⟨go, 2, none⟩ = some (.slice (some ⟨gd, 0, none⟩) t t) := hc2
                have m0d : (wr.drewN nq).cell? ⟨w.heap.size, 0, none⟩ = some (.int .i64 (W : Int)) := m0
                have hfzd : (wr.drewN nq).frozen? ⟨gd, z, none⟩ = false := hfz
                have hczd : (wr.drewN nq).cell? ⟨gd, z, none⟩ = some (.bool ((mkL D (Skew.place W num den) k t).getD z false)) := hcz
                have B2d : Hid (Blk (wr.drewN nq) go 24 (matA W ((H : Int) + (T : Int)) (some ⟨gd, 0, none⟩) t t)) := Lib.hid B2.out
                have B3d : Hid (Blk (wr.drewN nq) w.heap.size 24 (matA W H (some ad) D.length c)) := Lib.hid B3.out
                have B4d : Hid (Blk (wr.drewN nq) (w.heap.size + 1) 24 (Value.agg #[.int .i64 0, .int .i64 0, .slice none 0 0]).cells) := Lib.hid B4.out
                have HSETd : Hid (Blk ((wr.drewN nq).setCell ⟨gd, z, none⟩ (.bool true)) gd 4 (cellsL (mkL D (Skew.place W num den) (k + 1) t)).toArray) := Lib.hid HSET.out
                have HBd := Lib.hid (below_drewN HB.out nq)
                clear hc2 m0 m1 m2 hfz hcz B1 B2 B3 B4 HSET HB hcell HRR t1 t2
                generalize wr.drewN nq = wd at *
                have q1 := HQ1.out
                have q2 := HQ2.out
                have q3 := HQ3.out
                clear HQ1 HQ2 HQ3
                go_wp2_with fail
                refine wp_region_still_tail 16 mixed (by kernel_rfl) ?_
                change wpStill _ _ (World.drew _) _ _ _
                change wpStill _ _ _ (fun a' => wpList _ _ _ _ a' (World.drew _)) _ _
                simp only [List.take_succ_cons, List.take_zero, List.drop_succ_cons, List.drop_zero]
                still_step
                still_step
                still_step
                still_step
                still_step
                still_step
                still_step
                still_step
                still_call (HCALL.out _)
                repeat still_step
                refine wpStill_nil ?_
                go_wp2
                go_roundw
                case rel => exact ⟨k + 1, by omega, by go_num, HSETd.out, B2d.out.far (by simp; omega) _, B3d.out.far (by simp; omega) _, B4d.out.far (by simp; omega) _, (HBd.out.setCell (by simp; omega) _).drew⟩
                case measure => simp [intOf]; omega
            · have hdl : decide ((k : Int) < (D.length : Int)) = false := decide_eq_false (by omega)
              obtain rfl : k = D.length := by omega
              obtain ⟨e0, e1, e2⟩ := mat_cells B2.out
              go_wp2_with (refine wpList_store_row rfl 24 _ _ rfl (w.heap.size + 1) (matA W ((H : Int) + (T : Int)) (some ⟨gd, 0, none⟩) t t) rfl rfl 24 _ B4.out size24 rfl (matA_one _ _ _ _ _) ?_)
              have hRD : RdB (wr.setRow (w.heap.size + 1) (matA W ((H : Int) + (T : Int)) (some ⟨gd, 0, none⟩) t t)) (some ⟨gd, 0, none⟩) (mkL D (Skew.place W num den) D.length t) := RdB.of_blk (B1.out.setRow_far (by omega) _)
              refine bodyPost_ret (results_mat rfl _ _ (w.heap.size + 1) 24 (matA W ((H : Int) + (T : Int)) (some ⟨gd, 0, none⟩) t t) (0, 0) _ rfl (B4.out.setRow _) Try.underlying24 rfl size24) rfl ?_
              exact ⟨_, rfl, by rw [HE.out]; exact ⟨some ⟨gd, 0, none⟩, t, by rw [mkL_len]; rfl, hRD⟩, below_setRow HB.out (by omega) _⟩
end Go.Proofs.Yticbpifgjjcjmaa
