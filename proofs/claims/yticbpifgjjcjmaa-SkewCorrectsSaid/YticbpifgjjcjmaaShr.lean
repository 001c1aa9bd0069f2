/- The walk of Shear: the marks of the moved pixels. -/
import Derived.Test.YticbpifgjjcjmaaEnx
import Derived.Test.YticbpifgjjcjmaaApp
import Derived.Laws.ResultCell
import Derived.Laws.Tables
import Derived.Deep.RegionHeld3
import Derived.Great.BuildSlice
namespace Go.Proofs.Yticbpifgjjcjmaa
open Go.RowKit Go.Maps
/-- the places that the first k dark pixels mark -/
def mk (D : List Bool) (p : Nat → Nat) : Nat → Nat → Bool
  | 0, _ => false
  | k + 1, j => mk D p k j || (Skew.dk D k && decide (p k = j))
def mkL (D : List Bool) (p : Nat → Nat) (k N : Nat) : List Bool := (List.range N).map (mk D p k)
theorem mkL_len (D : List Bool) (p : Nat → Nat) (k N : Nat) : (mkL D p k N).length = N := by simp [mkL]
theorem mkL_getD (D : List Bool) (p : Nat → Nat) (k N j : Nat) (hj : j < N) : (mkL D p k N).getD j false = mk D p k j := by
  simp [mkL, List.getD_eq_getElem?_getD, List.getElem?_map, List.getElem?_range hj]
theorem mkL_zero (D : List Bool) (p : Nat → Nat) (N : Nat) : cellsL (mkL D p 0 N) = List.replicate N (.bool false) := by
  unfold cellsL mkL
  rw [List.map_map]
  have : (fun c => Value.bool c) ∘ mk D p 0 = fun _ => Value.bool false := by funext j; rfl
  rw [this, List.map_const', List.length_range]
theorem mkL_light {D : List Bool} {p : Nat → Nat} {k : Nat} (h : Skew.dk D k = false) (N : Nat) : mkL D p (k + 1) N = mkL D p k N := by
  unfold mkL
  apply List.map_congr_left
  intro j _
  rw [mk, h]; simp
theorem mkL_dark {D : List Bool} {p : Nat → Nat} {k : Nat} (h : Skew.dk D k = true) (N : Nat) : (cellsL (mkL D p k N)).toArray.setIfInBounds (p k) (.bool true) = (cellsL (mkL D p (k + 1) N)).toArray := by
  apply Array.ext_getElem?
  intro i
  rw [Array.getElem?_setIfInBounds]
  have hs : (cellsL (mkL D p k N)).toArray.size = N := by simp [cellsL, mkL]
  by_cases hi : i < N
  · have e1 : (cellsL (mkL D p k N)).toArray[i]? = some (.bool (mk D p k i)) := by
      rw [List.getElem?_toArray, cellsL_get _ _ (by rw [mkL_len]; exact hi), mkL_getD _ _ _ _ _ hi]
    have e2 : (cellsL (mkL D p (k + 1) N)).toArray[i]? = some (.bool (mk D p (k + 1) i)) := by
      rw [List.getElem?_toArray, cellsL_get _ _ (by rw [mkL_len]; exact hi), mkL_getD _ _ _ _ _ hi]
    rw [e1, e2, mk, h]
    by_cases hik : p k = i
    · rw [if_pos hik, if_pos (by rw [hs, hik]; exact hi)]; simp [hik]
    · rw [if_neg hik]; simp [hik]
  · have e1 : (cellsL (mkL D p k N)).toArray[i]? = none := by simp [cellsL, mkL]; omega
    have e2 : (cellsL (mkL D p (k + 1) N)).toArray[i]? = none := by simp [cellsL, mkL]; omega
    rw [e1, e2]
    split
    · rename_i hk; rw [hs, if_neg (by omega)]
    · rfl
theorem mkL_congr {D : List Bool} {p p' : Nat → Nat} {k : Nat} (h : ∀ i, i < k → p i = p' i) (N : Nat) : mkL D p k N = mkL D p' k N := by
  unfold mkL
  apply List.map_congr_left
  intro j _
  induction k with
  | zero => rfl
  | succ k ih => rw [mk, mk, ih (fun i hi => h i (by omega)), h k (by omega)]
/-- where a pixel falls -/
def Skew.place (W : Nat) (num den : Int) (i : Nat) : Nat := i + Skew.sh W num den (i % W) * W
/-- the specified bitmap and error -/
def shearS (W H : Int) (D : List Bool) (num den : Int) : Int × Int × List Bool × Int :=
  if sndB W H D.length = true then (if posB num den = true then
    (if H + ((Skew.top W.toNat num den : Nat) : Int) > 4096 ∨ W * (H + ((Skew.top W.toNat num den : Nat) : Int)) > 4194304 then (0, 0, [], 4)
     else (W, H + ((Skew.top W.toNat num den : Nat) : Int), mkL D (Skew.place W.toNat num den) D.length (W.toNat * (H.toNat + Skew.top W.toNat num den)), 0))
    else (0, 0, [], 3)) else (0, 0, [], 1)
/-- a bitmap with an error in a world -/
def MatR (w : World) (v : Value) (s : Int × Int × List Bool × Int) : Prop := ∃ A c, v = .tuple #[.agg (matA s.1 s.2.1 A s.2.2.1.length c), .int .i64 s.2.2.2] ∧ RdB w A s.2.2.1
theorem MatR.zero (w : World) (n : Int) : MatR w (.tuple #[.agg (matA 0 0 none 0 0), .int .i64 n]) (0, 0, [], n) := ⟨none, 0, rfl, fun h => absurd h (Nat.not_lt_zero _)⟩
theorem results_mat {P : Program} {fn : Func} {p u : Tmp} {ty : TypeId} (h : fn.results = #[.cell p ty, .tmp u]) (tmps : Array Value) (w : World) (g : Nat) (t : TypeId) (cs : Array Value) (fr : Nat × Nat) (d : TypeDesc)
    (hp : tmps.getD p undef = .pointer (some ⟨g, 0, none⟩)) (hg : w.heap[g]? = some (.cells cs t fr))
    (hu : P.underlying ty = some d) (hd : (match d with | .struct _ | .array _ _ => true | _ => false) = true) (hi : (P.info? ty).map (·.size) = some cs.size) :
    (results fn tmps).run P w = .ok (.tuple #[.agg cs, tmps.getD u undef]) w := by
  have hp' : tmps[p]?.getD undef = .pointer (some ⟨g, 0, none⟩) := by simpa using hp
  rw [results_cell_tmp h]
  simp [hp', asAddr, run_loadVar_row w g t ty cs fr d hg hu hd hi, Result.andThen]
theorem run_make1 {P : Program} (t e : TypeId) (z : Value) (bytes : Nat) (ht : P.underlying t = some (.slice e)) (hinfo : (P.info? e).map (fun i => (i.zero, i.size, i.bytes)) = some (some z, 1, bytes)) (hz1 : z.cells = #[z])
    (k1 k2 : IntKind) (n : Nat) (hn : bytes * n ≤ 281474976710656) (h63 : n ≤ 9223372036854775807) (w : World) :
    (Instr.makeSlice t (.int k1 (n : Int)) (.int k2 (n : Int))).run P w = .ok (.slice (some ⟨w.heap.size, 0, none⟩) n n) (w.alloc (.cells (List.replicate n z).toArray e)) := by
  obtain ⟨i, hi, hz, hs, hb⟩ := info_parts hinfo
  have hb' : (i.bytes : Int) * (n : Int) ≤ 281474976710656 := by
    have h : ((i.bytes * n : Nat) : Int) ≤ 281474976710656 := by rw [hb]; omega
    rwa [Int.natCast_mul] at h
  have hr := run_make (P := P) w t e i z ht hi hz k1 k2 n n (by omega) (by omega) hb' (by omega)
  have hm : madeCells z.cells ((n : Int).toNat * i.size) = (List.replicate n z).toArray := by
    rw [hs, hz1, Int.toNat_natCast, Nat.mul_one]
    apply Array.ext'
    rw [toList_madeCells_one]
  rw [hm, Int.toNat_natCast] at hr
  exact hr
theorem info4 : (Try.prog.info? 4).map (fun i => (i.zero, i.size, i.bytes)) = some (some (.bool false), 1, 1) := by kernel_rfl
theorem Blk.alloc_new {w : World} {g : Nat} {t : TypeId} {cs cs' : Array Value} (hg : g = w.heap.size) (h : cs = cs') : Blk (w.alloc (.cells cs t)) g t cs' := by
  subst hg h; exact Blk.new w t cs
theorem RdB.of_blk {w : World} {g : Nat} {D : List Bool} (h : Blk w g 4 (cellsL D).toArray) : RdB w (some ⟨g, 0, none⟩) D := fun _ => ⟨_, rfl, h.lt, fun j hj => by
  have ha : (⟨g, 0, none⟩ : Addr).add j = ⟨g, j, none⟩ := by unfold Addr.add; split <;> simp_all
  rw [ha]
  exact blk_cell h j _ (by rw [List.getElem?_toArray]; exact cellsL_get D j hj)⟩
theorem matA_one (W H : Int) (A : Option Addr) (n c : Nat) : (matA W H A n c).all (·.oneCell') = true := by simp [matA, Value.oneCell']
theorem info24 : (Try.prog.info? 24).bind (·.zero) = some (.agg #[.int .i64 0, .int .i64 0, .slice none 0 0]) := by kernel_rfl
theorem size24 : (Try.prog.info? 24).map (·.size) = some 3 := by kernel_rfl
set_option maxRecDepth 100000 in
set_option maxHeartbeats 2000000 in
theorem shear_any (W H : Int) (A : Option Addr) (D : List Bool) (c : Nat) (num den : Int) (w : World) (hr : RdB w A D) :
    Calls Try.prog 14 #[.agg (matA W H A D.length c), .int .i64 num, .int .i64 den] w fun e w' => ∃ v, e = .returned v ∧ MatR w' v (shearS W H D num den) ∧ Below w.heap.size w w' := by
  have HR := Lib.hid hr
  clear hr
  cases hs : sndB W H D.length
  · have he : shearS W H D num den = (0, 0, [], 1) := by unfold shearS; rw [hs]; rfl
    rw [he]
    unfold matA
    go_enter Try.func14, Try.ntmps14
    go_wp2_with (first | (refine wpList_box rfl 24 _ rfl _ rfl ?_; intro w1 hb1 hB1 hz1; have hb1 : Blk w1 w.heap.size 24 (matA W H A D.length c) := hb1; have H1 := Lib.hid hz1; clear hz1; refine wpList_new rfl 24 rfl _ info24 ?_; intro w2 hn2 hB2 hz2; rw [H1.out] at hn2; have hb2 := hb1.below hB2 (by have := H1.out; omega); obtain ⟨c0, c1, c2⟩ := mat_cells hb2; have HBB := Lib.hid (hB1.trans (hB2.mono (by have := H1.out; omega))); rw [H1.out]; have H2 : w2.heap.size = w.heap.size + 2 := by have := H1.out; omega))
    refine (check_any W H A D.length c _).mono ?_
    rintro e w3 ⟨rfl, hB3⟩
    rw [hs]
    have HBBB := Lib.hid (HBB.out.trans (hB3.mono HBB.out.size))
    have HN := Lib.hid (hn2.below hB3 (by omega))
    clear c0 c1 c2 hn2
    go_wp2_with (refine wpList_store_row rfl 24 _ _ rfl (w.heap.size + 1) (matA 0 0 none 0 0) rfl rfl 24 _ HN.out size24 rfl (matA_one _ _ _ _ _) ?_)
    refine bodyPost_ret (results_mat rfl _ _ (w.heap.size + 1) 24 (matA 0 0 none 0 0) (0, 0) _ rfl (HN.out.setRow _) Try.underlying24 rfl size24) rfl ?_
    exact ⟨_, rfl, MatR.zero _ 1, below_setRow HBBB.out (by omega) _⟩
  · cases hp : posB num den
    · have he : shearS W H D num den = (0, 0, [], 3) := by unfold shearS; rw [hs, hp]; rfl
      rw [he]
      clear he
      unfold matA
      go_enter Try.func14, Try.ntmps14
      go_wp2_with (first | (refine wpList_box rfl 24 _ rfl _ rfl ?_; intro w1 hb1 hB1 hz1; have hb1 : Blk w1 w.heap.size 24 (matA W H A D.length c) := hb1; have H1 := Lib.hid hz1; clear hz1; refine wpList_new rfl 24 rfl _ info24 ?_; intro w2 hn2 hB2 hz2; rw [H1.out] at hn2; have hb2 := hb1.below hB2 (by have := H1.out; omega); obtain ⟨c0, c1, c2⟩ := mat_cells hb2; have HBB := Lib.hid (hB1.trans (hB2.mono (by have := H1.out; omega))); rw [H1.out]; have H2 : w2.heap.size = w.heap.size + 2 := by have := H1.out; omega))
      refine (check_any W H A D.length c _).mono ?_
      rintro e w3 ⟨rfl, hB3⟩
      rw [hs]
      have HBBB := Lib.hid (HBB.out.trans (hB3.mono HBB.out.size))
      have HN := Lib.hid (hn2.below hB3 (by omega))
      have HM := Lib.hid (hb2.below hB3 (by have := hb2.lt; omega))
      have H3 := hB3.size
      clear c0 c1 c2 hn2 hb2
      obtain ⟨c0, c1, c2⟩ := mat_cells HM.out
      go_wp2_with fail
      refine (possible_any num den _).mono ?_
      rintro e w4 ⟨rfl, rfl⟩
      rw [hp]
      go_wp2_with (refine wpList_store_row rfl 24 _ _ rfl (w.heap.size + 1) (matA 0 0 none 0 0) rfl rfl 24 _ HN.out size24 rfl (matA_one _ _ _ _ _) ?_)
      refine bodyPost_ret (results_mat rfl _ _ (w.heap.size + 1) 24 (matA 0 0 none 0 0) (0, 0) _ rfl (HN.out.setRow _) Try.underlying24 rfl size24) rfl ?_
      exact ⟨_, rfl, MatR.zero _ 3, below_setRow HBBB.out (by omega) _⟩
    · obtain ⟨W, H, rfl, rfl, hW1, hW2, hH1, hH2, hD, hDl⟩ := snd_nat hs
      obtain ⟨hd1, hd2, hn1, hn2⟩ := pos_of hp
      have htop := Skew.top_le hd1 hn1 hn2 hW2
      have hT : ∃ T, Hid (T = Skew.top W num den) := ⟨_, Lib.hid rfl⟩
      obtain ⟨T, HT⟩ := hT
      rw [← HT.out] at htop
      obtain ⟨t, ht⟩ : ∃ t, Hid (t = W * (H + T)) := ⟨_, Lib.hid rfl⟩
      have hm : (W : Int) * ((H : Int) + (T : Int)) = (t : Int) := by rw [ht.out, Int.natCast_mul, Int.natCast_add]
      have htb : t ≤ 4096 * (H + T) := by rw [ht.out]; exact Nat.mul_le_mul hW2 (Nat.le_refl _)
      have HD := Lib.hid hD
      clear hD
      by_cases hlong : H + T > 4096
      · have he : shearS W H D num den = (0, 0, [], 4) := by
          unfold shearS; rw [hs, hp, if_pos rfl, if_pos rfl, if_pos]
          rw [Int.toNat_natCast, ← HT.out]; left; omega
        rw [he]
        clear he
        have hd : decide (4096 < (H : Int) + (T : Int)) = true := decide_eq_true (by omega)
        unfold matA
        go_enter Try.func14, Try.ntmps14
        go_wp2_with (first | (refine wpList_box rfl 24 _ rfl _ rfl ?_; intro w1 hb1 hB1 hz1; have hb1 : Blk w1 w.heap.size 24 (matA W H A D.length c) := hb1; have H1 := Lib.hid hz1; clear hz1; refine wpList_new rfl 24 rfl _ info24 ?_; intro w2 hn2 hB2 hz2; rw [H1.out] at hn2; have hb2 := hb1.below hB2 (by have := H1.out; omega); obtain ⟨c0, c1, c2⟩ := mat_cells hb2; have HBB := Lib.hid (hB1.trans (hB2.mono (by have := H1.out; omega))); rw [H1.out]; have H2 : w2.heap.size = w.heap.size + 2 := by have := H1.out; omega))
        refine (check_any W H A D.length c _).mono ?_
        rintro e w3 ⟨rfl, hB3⟩
        rw [hs]
        have HBBB := Lib.hid (HBB.out.trans (hB3.mono HBB.out.size))
        have HN := Lib.hid (hn2.below hB3 (by omega))
        have HM := Lib.hid (hb2.below hB3 (by have := hb2.lt; omega))
        have H3 := hB3.size
        clear c0 c1 c2 hn2 hb2
        obtain ⟨c0, c1, c2⟩ := mat_cells HM.out
        go_wp2_with fail
        refine (possible_any num den _).mono ?_
        rintro e w4 ⟨rfl, rfl⟩
        rw [hp]
        go_wp2_with fail
        refine (shifts_any W num den hW1 hW2 hd1 hn1 hn2 _).mono ?_
        rintro e w4 ⟨rfl, hS4, hB4⟩
        rw [← HT.out]
        have HM4 := Lib.hid (HM.out.below hB4 (by omega))
        have HN4 := Lib.hid (HN.out.below hB4 (by omega))
        have HB4 := Lib.hid (HBBB.out.trans (hB4.mono HBBB.out.size))
        have H4 := hB4.size
        clear c0 c1 c2 HM HN hS4
        obtain ⟨c0, c1, c2⟩ := mat_cells HM4.out
        go_wp2_with (refine wpList_store_row rfl 24 _ _ rfl (w.heap.size + 1) (matA 0 0 none 0 0) rfl rfl 24 _ HN4.out size24 rfl (matA_one _ _ _ _ _) ?_)
        refine bodyPost_ret (results_mat rfl _ _ (w.heap.size + 1) 24 (matA 0 0 none 0 0) (0, 0) _ rfl (HN4.out.setRow _) Try.underlying24 rfl size24) rfl ?_
        exact ⟨_, rfl, MatR.zero _ 4, below_setRow HB4.out (by omega) _⟩
      · by_cases hlong2 : t > 4194304
        · have he : shearS W H D num den = (0, 0, [], 4) := by
            unfold shearS; rw [hs, hp, if_pos rfl, if_pos rfl, if_pos]
            rw [Int.toNat_natCast, ← HT.out]; right; rw [hm]; omega
          rw [he]
          clear he
          have hd : decide (4096 < (H : Int) + (T : Int)) = false := decide_eq_false (by omega)
          have hd' : decide (4194304 < (t : Int)) = true := decide_eq_true (by omega)
          unfold matA
          go_enter Try.func14, Try.ntmps14
          go_wp2_with (first | (refine wpList_box rfl 24 _ rfl _ rfl ?_; intro w1 hb1 hB1 hz1; have hb1 : Blk w1 w.heap.size 24 (matA W H A D.length c) := hb1; have H1 := Lib.hid hz1; clear hz1; refine wpList_new rfl 24 rfl _ info24 ?_; intro w2 hn2 hB2 hz2; rw [H1.out] at hn2; have hb2 := hb1.below hB2 (by have := H1.out; omega); obtain ⟨c0, c1, c2⟩ := mat_cells hb2; have HBB := Lib.hid (hB1.trans (hB2.mono (by have := H1.out; omega))); rw [H1.out]; have H2 : w2.heap.size = w.heap.size + 2 := by have := H1.out; omega))
          refine (check_any W H A D.length c _).mono ?_
          rintro e w3 ⟨rfl, hB3⟩
          rw [hs]
          have HBBB := Lib.hid (HBB.out.trans (hB3.mono HBB.out.size))
          have HN := Lib.hid (hn2.below hB3 (by omega))
          have HM := Lib.hid (hb2.below hB3 (by have := hb2.lt; omega))
          have H3 := hB3.size
          clear c0 c1 c2 hn2 hb2
          obtain ⟨c0, c1, c2⟩ := mat_cells HM.out
          go_wp2_with fail
          refine (possible_any num den _).mono ?_
          rintro e w4 ⟨rfl, rfl⟩
          rw [hp]
          go_wp2_with fail
          refine (shifts_any W num den hW1 hW2 hd1 hn1 hn2 _).mono ?_
          rintro e w4 ⟨rfl, hS4, hB4⟩
          rw [← HT.out]
          have HM4 := Lib.hid (HM.out.below hB4 (by omega))
          have HN4 := Lib.hid (HN.out.below hB4 (by omega))
          have HB4 := Lib.hid (HBBB.out.trans (hB4.mono HBBB.out.size))
          have H4 := hB4.size
          clear c0 c1 c2 HM HN hS4
          obtain ⟨c0, c1, c2⟩ := mat_cells HM4.out
          go_wp2_with (refine wpList_store_row rfl 24 _ _ rfl (w.heap.size + 1) (matA 0 0 none 0 0) rfl rfl 24 _ HN4.out size24 rfl (matA_one _ _ _ _ _) ?_)
          refine bodyPost_ret (results_mat rfl _ _ (w.heap.size + 1) 24 (matA 0 0 none 0 0) (0, 0) _ rfl (HN4.out.setRow _) Try.underlying24 rfl size24) rfl ?_
          exact ⟨_, rfl, MatR.zero _ 4, below_setRow HB4.out (by omega) _⟩
        · have he : shearS W H D num den = ((W : Int), (H : Int) + (T : Int), mkL D (Skew.place W num den) D.length t, 0) := by
            unfold shearS; rw [hs, hp, if_pos rfl, if_pos rfl, if_neg]
            · rw [Int.toNat_natCast, Int.toNat_natCast, ← HT.out, ← ht.out]
            · rw [Int.toNat_natCast, ← HT.out, hm]; omega
          rw [he]
          clear he
          have hd : decide (4096 < (H : Int) + (T : Int)) = false := decide_eq_false (by omega)
          have hd' : decide (4194304 < (t : Int)) = false := decide_eq_false (by omega)
          unfold matA
          go_enter Try.func14, Try.ntmps14
          go_wp2_with (first | (refine wpList_box rfl 24 _ rfl _ rfl ?_; intro w1 hb1 hB1 hz1; have hb1 : Blk w1 w.heap.size 24 (matA W H A D.length c) := hb1; have H1 := Lib.hid hz1; clear hz1; refine wpList_new rfl 24 rfl _ info24 ?_; intro w2 hn2 hB2 hz2; rw [H1.out] at hn2; have hb2 := hb1.below hB2 (by have := H1.out; omega); obtain ⟨c0, c1, c2⟩ := mat_cells hb2; have HBB := Lib.hid (hB1.trans (hB2.mono (by have := H1.out; omega))); rw [H1.out]; have H2 : w2.heap.size = w.heap.size + 2 := by have := H1.out; omega))
          refine (check_any W H A D.length c _).mono ?_
          rintro e w3 ⟨rfl, hB3⟩
          rw [hs]
          have HBBB := Lib.hid (HBB.out.trans (hB3.mono HBB.out.size))
          have HN := Lib.hid (hn2.below hB3 (by omega))
          have HM := Lib.hid (hb2.below hB3 (by have := hb2.lt; omega))
          have H3 := hB3.size
          clear c0 c1 c2 hn2 hb2
          obtain ⟨c0, c1, c2⟩ := mat_cells HM.out
          go_wp2_with fail
          refine (possible_any num den _).mono ?_
          rintro e w4 ⟨rfl, rfl⟩
          rw [hp]
          go_wp2_with fail
          refine (shifts_any W num den hW1 hW2 hd1 hn1 hn2 _).mono ?_
          rintro e w4 ⟨rfl, hS4, hB4⟩
          rw [← HT.out]
          have HM4 := Lib.hid (HM.out.below hB4 (by omega))
          have HN4 := Lib.hid (HN.out.below hB4 (by omega))
          have HB4 := Lib.hid (HBBB.out.trans (hB4.mono HBBB.out.size))
          have H4 := hB4.size
          have HS4 := Lib.hid hS4
          clear c0 c1 c2 HM HN hS4
          obtain ⟨c0, c1, c2⟩ := mat_cells HM4.out
          obtain ⟨Z, hZ, hmk⟩ : ∃ Z : Array Value, Hid (Z = (cellsL (mkL D (Skew.place W num den) 0 t)).toArray) ∧ ∀ W' : World, (Instr.makeSlice 22 (.int .i64 (t : Int)) (.int .i64 (t : Int))).run Try.prog W' = .ok (.slice (some ⟨W'.heap.size, 0, none⟩) t t) (W'.alloc (.cells Z 4)) :=
            ⟨_, Lib.hid rfl, fun W' => by rw [mkL_zero]; exact run_make1 22 4 _ 1 Try.underlying22 info4 rfl .i64 .i64 t (by omega) (by omega) W'⟩
          have qt : IntKind.i64.wrap (t : Int) = (t : Int) := by rw [IntKind.wrap_i64]; omega
          have hlt4 : w.heap.size < w4.heap.size := by omega
          have hne0 := World.new_ne w4 ⟨w.heap.size, 0, none⟩ c0
          go_wp2_with fail
          go_cut [12] from 48 to 56 (fun v12 wx => ∃ go gd : Nat, v12 = .pointer (some ⟨go, 0, none⟩) ∧ Blk wx go 24 (matA W ((H : Int) + (T : Int)) (some ⟨gd, 0, none⟩) t t) ∧ Blk wx gd 4 Z ∧ go ≠ gd ∧ w4.heap.size ≤ go ∧ w4.heap.size ≤ gd ∧ Below w4.heap.size w4 wx)
          case first =>
            go_region_held3 (fun w' => w'.cell? ⟨w.heap.size, 0, none⟩ = some (.int .i64 (W : Int))) (go_keep) (fail)
            · go_wp2_with fail
              go_meet
              case rel => exact ⟨w4.heap.size + 1, w4.heap.size, rfl, Blk.alloc_new (by simp) rfl, (Blk.new w4 4 Z).alloc _, by omega, by omega, Nat.le_refl _, (((Below.refl _ _).alloc (Nat.le_refl _) _).alloc (by simp) _).drew⟩
            · go_wp2_with fail
              go_meet
              case rel => exact ⟨w4.heap.size, w4.heap.size + 1, rfl, (Blk.new w4 24 _).alloc _, Blk.alloc_new (by simp) rfl, by omega, Nat.le_refl _, by omega, (((Below.refl _ _).alloc (Nat.le_refl _) _).alloc (by simp) _).drew⟩
          case rest =>
            obtain ⟨go, gd, rfl, hgo, hgd, hne, hge1, hge2, hB5⟩ := hcut
            have HM5 := Lib.hid (HM4.out.below hB5 hlt4)
            have HN5 := Lib.hid (HN4.out.below hB5 (by omega))
            have HS5 := Lib.hid (Blk.below HS4.out hB5 (by have := HS4.out.lt; omega))
            have HB5 := Lib.hid (HB4.out.trans (hB5.mono HB4.out.size))
            have HGO := Lib.hid hgo
            have HGD := Lib.hid (hZ.out ▸ hgd)
            have hg0 := blk_cell hgo 0 _ rfl
            have hg2 := blk_cell hgo 2 _ rfl
            obtain ⟨m0, m1, m2⟩ := mat_cells HM5.out
            have hlt3 : w.heap.size + 2 ≤ w3.heap.size := by omega
            have hlt34 := HS4.out.lt
            clear c0 c1 c2 hgd hZ hmk hne0 qt hgo hB5 HM4 HN4 HS4 HB4
            go_wp2_with fail
            clear hg0 hg2 m0 m1 m2
            go_loopw [60] (fun vi wr => ∃ k : Nat, k ≤ D.length ∧ vi = .int .i64 (k : Int) ∧ Blk wr gd 4 (cellsL (mkL D (Skew.place W num den) k t)).toArray ∧ Blk wr go 24 (matA W ((H : Int) + (T : Int)) (some ⟨gd, 0, none⟩) t t) ∧ Blk wr w.heap.size 24 (matA W H A D.length c) ∧ Blk wr (w.heap.size + 1) 24 (Value.agg #[.int .i64 0, .int .i64 0, .slice none 0 0]).cells ∧ Blk wr w3.heap.size 3 (shL W num den W).toArray ∧ Below w.heap.size w wr) (fun vi _ => D.length - (intOf vi).toNat)
            case atStart => exact ⟨0, Nat.zero_le _, rfl, HGD.out, HGO.out, HM5.out, HN5.out, HS5.out, HB5.out⟩
            case round =>
              clear HGD HGO HM5 HN5 HS5 HB5
              obtain ⟨k, hk, rfl, b1, b2, b3, b4, b5, hB⟩ := hrel
              have B1 := Lib.hid b1
              have B2 := Lib.hid b2
              have B3 := Lib.hid b3
              have B4 := Lib.hid b4
              have B5 := Lib.hid b5
              have HB := Lib.hid hB
              have HRR := Lib.hid (HR.out.below hB (Nat.le_refl _))
              clear b1 b2 b3 b4 b5 hB
              by_cases hlt : k < D.length
              · have hdl : decide ((k : Int) < (D.length : Int)) = true := decide_eq_true (by omega)
                obtain ⟨ad, rfl, hcell⟩ := HRR.out.at_ hlt
                rw [show D.getD k false = Skew.dk D k from rfl] at hcell
                cases hdk : Skew.dk D k
                · have HMK := Lib.hid (mkL_light (p := Skew.place W num den) hdk t)
                  rw [hdk] at hcell
                  clear hdk
                  go_wp2_with fail
                  go_roundw
                  case rel => exact ⟨k + 1, by omega, by go_num, by rw [HMK.out]; exact B1.out, B2.out, B3.out, B4.out, B5.out, HB.out⟩
                  case measure => simp [intOf]; omega
                · have hmod := Nat.mod_lt k (show 0 < W by omega)
                  have hset := B1.out.set_ (Skew.place W num den k) (.bool true)
                  rw [mkL_dark hdk] at hset
                  have hcS := blk_cell B5.out (k % W) (.int .i64 ((Skew.sh W num den (k % W) : Nat) : Int)) (by rw [shL_get W num den W _ hmod, if_pos hmod])
                  have hsl := Skew.sh_le (num := num) hd1 hmod
                  rw [← HT.out] at hsl
                  have hpl : Skew.place W num den k = k + Skew.sh W num den (k % W) * W := rfl
                  have hmul := Nat.mul_le_mul hsl (Nat.le_refl W)
                  have htt : t = W * H + T * W := by rw [ht.out, Nat.mul_add, Nat.mul_comm W T]
                  have hpb : k + Skew.sh W num den (k % W) * W < t := by have := HD.out; omega
                  have hc2 := blk_cell B2.out 2 (.slice (some ⟨gd, 0, none⟩) t t) rfl
                  obtain ⟨m0, m1, m2⟩ := mat_cells B3.out
                  have t2 : (k : Int).tmod (W : Int) = ((k % W : Nat) : Int) := (Int.ofNat_tmod k W).symm
                  have hW0 : ((W : Int) == 0) = false := by rw [beq_eq_false_iff_ne]; omega
                  have hWn : ¬ W = 0 := by omega
                  have he1 : ((Skew.sh W num den (k % W) : Nat) : Int) * (W : Int) = ((Skew.sh W num den (k % W) * W : Nat) : Int) := (Int.natCast_mul _ _).symm
                  rw [hpl] at hset
                  have HSET := Lib.hid hset
                  rw [hdk] at hcell
                  clear hset hpl hmul htt hdk
                  generalize hp' : Skew.sh W num den (k % W) * W = p at *
                  generalize Skew.sh W num den (k % W) = s at *
                  generalize k % W = x at *
                  have q1 : IntKind.i64.wrap ((s : Int) * (W : Int)) = (p : Int) := by rw [he1, IntKind.wrap_i64]; omega
                  have q2 : IntKind.i64.wrap ((k : Int) + (p : Int)) = ((k + p : Nat) : Int) := by rw [IntKind.wrap_i64]; omega
                  clear hp' he1
                  have hpb' : k + p < t := hpb
                  generalize hz : k + p = z at *
                  have hfz := B1.out.frozen z
                  have hcz := blk_cell B1.out z (.bool ((mkL D (Skew.place W num den) k t).getD z false)) (by rw [List.getElem?_toArray]; exact cellsL_get _ _ (by rw [mkL_len]; exact hpb'))
                  clear hz
                  go_wp2_with fail
                  refine wp_region_still_tail 15 mixed (by kernel_rfl) ?_
                  change wpStill _ _ (World.drew _) _ _ _
                  change wpStill _ _ _ (fun a' => wpList _ _ _ _ a' (World.drew _)) _ _
                  simp only [List.take_succ_cons, List.take_zero, List.drop_succ_cons, List.drop_zero]
                  repeat still_step
                  refine wpStill_nil ?_
                  go_wp2
                  go_roundw
                  case rel => exact ⟨k + 1, by omega, by go_num, HSET.out, B2.out.far (by simp; omega) _, B3.out.far (by simp; omega) _, B4.out.far (by simp; omega) _, B5.out.far (by simp; omega) _, (HB.out.setCell (by simp; omega) _).drew⟩
                  case measure => simp [intOf]; omega
              · have hdl : decide ((k : Int) < (D.length : Int)) = false := decide_eq_false (by omega)
                obtain rfl : k = D.length := by omega
                obtain ⟨e0, e1, e2⟩ := mat_cells B2.out
                go_wp2_with (refine wpList_store_row rfl 24 _ _ rfl (w.heap.size + 1) (matA W ((H : Int) + (T : Int)) (some ⟨gd, 0, none⟩) t t) rfl rfl 24 _ B4.out size24 rfl (matA_one _ _ _ _ _) ?_)
                have hRD : RdB (wr.setRow (w.heap.size + 1) (matA W ((H : Int) + (T : Int)) (some ⟨gd, 0, none⟩) t t)) (some ⟨gd, 0, none⟩) (mkL D (Skew.place W num den) D.length t) := RdB.of_blk (B1.out.setRow_far (by omega) _)
                refine bodyPost_ret (results_mat rfl _ _ (w.heap.size + 1) 24 (matA W ((H : Int) + (T : Int)) (some ⟨gd, 0, none⟩) t t) (0, 0) _ rfl (B4.out.setRow _) Try.underlying24 rfl size24) rfl ?_
                exact ⟨_, rfl, ⟨some ⟨gd, 0, none⟩, t, by rw [mkL_len]; rfl, hRD⟩, below_setRow HB.out (by omega) _⟩
end Go.Proofs.Yticbpifgjjcjmaa
