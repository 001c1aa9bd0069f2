/- The law SkewCorrects: rows that are dark or light, whose columns were moved up by a slope, are restored by Deskew, up to light rows at the top and the bottom; the chapter's examples hold. -/
import Derived.Test.YticbpifgjjcjmaaExa
import Derived.Test.YticbpifgjjcjmaaCmt
import Derived.Test.YticbpifgjjcjmaaRsh
import Derived.Test.YticbpifgjjcjmaaDsk
import Derived.Test.YticbpifgjjcjmaaArg
import Derived.Test.YticbpifgjjcjmaaRows
import Derived.WalkKit
import Derived.ProofKit
import Derived.OpenShut
import Derived.ShutString
import Derived.ChangeOld
import Derived.Below
namespace Go.Proofs.Yticbpifgjjcjmaa.skewCorrects
open Go.ChangeShapes Go.WideShapes Go.ChangeAt Go.RowKit
open Go.ChangeMaps (open_string shut_string)
set_option linter.unusedVariables false
theorem own : ownKnob Try.prog.godebug = none := by kernel_rfl
theorem laidOut : laidOutB Try.prog = true := by kernel_rfl
theorem open_rows {H : Type} {enc : TypeId × Value → H} {W : World} {base : Nat} {v : Value} {d : DataW H} {p : List MemPlace} (hv : Value.okWide Try.prog W .any base 22 v) (h2 : DataW.Trod enc Try.prog W 0 (fun _ => true) true 22 v d p) :
    ∃ (A : Option Addr) (D : List Bool) (c : Nat), v = .slice A D.length c ∧ RdB W A D ∧ D.length ≤ 9223372036854775807 := by
  obtain ⟨a1, l1, c1, rfl⟩ := okWide_slice Try.underlying22 hv
  obtain ⟨m, h2⟩ := h2
  rcases Go.Deep.open_bools Try.underlying22 Try.underlying4 (by kernel_rfl) h2 with ⟨e2, _⟩ | ⟨a, len, cap, B, e2, _, hl, hm, _, hc⟩
  · simp [Value.cells] at e2
    obtain ⟨rfl, rfl, rfl⟩ := e2
    exact ⟨none, [], 0, rfl, fun h0 => absurd h0 (Nat.not_lt_zero _), by simp⟩
  · simp [Value.cells] at e2
    obtain ⟨rfl, rfl, rfl⟩ := e2
    have hlen : ((List.range l1).map B).length = l1 := by simp
    exact ⟨some a, (List.range l1).map B, c1, by rw [hlen], rdB_of hl hc, by rw [hlen]; unfold maxLen at hm; omega⟩
theorem tmod13 (k : Int) : -12 ≤ k.tmod 13 ∧ k.tmod 13 ≤ 12 := by
  rcases Int.le_total 0 k with h | h
  · obtain ⟨m, rfl⟩ : ∃ m : Nat, k = m := ⟨k.toNat, by omega⟩
    have e : (m : Int).tmod 13 = ((m % 13 : Nat) : Int) := (Int.ofNat_tmod m 13).symm
    have := Nat.mod_lt m (show 0 < 13 by omega)
    rw [e]; omega
  · obtain ⟨m, rfl⟩ : ∃ m : Nat, k = -(m : Int) := ⟨(-k).toNat, by omega⟩
    have e : (m : Int).tmod 13 = ((m % 13 : Nat) : Int) := (Int.ofNat_tmod m 13).symm
    have := Nat.mod_lt m (show 0 < 13 by omega)
    rw [Int.neg_tmod, e]; omega
theorem orL_succ {R : List Bool} {W x y : Nat} (hx : x < W) : cellsL (orL R W (y * W + x + 1)) = cellsL (orL R W (y * W + x)) ++ [.bool (R.getD y false)] := by
  simp [orL, cellsL, List.range_succ, idx_div hx]
theorem mvL_succ {R : List Bool} {W d x y : Nat} {n : Int} (hx : x < W) : cellsL (mvL R W n d (y * W + x + 1)) = cellsL (mvL R W n d (y * W + x)) ++ [.bool (mvB R W n d y x)] := by
  simp [mvL, cellsL, List.range_succ, idx_div hx, idx_mod hx]
theorem MatR3.elim {w : World} {v : Value} {s : (Int × Int × List Bool × Int) × Int} {x y : Int} {D : List Bool} {e b : Int} (h : MatR3 w v s) (hs : s = ((x, y, D, e), b)) : ∃ A c, v = .tuple #[.agg (matA x y A D.length c), .int .i64 b, .int .i64 e] ∧ RdB w A D := by
  subst hs; exact h
theorem mvB_in {R : List Bool} {W d y x T s idx : Nat} {n : Int} (hT : T = Skew.top W n d) (hs : s = Skew.sh W n d x) (h : T ≤ y + s) (hi : idx = y + s - T) : mvB R W n d y x = R.getD idx false := by
  unfold mvB; rw [← hT, ← hs, decide_eq_true h, Bool.true_and, hi]
theorem mvB_out {R : List Bool} {W d y x T s : Nat} {n : Int} (hT : T = Skew.top W n d) (hs : s = Skew.sh W n d x) (h : y + s < T) : mvB R W n d y x = false := by
  unfold mvB; rw [← hT, decide_eq_false (by omega), Bool.false_and]
attribute [local irreducible] orL mvL mvB
attribute [local go_sem] max2_int min2_int max_two min_two
set_option maxRecDepth 100000 in
set_option maxHeartbeats 8000000 in
theorem walk (A : Option Addr) (R : List Bool) (c : Nat) (a1 : Int) (a2 : Int) (a3 : Int) (w : World) (hr : RdB w A R) (hl : R.length ≤ 9223372036854775807) (w1 : (Lit.int .u8 a1).wf = true) (w2 : (Lit.int .i8 a2).wf = true) (w3 : (Lit.int .u8 a3).wf = true) :
    Calls Try.prog 7 #[.slice A R.length c, .int .u8 a1, .int .i8 a2, .int .u8 a3] w fun e w' => e = .returned (.bool true) ∧ Below w.heap.size w w' := by
  have HR := Lib.hid hr
  clear hr
  have hw1 : 0 ≤ a1 ∧ a1 < 256 := by simp [Lit.wf, IntKind.min, IntKind.max, IntKind.signed, IntKind.bits] at w1; omega
  have hw2 : -128 ≤ a2 ∧ a2 < 128 := by simp [Lit.wf, IntKind.min, IntKind.max, IntKind.signed, IntKind.bits] at w2; omega
  have hw3 : 0 ≤ a3 ∧ a3 < 256 := by simp [Lit.wf, IntKind.min, IntKind.max, IntKind.signed, IntKind.bits] at w3; omega
  clear w1 w2 w3
  obtain ⟨q1, rfl⟩ : ∃ q : Nat, a1 = q := ⟨a1.toNat, by omega⟩
  obtain ⟨q3, rfl⟩ : ∃ q : Nat, a3 = q := ⟨a3.toNat, by omega⟩
  have tq1 : (q1 : Int).tmod 40 = ((q1 % 40 : Nat) : Int) := (Int.ofNat_tmod q1 40).symm
  have tq3 : (q3 : Int).tmod 40 = ((q3 % 40 : Nat) : Int) := (Int.ofNat_tmod q3 40).symm
  have hm1 := Nat.mod_lt q1 (show 0 < 40 by omega)
  have hm3 := Nat.mod_lt q3 (show 0 < 40 by omega)
  generalize q1 % 40 = p1 at *
  generalize q3 % 40 = p3 at *
  obtain ⟨hn1, hn2⟩ := tmod13 a2
  obtain ⟨n, hn⟩ : ∃ n : Int, a2.tmod 13 = n := ⟨_, rfl⟩
  rw [hn] at hn1 hn2
  obtain ⟨W, hWe⟩ : ∃ W : Nat, (1 : Int) + (p1 : Int) = (W : Int) := ⟨1 + p1, by omega⟩
  obtain ⟨d, hde⟩ : ∃ d : Nat, (1 : Int) + (p3 : Int) = (d : Int) := ⟨1 + p3, by omega⟩
  have hW1 : 1 ≤ W := by omega
  have hW2 : W ≤ 40 := by omega
  have hd1 : 1 ≤ d := by omega
  have hd2 : d ≤ 40 := by omega
  by_cases hf : 30 < R.length
  · have hd : decide (30 < (R.length : Int)) = true := decide_eq_true (by omega)
    have hd' : decide (30 < R.length) = true := decide_eq_true hf
    have HB := Lib.hid (Below.refl w.heap.size w)
    go_enter Try.func7, Try.ntmps7
    go_wp2_with fail
    refine (example_any _).mono ?_
    rintro e w9 ⟨rfl, hB9⟩
    have HB9 := Lib.hid (HB.out.trans (hB9.mono HB.out.size))
    go_wp2_with fail
    go_ret
    exact ⟨rfl, HB9.out⟩
  · have hd : decide (30 < (R.length : Int)) = false := decide_eq_false (by omega)
    have hd' : decide (30 < R.length) = false := decide_eq_false hf
    by_cases hz : R.length = 0
    · have hz' : ((R.length : Int) == 0) = true := by rw [beq_iff_eq]; omega
      have HB := Lib.hid (Below.refl w.heap.size w)
      go_enter Try.func7, Try.ntmps7
      go_wp2_with fail
      refine (example_any _).mono ?_
      rintro e w9 ⟨rfl, hB9⟩
      have HB9 := Lib.hid (HB.out.trans (hB9.mono HB.out.size))
      go_wp2_with fail
      go_ret
      exact ⟨rfl, HB9.out⟩
    · have hz' : ((R.length : Int) == 0) = false := by rw [beq_eq_false_iff_ne]; omega
      have HF := Lib.hid (corrects_facts (R := R) (n := n) (d := d) hW1 hW2 hd1 (by omega) hn1 hn2 (by omega) (by omega))
      have hT := Skew.top_le_mul (num := n) (N := 12) (d := d) hW1 hd1 (by omega) (by omega)
      obtain ⟨T, hTe⟩ : ∃ T, Hid (T = Skew.top W n d) := ⟨_, Lib.hid rfl⟩
      rw [← hTe.out] at hT
      have hTM : T ≤ 480 := by omega
      have hmx : max ((Skew.sh W n d 0 : Nat) : Int) ((Skew.sh W n d (W - 1) : Nat) : Int) = (T : Int) := by rw [hTe.out]; exact (Skew.top_max (by omega) hW1).symm
      have hWm' : (W : Int) - 1 = ((W - 1 : Nat) : Int) := by omega
      obtain ⟨H0, hH0⟩ : ∃ H0, Hid (H0 = R.length) := ⟨_, Lib.hid rfl⟩
      have hH01 : 1 ≤ H0 := by have := hH0.out; omega
      have hH02 : H0 ≤ 30 := by have := hH0.out; omega
      have HLE := Lib.hid (show R.length = H0 from hH0.out.symm)
      rw [HLE.out] at hd hd' hz' hz hf
      clear hT hz hf
      go_enter Try.func7, Try.ntmps7
      rw [HLE.out]
      go_wp2_with fail
      obtain ⟨u0, hu, HG0, HO0, HB0, hs0⟩ : ∃ u, u = w.alloc (.cells #[.int .i64 W, .int .i64 H0, .slice none 0 0] 24) ∧ Hid (Blk u w.heap.size 24 (matA W H0 none 0 0)) ∧ Hid (OwnV u (w.heap.size + 1) 4 (.slice none 0 0) (cellsL (orL R W 0))) ∧ Hid (Below w.heap.size w u) ∧ u.heap.size = w.heap.size + 1 :=
        ⟨_, rfl, Lib.hid (Blk.new w 24 _), Lib.hid (by unfold orL; exact OwnV.nil _ _ _), Lib.hid ((Below.refl _ _).alloc (Nat.le_refl _) _), by simp⟩
      rw [← hu]
      clear hu
      go_loopw [13] (fun vy wr => ∃ y : Nat, ∃ A1 c1, y ≤ H0 ∧ vy = .int .i64 (y : Int) ∧ Blk wr w.heap.size 24 (matA W H0 A1 (y * W) c1) ∧ OwnV wr (w.heap.size + 1) 4 (.slice A1 (y * W) c1) (cellsL (orL R W (y * W))) ∧ Below w.heap.size w wr ∧ w.heap.size + 1 ≤ wr.heap.size) (fun vy _ => H0 - (intOf vy).toNat)
      case atStart => exact ⟨0, none, 0, Nat.zero_le _, rfl, by rw [Nat.zero_mul]; exact HG0.out, by rw [Nat.zero_mul]; exact HO0.out, HB0.out, by omega⟩
      case round =>
        clear HG0 HO0 HB0 hs0
        obtain ⟨y, A1, c1, hyh, rfl, hG, hO, hB, hsz⟩ := hrel
        have HG := Lib.hid hG
        have HO := Lib.hid hO
        have HB := Lib.hid hB
        clear hG hO hB
        by_cases hlt : y < H0
        · have hdy : decide ((y : Int) < (H0 : Int)) = true := decide_eq_true (by omega)
          go_wp2_with fail
          go_loopw [14] (fun vx wv => ∃ x : Nat, ∃ A2 c2, x ≤ W ∧ vx = .int .i64 (x : Int) ∧ Blk wv w.heap.size 24 (matA W H0 A2 (y * W + x) c2) ∧ OwnV wv (w.heap.size + 1) 4 (.slice A2 (y * W + x) c2) (cellsL (orL R W (y * W + x))) ∧ Below w.heap.size w wv ∧ w.heap.size + 1 ≤ wv.heap.size) (fun vx _ => W - (intOf vx).toNat)
          case atStart => exact ⟨0, A1, c1, Nat.zero_le _, rfl, HG.out, HO.out, HB.out, hsz⟩
          case round =>
            clear HG HO HB hsz
            obtain ⟨x, A2, c2, hxW, rfl, hG, hO, hB, hsz⟩ := hrel
            have HG := Lib.hid hG
            have HO := Lib.hid hO
            have HB := Lib.hid hB
            clear hG hO hB
            by_cases hlx : x < W
            · have hdx : decide ((x : Int) < (W : Int)) = true := decide_eq_true (by omega)
              go_wp2_with fail
              have hpb : y * W + x < 30 * W := by
                have := Nat.mul_le_mul (show y + 1 ≤ 30 by omega) (Nat.le_refl W)
                rw [Nat.add_mul] at this; omega
              have HS := Lib.hid (orL_succ (R := R) (y := y) hlx)
              obtain ⟨p, hp⟩ : ∃ p, Hid (p = y * W + x) := ⟨_, Lib.hid rfl⟩
              rw [← hp.out] at hpb HO HG HS
              obtain ⟨b, hbb⟩ : ∃ b, Hid (b = R.getD y false) := ⟨_, Lib.hid rfl⟩
              rw [← hbb.out] at HS
              obtain ⟨ad, rfl, _⟩ := (HR.out).at_ (show y < R.length by rw [HLE.out]; exact hlt)
              have K : ∀ w', Below wr.heap.size wr w' → w'.cell? (ad.add y) = some (.bool b) ∧ w'.cell? ⟨w.heap.size, 2, none⟩ = some (.slice A2 p c2) := fun w' hb => by
                obtain ⟨ad', e, hc⟩ := ((HR.out.below HB.out (Nat.le_refl _)).below hb (Nat.le_refl _)).at_ (show y < R.length by rw [HLE.out]; exact hlt)
                injection e with e
                subst e
                rw [← hbb.out] at hc
                exact ⟨hc, blk_cell (HG.out.below hb (by omega)) 2 _ rfl⟩
              have HK := Lib.hid K
              have hBC : Below wr.heap.size wr wr.drew := (Below.refl _ _).drew
              clear K
              refine wp_region_seq (S := fun w' => Below wr.heap.size wr w') 7 [(0, true), (1, true), (2, true), (3, true), (4, true), (5, true), (6, false)] (by kernel_rfl) rfl (by kernel_rfl) hBC ?_
              generalize wr.drew = wd at hBC ⊢
              simp only [List.map_cons, List.map_nil, List.getD_cons_succ, List.getD_cons_zero, List.drop_succ_cons, List.drop_zero]
              iterate 6
                refine wpSeq_take (v := ?_) (by rfl) ?_ ?_
                rotate_left
                · intro w' hw'
                  obtain ⟨k1, k2⟩ := HK.out w' hw'
                  go_simp
                  try with_reducible rfl
                simp only [Act.put, List.setIfInBounds_toArray, List.set_cons_zero, List.set_cons_succ]
              refine wpSeq_step fun K hK => ?_
              go_simp
              refine hK.out _ _ (hBC.alloc hBC.size _) ?_
              clear hK K
              try simp only [Act.put, List.setIfInBounds_toArray, List.set_cons_zero, List.set_cons_succ]
              refine wpSeq_nil ?_
              have hown : ∀ k, (Value.slice A2 p c2).ownBlock = some k → w.heap.size + 1 ≤ k := HO.out.base_
              have h9 := hBC.size
              go_wp2_with (at_builtin; refine wpList_app1V rfl _ _ 22 rfl (w.heap.size + 1) 4 (.bool false) 1 Try.underlying22 info4 rfl (by decide) _ _ rfl (HO.out.below hBC) _ (.bool b) rfl rfl rfl (by rw [cellsL_len, orL_len]; omega) (by omega) ?_; intro v1 wn HO1 hg1 hat1; obtain ⟨A3, c3, rfl⟩ := HO1.slice; have hGn := (HG.out.below hBC (by omega)).grown hg1 (fun e => by have := hown _ e.symm; omega); have hfn := hGn.frozen 2; have hcn : wn.cell? ⟨w.heap.size, 2, none⟩ = some (.slice A2 p c2) := blk_cell hGn 2 _ rfl)
              have hBn := (HB.out.trans (hBC.mono (by have := HB.out.size; omega))).grown hg1 (by have := HB.out.size; omega) (fun k hk => by have := hown k hk; omega)
              have hsn := hg1.size
              refine NoPanic.normal ?_
              rw [List.length_append, cellsL_len, orL_len] at *
              have hOn := HO1.setCell_below (a := ⟨w.heap.size, 2, none⟩) (by simp only []; omega) (.slice A3 (p + [Value.bool b].length) c3)
              go_wp2_with fail
              go_roundw
              case rel => exact ⟨x + 1, A3, c3, by omega, by go_num, by rw [← Nat.add_assoc, ← hp.out]; exact hGn.set_ 2 _, by rw [← Nat.add_assoc, ← hp.out, HS.out]; exact hOn, hBn.setCell (by simp only []; omega) _, by simp; omega⟩
              case measure => simp [intOf]; omega
            · have hdx : decide ((x : Int) < (W : Int)) = false := decide_eq_false (by omega)
              obtain rfl : x = W := by omega
              go_wp2_with fail
              go_roundw
              case rel => exact ⟨y + 1, A2, c2, by omega, by go_num, by rw [Nat.add_mul, Nat.one_mul]; exact HG.out, by rw [Nat.add_mul, Nat.one_mul]; exact HO.out, HB.out, hsz⟩
              case measure => simp [intOf]; omega
        · have hdy : decide ((y : Int) < (H0 : Int)) = false := decide_eq_false (by omega)
          obtain rfl : y = H0 := by omega
          have hOB := HO.out.bools
          rw [orL_len] at hOB
          obtain ⟨A', c', hv, hRd⟩ := hOB
          injection hv with e1 _ e3
          subst e1 e3
          have HRD := Lib.hid hRd
          obtain ⟨c0, c1', c2⟩ := mat_cells HG.out
          have hol : (orL R W (y * W)).length = y * W := orL_len _ _ _
          have hsnd : sndB W y (orL R W (y * W)).length = true := by
            rw [hol]
            have := Nat.mul_le_mul hW2 hH02
            exact decide_eq_true ⟨by omega, by omega, by omega, by omega, by rw [← Int.natCast_mul]; omega, by rw [Int.natCast_mul, Int.mul_comm]⟩
          have HSND := Lib.hid hsnd
          obtain ⟨D0, hD0⟩ : ∃ D0, Hid (D0 = orL R W (y * W)) := ⟨_, Lib.hid rfl⟩
          rw [← hD0.out] at HRD HSND hol
          have HOL := Lib.hid hol
          clear hRd hsnd hol HO
          go_wp2_with fail
          rw [← HOL.out]
          refine (trimmed_any W y A1 D0 c1 _ HRD.out HSND.out).mono ?_
          rintro e w2 ⟨v, rfl, hTr, hB2⟩
          have HB2 := Lib.hid (HB.out.trans (hB2.mono HB.out.size))
          have hs2 : w.heap.size + 1 ≤ w2.heap.size := by have := hB2.size; omega
          clear hB2 c0 c1' c2 HG
          unfold TrmR at hTr
          rcases hTr with ⟨hP, rfl⟩ | ⟨f, l, A3, c3, hf, hl2, rfl, hR3⟩
          · unfold matA
            go_wp2_with fail
            have HB3 := Lib.hid (HB2.out.alloc (by omega) (.cells (matA 0 0 none 0 0) 24))
            unfold matA at HB3
            refine (example_any _).mono ?_
            rintro e w9 ⟨rfl, hB9⟩
            have HB9 := Lib.hid (HB3.out.trans (hB9.mono HB3.out.size))
            go_wp2_with fail
            go_ret
            exact ⟨rfl, HB9.out⟩
          · obtain ⟨bb, L, E, hdk, hsE, hends⟩ := HF.out
            rw [HLE.out] at hdk hends
            rw [HOL.out] at hf hl2
            rw [hD0.out] at hf hl2
            obtain ⟨hne, hsame⟩ := hends f l hf hl2
            have HDK := Lib.hid hdk
            have HSE := Lib.hid hsE
            have HNE := Lib.hid hne
            have HSAME := Lib.hid hsame
            rw [hD0.out] at hR3
            have HR3 := Lib.hid hR3
            rw [hD0.out]
            have hlb := (dks_lt hl2).1
            obtain ⟨LW, hLW⟩ : ∃ LW, Hid (LW = crL (orL R W (y * W)) (f / W * W) ((l / W - f / W + 1) * W)) := ⟨_, Lib.hid rfl⟩
            obtain ⟨hh, hhe⟩ : ∃ hh, Hid (hh = l / W - f / W + 1) := ⟨_, Lib.hid rfl⟩
            rw [← hLW.out] at HR3 HSAME ⊢
            rw [← hhe.out] at HSAME ⊢
            clear hdk hsE hends hne hsame hf hl2 hR3 HF HRD HSND HOL
            have hLWb : LW.length ≤ 16777216 := by
              rw [hLW.out, crL_len]
              have hyW := Nat.mul_le_mul hH02 hW2
              have h1 : l / W ≤ l := Nat.div_le_self _ _
              have h2 := Nat.mul_le_mul (show l / W - f / W + 1 ≤ 1201 from Nat.succ_le_succ (Nat.le_trans (Nat.sub_le _ _) (by omega))) hW2
              omega
            clear hlb
            have hs2' : w2.heap.size + 1 = (w2.alloc (.cells (matA W hh A3 LW.length c3) 24)).heap.size := by simp
            unfold matA
            go_wp2_with fail
            obtain ⟨w3, hu, HW3, HB3, hs3⟩ : ∃ u, u = w2.alloc (.cells (matA W hh A3 LW.length c3) 24) ∧ Hid (Mat u (w.heap.size + 1) w2.heap.size W hh A3 c3 LW) ∧ Hid (Below w.heap.size w u) ∧ w2.heap.size + 1 = u.heap.size :=
              ⟨_, rfl, Lib.hid (Mat.new HR3.out hs2), Lib.hid (HB2.out.alloc HB2.out.size _), hs2'⟩
            unfold matA at hu
            rw [← hu]
            clear hu HR3 HB2 hs2'
            generalize w2.heap.size = g15 at *
            refine (refshift_int 0 W n d (by omega) (by omega) (by omega) (by omega) (by omega) (by omega) _).mono ?_
            rintro e w4 ⟨rfl, rfl⟩
            rw [Int.toNat_zero]
            go_wp2_with fail
            refine (refshift_int ((W - 1 : Nat) : Int) W n d (by omega) (by omega) (by omega) (by omega) (by omega) (by omega) _).mono ?_
            rintro e w4 ⟨rfl, rfl⟩
            rw [Int.toNat_natCast]
            obtain ⟨H1, hH1e⟩ : ∃ H1, Hid (H1 = y + T) := ⟨_, Lib.hid rfl⟩
            have hH1c : (y : Int) + (T : Int) = (H1 : Int) := by rw [hH1e.out]; omega
            have hH1b : H1 ≤ 510 := by rw [hH1e.out]; omega
            have hH11 : 1 ≤ H1 := by rw [hH1e.out]; omega
            go_wp2_with fail
            obtain ⟨u0, hu, HG0, HO0, HB0, hs0⟩ : ∃ u, u = w3.alloc (.cells #[.int .i64 W, .int .i64 H1, .slice none 0 0] 24) ∧ Hid (Blk u w3.heap.size 24 (matA W H1 none 0 0)) ∧ Hid (OwnV u (w3.heap.size + 1) 4 (.slice none 0 0) (cellsL (mvL R W n d 0))) ∧ Hid (Below w3.heap.size w3 u) ∧ u.heap.size = w3.heap.size + 1 :=
              ⟨_, rfl, Lib.hid (Blk.new w3 24 _), Lib.hid (by unfold mvL; exact OwnV.nil _ _ _), Lib.hid ((Below.refl _ _).alloc (Nat.le_refl _) _), by simp⟩
            rw [← hu]
            clear hu
            obtain ⟨g, hg⟩ : ∃ g, Hid (g = w3.heap.size) := ⟨_, Lib.hid rfl⟩
            have hgs : g15 < g := by rw [hg.out]; omega
            rw [← hg.out] at HG0 HO0 HB0 hs0
            rw [← hg.out]
            go_loopw [20] (fun vy wr => ∃ z : Nat, ∃ A1 c1, z ≤ H1 ∧ vy = .int .i64 (z : Int) ∧ Blk wr g 24 (matA W H1 A1 (z * W) c1) ∧ OwnV wr (g + 1) 4 (.slice A1 (z * W) c1) (cellsL (mvL R W n d (z * W))) ∧ Below g w3 wr ∧ g + 1 ≤ wr.heap.size) (fun vy _ => H1 - (intOf vy).toNat)
            case atStart => exact ⟨0, none, 0, Nat.zero_le _, rfl, by rw [Nat.zero_mul]; exact HG0.out, by rw [Nat.zero_mul]; exact HO0.out, HB0.out, by omega⟩
            case round =>
              clear HG0 HO0 HB0 hs0
              obtain ⟨z, A1, c1, hzh, rfl, hG, hO, hB, hsz⟩ := hrel
              have HG := Lib.hid hG
              have HO := Lib.hid hO
              have HB := Lib.hid hB
              obtain ⟨m0, m1, m2⟩ := mat_cells hG
              clear hG hO hB
              by_cases hlt : z < H1
              · have hdz : decide ((z : Int) < (H1 : Int)) = true := decide_eq_true (by omega)
                go_wp2_with fail
                clear m0 m1 m2
                go_loopw [21] (fun vx wv => ∃ x : Nat, ∃ A2 c2, x ≤ W ∧ vx = .int .i64 (x : Int) ∧ Blk wv g 24 (matA W H1 A2 (z * W + x) c2) ∧ OwnV wv (g + 1) 4 (.slice A2 (z * W + x) c2) (cellsL (mvL R W n d (z * W + x))) ∧ Below g w3 wv ∧ g + 1 ≤ wv.heap.size) (fun vx _ => W - (intOf vx).toNat)
                case atStart => exact ⟨0, A1, c1, Nat.zero_le _, rfl, HG.out, HO.out, HB.out, hsz⟩
                case round =>
                  clear HG HO HB hsz
                  obtain ⟨x, A2, c2, hxW, rfl, hG, hO, hB, hsz⟩ := hrel
                  have HG := Lib.hid hG
                  have HO := Lib.hid hO
                  have HB := Lib.hid hB
                  clear hG hO hB
                  by_cases hlx : x < W
                  · have hdx : decide ((x : Int) < (W : Int)) = true := decide_eq_true (by omega)
                    go_wp2_with fail
                    refine (refshift_any x W n d hlx (by omega) (by omega) (by omega) (by omega) _).mono ?_
                    rintro e w4 ⟨rfl, rfl⟩
                    obtain ⟨s, hs⟩ : ∃ s, Hid (s = Skew.sh W n d x) := ⟨_, Lib.hid rfl⟩
                    have hsT : s ≤ T := by rw [hs.out, hTe.out]; exact Skew.sh_le (by omega) hlx
                    rw [← hs.out]
                    have hpb : z * W + x < 510 * W := by
                      have := Nat.mul_le_mul (show z + 1 ≤ 510 by omega) (Nat.le_refl W)
                      rw [Nat.add_mul] at this; omega
                    have HS := Lib.hid (mvL_succ (R := R) (y := z) (d := d) (n := n) hlx)
                    obtain ⟨p, hp⟩ : ∃ p, Hid (p = z * W + x) := ⟨_, Lib.hid rfl⟩
                    rw [← hp.out] at hpb HO HG HS
                    obtain ⟨b, hbb⟩ : ∃ b, Hid (b = mvB R W n d z x) := ⟨_, Lib.hid rfl⟩
                    rw [← hbb.out] at HS
                    by_cases hin : T ≤ z + s
                    · obtain ⟨idx, hidx⟩ : ∃ idx, Hid (idx = z + s - T) := ⟨_, Lib.hid rfl⟩
                      have hfr : (z : Int) - (T : Int) + (s : Int) = (idx : Int) := by have := hidx.out; omega
                      have hfd1 : decide ((0 : Int) ≤ (idx : Int)) = true := decide_eq_true (by omega)
                      have hbv : Hid (b = R.getD idx false) := Lib.hid (by rw [hbb.out]; exact mvB_in hTe.out hs.out hin hidx.out)
                      by_cases hiy : idx < y
                      · have hfd2 : decide ((idx : Int) < (y : Int)) = true := decide_eq_true (by omega)
                        have hi0 : (0 : Int) ≤ (idx : Int) := by omega
                        have hi1 : (idx : Int) < (y : Int) := by omega
                        go_wp2_with fail
                        obtain ⟨ad, rfl, _⟩ := (HR.out).at_ (show idx < R.length by rw [HLE.out]; exact hiy)
                        have K : ∀ w', Below wr.heap.size wr w' → w'.cell? (ad.add idx) = some (.bool b) ∧ w'.cell? ⟨g, 2, none⟩ = some (.slice A2 p c2) := fun w' hb => by
                          have hw3 := HB3.out
                          have hB3 := HB.out
                          rw [hg.out] at hB3
                          obtain ⟨ad', e, hc⟩ := (((HR.out.below hw3 (Nat.le_refl _)).below hB3 (Nat.le_refl _)).below hb (Nat.le_refl _)).at_ (show idx < R.length by rw [HLE.out]; exact hiy)
                          injection e with e
                          subst e
                          rw [← hbv.out] at hc
                          exact ⟨hc, blk_cell (HG.out.below hb (by omega)) 2 _ rfl⟩
                        have HK := Lib.hid K
                        have hBC : Below wr.heap.size wr wr.drew := (Below.refl _ _).drew
                        clear K
                        refine wp_region_seq (S := fun w' => Below wr.heap.size wr w') 17 [(0, true), (1, true), (2, true), (3, true), (4, true), (5, true), (6, true), (7, true), (8, true), (9, true), (10, true), (11, true), (12, true), (13, true), (14, true), (15, true), (16, false)] (by kernel_rfl) rfl (by kernel_rfl) hBC ?_
                        generalize wr.drew = wd at hBC ⊢
                        simp only [List.map_cons, List.map_nil, List.getD_cons_succ, List.getD_cons_zero, List.drop_succ_cons, List.drop_zero]
                        iterate 16
                          refine wpSeq_take (v := ?_) (by rfl) ?_ ?_
                          rotate_left
                          · intro w' hw'
                            obtain ⟨k1, k2⟩ := HK.out w' hw'
                            go_simp
                            try with_reducible rfl
                          simp only [Act.put, List.setIfInBounds_toArray, List.set_cons_zero, List.set_cons_succ]
                        refine wpSeq_step fun K hK => ?_
                        go_simp
                        refine hK.out _ _ (hBC.alloc hBC.size _) ?_
                        clear hK K
                        try simp only [Act.put, List.setIfInBounds_toArray, List.set_cons_zero, List.set_cons_succ]
                        refine wpSeq_nil ?_
                        have hown : ∀ k, (Value.slice A2 p c2).ownBlock = some k → g + 1 ≤ k := HO.out.base_
                        have h9 := hBC.size
                        go_wp2_with (at_builtin; refine wpList_app1V rfl _ _ 22 rfl (g + 1) 4 (.bool false) 1 Try.underlying22 info4 rfl (by decide) _ _ rfl (HO.out.below hBC) _ (.bool b) rfl rfl rfl (by rw [cellsL_len, mvL_len]; omega) (by omega) ?_; intro v1 wn HO1 hg1 hat1; obtain ⟨A3, c3, rfl⟩ := HO1.slice; have hGn := (HG.out.below hBC (by omega)).grown hg1 (fun e => by have := hown _ e.symm; omega); have hfn := hGn.frozen 2; have hcn : wn.cell? ⟨g, 2, none⟩ = some (.slice A2 p c2) := blk_cell hGn 2 _ rfl)
                        have hBn := (HB.out.trans (hBC.mono (by have := HB.out.size; omega))).grown hg1 (by have := HB.out.size; omega) (fun k hk => by have := hown k hk; omega)
                        have hsn := hg1.size
                        refine NoPanic.normal ?_
                        rw [List.length_append, cellsL_len, mvL_len] at *
                        have hOn := HO1.setCell_below (a := ⟨g, 2, none⟩) (by simp only []; omega) (.slice A3 (p + [Value.bool b].length) c3)
                        go_wp2_with fail
                        go_roundw
                        case rel => exact ⟨x + 1, A3, c3, by omega, by go_num, by rw [← Nat.add_assoc, ← hp.out]; exact hGn.set_ 2 _, by rw [← Nat.add_assoc, ← hp.out, HS.out]; exact hOn, hBn.setCell (by simp only []; omega) _, by simp; omega⟩
                        case measure => simp [intOf]; omega
                      · have hfd2 : decide ((idx : Int) < (y : Int)) = false := decide_eq_false (by omega)
                        have hbf : b = false := by rw [hbv.out]; exact getD_ge (by rw [HLE.out]; omega)
                        subst hbf
                        go_wp2_with fail
                        have K : ∀ w', Below wr.heap.size wr w' → w'.cell? ⟨g, 2, none⟩ = some (.slice A2 p c2) := fun w' hb => blk_cell (HG.out.below hb (by omega)) 2 _ rfl
                        have HK := Lib.hid K
                        have hBC : Below wr.heap.size wr wr.drew := (Below.refl _ _).drew
                        clear K
                        refine wp_region_seq (S := fun w' => Below wr.heap.size wr w') 17 [(0, true), (1, true), (2, true), (3, true), (4, true), (5, true), (6, true), (7, true), (8, true), (9, true), (10, true), (11, true), (12, true), (13, true), (14, true), (15, true), (16, false)] (by kernel_rfl) rfl (by kernel_rfl) hBC ?_
                        generalize wr.drew = wd at hBC ⊢
                        simp only [List.map_cons, List.map_nil, List.getD_cons_succ, List.getD_cons_zero, List.drop_succ_cons, List.drop_zero]
                        iterate 11
                          refine wpSeq_take (v := ?_) (by rfl) ?_ ?_
                          rotate_left
                          · intro w' hw'
                            have k2 := HK.out w' hw'
                            go_simp
                            try with_reducible rfl
                          simp only [Act.put, List.setIfInBounds_toArray, List.set_cons_zero, List.set_cons_succ]
                        iterate 4
                          refine wpSeq_idle (by rfl) ?_
                          simp only [Act.put, List.setIfInBounds_toArray, List.set_cons_zero, List.set_cons_succ]
                        iterate 1
                          refine wpSeq_take (v := ?_) (by rfl) ?_ ?_
                          rotate_left
                          · intro w' hw'
                            have k2 := HK.out w' hw'
                            go_simp
                            try with_reducible rfl
                          simp only [Act.put, List.setIfInBounds_toArray, List.set_cons_zero, List.set_cons_succ]
                        refine wpSeq_step fun K hK => ?_
                        go_simp
                        refine hK.out _ _ (hBC.alloc hBC.size _) ?_
                        clear hK K
                        try simp only [Act.put, List.setIfInBounds_toArray, List.set_cons_zero, List.set_cons_succ]
                        refine wpSeq_nil ?_
                        have hown : ∀ k, (Value.slice A2 p c2).ownBlock = some k → g + 1 ≤ k := HO.out.base_
                        have h9 := hBC.size
                        go_wp2_with (at_builtin; refine wpList_app1V rfl _ _ 22 rfl (g + 1) 4 (.bool false) 1 Try.underlying22 info4 rfl (by decide) _ _ rfl (HO.out.below hBC) _ (.bool false) rfl rfl rfl (by rw [cellsL_len, mvL_len]; omega) (by omega) ?_; intro v1 wn HO1 hg1 hat1; obtain ⟨A3, c3, rfl⟩ := HO1.slice; have hGn := (HG.out.below hBC (by omega)).grown hg1 (fun e => by have := hown _ e.symm; omega); have hfn := hGn.frozen 2; have hcn : wn.cell? ⟨g, 2, none⟩ = some (.slice A2 p c2) := blk_cell hGn 2 _ rfl)
                        have hBn := (HB.out.trans (hBC.mono (by have := HB.out.size; omega))).grown hg1 (by have := HB.out.size; omega) (fun k hk => by have := hown k hk; omega)
                        have hsn := hg1.size
                        refine NoPanic.normal ?_
                        rw [List.length_append, cellsL_len, mvL_len] at *
                        have hOn := HO1.setCell_below (a := ⟨g, 2, none⟩) (by simp only []; omega) (.slice A3 (p + [Value.bool false].length) c3)
                        go_wp2_with fail
                        go_roundw
                        case rel => exact ⟨x + 1, A3, c3, by omega, by go_num, by rw [← Nat.add_assoc, ← hp.out]; exact hGn.set_ 2 _, by rw [← Nat.add_assoc, ← hp.out, HS.out]; exact hOn, hBn.setCell (by simp only []; omega) _, by simp; omega⟩
                        case measure => simp [intOf]; omega
                    · obtain ⟨fr, hfr⟩ : ∃ fr : Int, (z : Int) - (T : Int) + (s : Int) = fr := ⟨_, rfl⟩
                      have hfd1 : decide ((0 : Int) ≤ fr) = false := decide_eq_false (by omega)
                      have hbf : b = false := by rw [hbb.out]; exact mvB_out hTe.out hs.out (by omega)
                      subst hbf
                      go_wp2_with fail
                      have K : ∀ w', Below wr.heap.size wr w' → w'.cell? ⟨g, 2, none⟩ = some (.slice A2 p c2) := fun w' hb => blk_cell (HG.out.below hb (by omega)) 2 _ rfl
                      have HK := Lib.hid K
                      have hBC : Below wr.heap.size wr wr.drew := (Below.refl _ _).drew
                      clear K
                      refine wp_region_seq (S := fun w' => Below wr.heap.size wr w') 17 [(0, true), (1, true), (2, true), (3, true), (4, true), (5, true), (6, true), (7, true), (8, true), (9, true), (10, true), (11, true), (12, true), (13, true), (14, true), (15, true), (16, false)] (by kernel_rfl) rfl (by kernel_rfl) hBC ?_
                      generalize wr.drew = wd at hBC ⊢
                      simp only [List.map_cons, List.map_nil, List.getD_cons_succ, List.getD_cons_zero, List.drop_succ_cons, List.drop_zero]
                      iterate 5
                        refine wpSeq_take (v := ?_) (by rfl) ?_ ?_
                        rotate_left
                        · intro w' hw'
                          have k2 := HK.out w' hw'
                          go_simp
                          try with_reducible rfl
                        simp only [Act.put, List.setIfInBounds_toArray, List.set_cons_zero, List.set_cons_succ]
                      iterate 4
                        refine wpSeq_idle (by rfl) ?_
                        simp only [Act.put, List.setIfInBounds_toArray, List.set_cons_zero, List.set_cons_succ]
                      iterate 2
                        refine wpSeq_take (v := ?_) (by rfl) ?_ ?_
                        rotate_left
                        · intro w' hw'
                          have k2 := HK.out w' hw'
                          go_simp
                          try with_reducible rfl
                        simp only [Act.put, List.setIfInBounds_toArray, List.set_cons_zero, List.set_cons_succ]
                      iterate 4
                        refine wpSeq_idle (by rfl) ?_
                        simp only [Act.put, List.setIfInBounds_toArray, List.set_cons_zero, List.set_cons_succ]
                      iterate 1
                        refine wpSeq_take (v := ?_) (by rfl) ?_ ?_
                        rotate_left
                        · intro w' hw'
                          have k2 := HK.out w' hw'
                          go_simp
                          try with_reducible rfl
                        simp only [Act.put, List.setIfInBounds_toArray, List.set_cons_zero, List.set_cons_succ]
                      refine wpSeq_step fun K hK => ?_
                      go_simp
                      refine hK.out _ _ (hBC.alloc hBC.size _) ?_
                      clear hK K
                      try simp only [Act.put, List.setIfInBounds_toArray, List.set_cons_zero, List.set_cons_succ]
                      refine wpSeq_nil ?_
                      have hown : ∀ k, (Value.slice A2 p c2).ownBlock = some k → g + 1 ≤ k := HO.out.base_
                      have h9 := hBC.size
                      go_wp2_with (at_builtin; refine wpList_app1V rfl _ _ 22 rfl (g + 1) 4 (.bool false) 1 Try.underlying22 info4 rfl (by decide) _ _ rfl (HO.out.below hBC) _ (.bool false) rfl rfl rfl (by rw [cellsL_len, mvL_len]; omega) (by omega) ?_; intro v1 wn HO1 hg1 hat1; obtain ⟨A3, c3, rfl⟩ := HO1.slice; have hGn := (HG.out.below hBC (by omega)).grown hg1 (fun e => by have := hown _ e.symm; omega); have hfn := hGn.frozen 2; have hcn : wn.cell? ⟨g, 2, none⟩ = some (.slice A2 p c2) := blk_cell hGn 2 _ rfl)
                      have hBn := (HB.out.trans (hBC.mono (by have := HB.out.size; omega))).grown hg1 (by have := HB.out.size; omega) (fun k hk => by have := hown k hk; omega)
                      have hsn := hg1.size
                      refine NoPanic.normal ?_
                      rw [List.length_append, cellsL_len, mvL_len] at *
                      have hOn := HO1.setCell_below (a := ⟨g, 2, none⟩) (by simp only []; omega) (.slice A3 (p + [Value.bool false].length) c3)
                      go_wp2_with fail
                      go_roundw
                      case rel => exact ⟨x + 1, A3, c3, by omega, by go_num, by rw [← Nat.add_assoc, ← hp.out]; exact hGn.set_ 2 _, by rw [← Nat.add_assoc, ← hp.out, HS.out]; exact hOn, hBn.setCell (by simp only []; omega) _, by simp; omega⟩
                      case measure => simp [intOf]; omega
                  · have hdx : decide ((x : Int) < (W : Int)) = false := decide_eq_false (by omega)
                    obtain rfl : x = W := by omega
                    go_wp2_with fail
                    go_roundw
                    case rel => exact ⟨z + 1, A2, c2, by omega, by go_num, by rw [Nat.add_mul, Nat.one_mul]; exact HG.out, by rw [Nat.add_mul, Nat.one_mul]; exact HO.out, HB.out, hsz⟩
                    case measure => simp [intOf]; omega
              · have hdz : decide ((z : Int) < (H1 : Int)) = false := decide_eq_false (by omega)
                obtain rfl : z = H1 := by omega
                have hOB := HO.out.bools
                rw [mvL_len] at hOB
                obtain ⟨A', c', hv, hRd⟩ := hOB
                injection hv with e1 _ e3
                subst e1 e3
                obtain ⟨D1, hD1⟩ : ∃ D1, Hid (D1 = mvL R W n d (z * W)) := ⟨_, Lib.hid rfl⟩
                rw [← hD1.out] at hRd
                have HRD := Lib.hid hRd
                have HML := Lib.hid (show D1.length = z * W by rw [hD1.out, mvL_len])
                have hB3 : Below w3.heap.size w3 wr := by have h := HB.out; rw [hg.out] at h; exact h
                have HBA := Lib.hid hB3
                clear hRd hB3 HG HO HB
                go_wp2_with fail
                rw [← HML.out]
                clear m0 m1 m2
                refine (deskew_any W z A1 D1 c1 12 d _ HRD.out).mono ?_
                rintro e w5 ⟨v, rfl, hMR, hB5⟩
                obtain ⟨A5, c5, rfl, hR5⟩ := MatR3.elim (x := W) (y := L) (D := E) (e := 0) (b := bb) hMR (by rw [hD1.out, hH1e.out, hTe.out]; exact HDK.out)
                have HR5 := Lib.hid hR5
                have hB35 := HBA.out.trans (hB5.mono HBA.out.size)
                have HW5 := Lib.hid (HW3.out.below hB35)
                have HB5 := Lib.hid (HB3.out.trans (hB35.mono HB3.out.size))
                have hs5 : w.heap.size + 1 ≤ w5.heap.size := by have := hB35.size; omega
                clear hMR hR5 hB35 hB5 HW3 HB3 HBA HRD
                unfold matA
                go_wp2_with fail
                obtain ⟨w6, hu, HR6, HW6, HB6, hs6⟩ : ∃ u, u = w5.alloc (.cells (matA W L A5 E.length c5) 24) ∧ Hid (RdB u A5 E) ∧ Hid (Mat u (w.heap.size + 1) g15 W hh A3 c3 LW) ∧ Hid (Below w.heap.size w u) ∧ w.heap.size + 1 ≤ u.heap.size :=
                  ⟨_, rfl, Lib.hid (HR5.out.below ((Below.refl _ _).alloc (Nat.le_refl _) _) (Nat.le_refl _)), Lib.hid (HW5.out.alloc _), Lib.hid (HB5.out.alloc HB5.out.size _), by simp; omega⟩
                unfold matA at hu
                rw [← hu]
                clear hu HR5 HW5 HB5
                refine (trimmed_any W L A5 E c5 _ HR6.out HSE.out).mono ?_
                rintro e w7 ⟨v, rfl, hTr, hB7⟩
                unfold TrmR at hTr
                rcases hTr with ⟨hP, rfl⟩ | ⟨f', l', A7, c7, hf', hl', rfl, hR7⟩
                · exact absurd hP HNE.out
                · obtain ⟨hx1, hx2⟩ := HSAME.out f' l' hf' hl'
                  rw [hx1] at hR7 ⊢
                  rw [hx2] at hR7 ⊢
                  have HR7 := Lib.hid hR7
                  have HW7 := Lib.hid (HW6.out.below hB7)
                  have HB7 := Lib.hid (HB6.out.trans (hB7.mono HB6.out.size))
                  have hs7 : w.heap.size + 1 ≤ w7.heap.size := by have := hB7.size; omega
                  clear hx1 hx2 hf' hl' hR7 hB7 HR6 HW6 HB6
                  have yy := fun o => mat_cells (HW7.out.alloc o).1
                  have y0 := fun o => (yy o).1
                  have y1 := fun o => (yy o).2.1
                  have y2 := fun o => (yy o).2.2
                  clear yy
                  unfold matA
                  go_wp2_with fail
                  clear y0 y1 y2
                  obtain ⟨w8, hu, HV8, HW8, HB8⟩ : ∃ u, u = w7.alloc (.cells (matA W hh A7 LW.length c7) 24) ∧ Hid (Mat u (w.heap.size + 1) w7.heap.size W hh A7 c7 LW) ∧ Hid (Mat u (w.heap.size + 1) g15 W hh A3 c3 LW) ∧ Hid (Below w.heap.size w u) :=
                    ⟨_, rfl, Lib.hid (Mat.new HR7.out hs7), Lib.hid (HW7.out.alloc _), Lib.hid (HB7.out.alloc HB7.out.size _)⟩
                  unfold matA at hu
                  rw [← hu]
                  clear hu HR7 HW7 HB7
                  refine (equal_any _ _ _ _ _ _ _ _ _ _ _ HV8.out.2.1 HW8.out.2.1 (by omega)).mono ?_
                  rintro e w10 ⟨rfl, hB⟩
                  rw [eqB_self]
                  have HB10 := Lib.hid (HB8.out.trans (hB.mono HB8.out.size))
                  clear hB
                  go_wp2_with fail
                  refine (example_any _).mono ?_
                  rintro e w9 ⟨rfl, hB9⟩
                  have HB9 := Lib.hid (HB10.out.trans (hB9.mono HB10.out.size))
                  go_wp2_with fail
                  go_ret
                  exact ⟨rfl, HB9.out⟩
set_option maxRecDepth 100000 in
theorem lifted (os : Os) (started : os.Started) (H : Type) (enc : TypeId × Value → H) :
    ReturnsInHanded {} Try.checked os 7 .any (Rows.skewCorrectsSpec.pre6 enc Try.prog Try.f7 Rows.skewCorrectsRow.domain false) (Rows.skewCorrectsSpec.post enc Try.prog Try.f7 false true false false) := by
  refine returnsInHanded_of_change (C := Try.checked) own started (by kernel_rfl) Try.func7
    (ChangeSpec.witness6 (enc := enc) (C := Try.checked) false ⟨#[], #[.slice none 0 0, .int .u8 0, .int .i8 0, .int .u8 0], []⟩ 8 (by kernel_rfl) (by kernel_rfl) (by kernel_rfl) (by kernel_rfl)) ?_
  intro W base args ds gs before hval0 hW hcnd _
  have hval : ∀ (j : Nat) t v, Try.f7.params[j]? = some t → args[j]? = some v → Value.okWide Try.prog W .any base t v := hval0
  have hW' := hW
  obtain ⟨p, q, hA0, hV, rfl, hfz, hnd⟩ := hW
  have hA : DataW.TrodAll enc Try.prog W 0 (fun _ => true) true Try.f7.params.toList args.toList ds p := hA0
  rw [Try.params7] at hA hval
  obtain ⟨v0, vs0, d0, ds0, p0, q0, hargs, rfl, rfl, h0, r0⟩ := trodAll_cons hA
  obtain ⟨v1, vs1, d1, ds1, p1, q1, rfl, rfl, rfl, h1, r1⟩ := trodAll_cons r0
  obtain ⟨v2, vs2, d2, ds2, p2, q2, rfl, rfl, rfl, h2, r2⟩ := trodAll_cons r1
  obtain ⟨v3, vs3, d3, ds3, p3, q3, rfl, rfl, rfl, h3, r3⟩ := trodAll_cons r2
  obtain ⟨rfl, rfl, rfl⟩ := trodAll_nil r3
  obtain rfl : args = #[v0, v1, v2, v3] := by cases args; simp_all
  obtain ⟨rfl, rfl⟩ := trodVars_none hV
  have k0 := h0
  have lt0 : ∀ x ∈ p0, x.block < W.heap.size := by obtain ⟨m, hm⟩ := k0; exact DataW.trod_lt m _ _ _ hm
  obtain ⟨A, R, c, hv, hr, hl⟩ := open_rows (hval 0 22 v0 rfl rfl) h0
  clear h0
  subst hv
  obtain ⟨a1, rfl, rfl, rfl, w1⟩ := open_int Try.underlying5 (hval 1 5 v1 rfl rfl) h1
  obtain ⟨a2, rfl, rfl, rfl, w2⟩ := open_int Try.underlying36 (hval 2 36 v2 rfl rfl) h2
  obtain ⟨a3, rfl, rfl, rfl, w3⟩ := open_int Try.underlying5 (hval 3 5 v3 rfl rfl) h3
  clear hA0 hval0
  refine (walk A R c a1 a2 a3 W hr hl w1 w2 w3).mono fun e W' ⟨he, bel⟩ => ?_
  subst he
  exact ⟨_, rfl, _, _, _, [], _, [], hW', trodAll_mk1 (shut_bool Try.underlying4 _), (trodAll_cons_mk (Below.trod laidOut (by kernel_rfl) (of_decide_eq_true (by kernel_rfl)) k0 bel lt0) (trodAll_cons_mk (shut_int Try.underlying5 w1) (trodAll_cons_mk (shut_int Try.underlying36 w2) (trodAll_cons_mk (shut_int Try.underlying5 w3) trodAll_mk0)))), rfl, bel.frame _, fun h => by cases h⟩
theorem over : Rows.skewCorrectsRow.holds Try.pinned (OpenSpec.ofChange Rows.skewCorrectsSpec) :=
  OpenClaim.holds_of_wide 7 Try.f7 rfl rfl rfl rfl rfl rfl rfl ⟨rfl, rfl, rfl, rfl, rfl⟩ rfl rfl rfl rfl rfl (by kernel_rfl) Try.func7 (by kernel_rfl)
    (of_decide_eq_true (by kernel_rfl)) (by unfold Func.isWrapper; first | (rw [if_pos (by decide +kernel)]; kernel_rfl) | (rw [if_neg (by decide +kernel)]; exact ⟨rfl, rfl⟩))
    (fun os started H enc _ => lifted os started H enc)
end Go.Proofs.Yticbpifgjjcjmaa.skewCorrects
namespace Go.Proofs.Yticbpifgjjcjmaa
theorem skewcorrects_holds : Rows.SkewCorrectsSaid := skewCorrects.over
end Go.Proofs.Yticbpifgjjcjmaa
#print axioms Go.Proofs.Yticbpifgjjcjmaa.skewcorrects_holds
