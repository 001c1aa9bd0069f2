/- The law SkewMaximal: no numerator has a greater energy than the estimated one, and none with the same energy a smaller absolute value; the chapter's examples hold. -/
import Derived.Test.YticbpifgjjcjmaaExa
import Derived.Test.YticbpifgjjcjmaaMax
import Derived.Test.YticbpifgjjcjmaaArg
import Derived.Test.YticbpifgjjcjmaaRows
import Derived.WalkKit
import Derived.ProofKit
import Derived.OpenShut
import Derived.ShutString
import Derived.ChangeOld
import Derived.Below
namespace Go.Proofs.Yticbpifgjjcjmaa.skewMaximal
open Go.ChangeShapes Go.WideShapes Go.ChangeAt Go.RowKit
open Go.ChangeMaps (open_string shut_string)
set_option linter.unusedVariables false
theorem own : ownKnob Try.prog.godebug = none := by kernel_rfl
theorem laidOut : laidOutB Try.prog = true := by kernel_rfl
attribute [local go_sem] max2_int min2_int max_two min_two
set_option maxRecDepth 100000 in
set_option maxHeartbeats 2000000 in
theorem walk (x0 x1 : Int) (A : Option Addr) (D : List Bool) (c : Nat) (a1 : Int) (a2 : Int) (a3 : Int) (w : World) (hr : RdB w A D) (hl : D.length ≤ 9223372036854775807) (w1 : (Lit.int .u8 a1).wf = true) (w2 : (Lit.int .u16 a2).wf = true) (w3 : (Lit.int .i8 a3).wf = true) :
    Calls Try.prog 8 #[.agg (matA x0 x1 A D.length c), .int .u8 a1, .int .u16 a2, .int .i8 a3] w fun e w' => e = .returned (.bool true) ∧ Below w.heap.size w w' := by
  have HR := Lib.hid hr
  clear hr
  have hw1 : 0 ≤ a1 ∧ a1 < 256 := by simp [Lit.wf, IntKind.min, IntKind.max, IntKind.signed, IntKind.bits] at w1; omega
  have hw2 : 0 ≤ a2 ∧ a2 < 65536 := by simp [Lit.wf, IntKind.min, IntKind.max, IntKind.signed, IntKind.bits] at w2; omega
  have hw3 : -128 ≤ a3 ∧ a3 < 128 := by simp [Lit.wf, IntKind.min, IntKind.max, IntKind.signed, IntKind.bits] at w3; omega
  clear w1 w2 w3
  obtain ⟨m, rfl⟩ : ∃ m : Nat, a1 = m := ⟨a1.toNat, by omega⟩
  obtain ⟨q, rfl⟩ : ∃ q : Nat, a2 = q := ⟨a2.toNat, by omega⟩
  have tm : (m : Int).tmod 21 = ((m % 21 : Nat) : Int) := (Int.ofNat_tmod m 21).symm
  have tq : (q : Int).tmod 4096 = ((q % 4096 : Nat) : Int) := (Int.ofNat_tmod q 4096).symm
  have hk := Nat.mod_lt m (show 0 < 21 by omega)
  have hq := Nat.mod_lt q (show 0 < 4096 by omega)
  generalize m % 21 = k at *
  generalize q % 4096 = r at *
  unfold matA
  by_cases hf : 600 < D.length
  · have hd : decide (600 < (D.length : Int)) = true := decide_eq_true (by omega)
    have hd' : decide (600 < D.length) = true := decide_eq_true hf
    go_enter Try.func8, Try.ntmps8
    go_wp2_with (refine wpList_box rfl 24 _ rfl _ rfl ?_; intro w1 hb1 hB1 hz1; have hb1 : Blk w1 w.heap.size 24 (matA x0 x1 A D.length c) := hb1; obtain ⟨c0, c1, c2⟩ := mat_cells hb1; have H1 := Lib.hid hz1; clear hz1)
    have HB2 := Lib.hid hB1
    go_wp2_with fail
    refine (example_any _).mono ?_
    rintro e w5 ⟨rfl, hB5⟩
    have HB5 := Lib.hid (HB2.out.trans (hB5.mono HB2.out.size))
    go_wp2_with fail
    go_ret
    exact ⟨rfl, HB5.out⟩
  · have hd : decide (600 < (D.length : Int)) = false := decide_eq_false (by omega)
    have hd' : decide (600 < D.length) = false := decide_eq_false hf
    cases hs : sndB x0 x1 D.length
    · go_enter Try.func8, Try.ntmps8
      go_wp2_with (refine wpList_box rfl 24 _ rfl _ rfl ?_; intro w1 hb1 hB1 hz1; have hb1 : Blk w1 w.heap.size 24 (matA x0 x1 A D.length c) := hb1; obtain ⟨c0, c1, c2⟩ := mat_cells hb1; have H1 := Lib.hid hz1; clear hz1)
      refine (refcheck_any x0 x1 A D.length c _).mono ?_
      rintro e w2 ⟨rfl, hB2⟩
      rw [hs]
      have HB2 := Lib.hid (hB1.trans (hB2.mono (by have := H1.out; omega)))
      go_wp2_with fail
      refine (example_any _).mono ?_
      rintro e w5 ⟨rfl, hB5⟩
      have HB5 := Lib.hid (HB2.out.trans (hB5.mono HB2.out.size))
      go_wp2_with fail
      go_ret
      exact ⟨rfl, HB5.out⟩
    · by_cases hn : (k : Int) < a3
      · have t1 : decide ((k : Int) < a3) = true := decide_eq_true hn
        
        go_enter Try.func8, Try.ntmps8
        go_wp2_with (refine wpList_box rfl 24 _ rfl _ rfl ?_; intro w1 hb1 hB1 hz1; have hb1 : Blk w1 w.heap.size 24 (matA x0 x1 A D.length c) := hb1; obtain ⟨c0, c1, c2⟩ := mat_cells hb1; have H1 := Lib.hid hz1; clear hz1)
        refine (refcheck_any x0 x1 A D.length c _).mono ?_
        rintro e w2 ⟨rfl, hB2⟩
        rw [hs]
        have HB2 := Lib.hid (hB1.trans (hB2.mono (by have := H1.out; omega)))
        go_wp2_with fail
        refine (example_any _).mono ?_
        rintro e w5 ⟨rfl, hB5⟩
        have HB5 := Lib.hid (HB2.out.trans (hB5.mono HB2.out.size))
        go_wp2_with fail
        go_ret
        exact ⟨rfl, HB5.out⟩
      · have t1 : decide ((k : Int) < a3) = false := decide_eq_false hn
        by_cases hn2 : a3 < 0 - (k : Int)
        · have t2 : decide (a3 < 0 - (k : Int)) = true := decide_eq_true hn2
          have t2' : decide (a3 < -(k : Int)) = true := decide_eq_true (by omega)
          
          go_enter Try.func8, Try.ntmps8
          go_wp2_with (refine wpList_box rfl 24 _ rfl _ rfl ?_; intro w1 hb1 hB1 hz1; have hb1 : Blk w1 w.heap.size 24 (matA x0 x1 A D.length c) := hb1; obtain ⟨c0, c1, c2⟩ := mat_cells hb1; have H1 := Lib.hid hz1; clear hz1)
          refine (refcheck_any x0 x1 A D.length c _).mono ?_
          rintro e w2 ⟨rfl, hB2⟩
          rw [hs]
          have HB2 := Lib.hid (hB1.trans (hB2.mono (by have := H1.out; omega)))
          go_wp2_with fail
          refine (example_any _).mono ?_
          rintro e w5 ⟨rfl, hB5⟩
          have HB5 := Lib.hid (HB2.out.trans (hB5.mono HB2.out.size))
          go_wp2_with fail
          go_ret
          exact ⟨rfl, HB5.out⟩
        · have t2 : decide (a3 < 0 - (k : Int)) = false := decide_eq_false hn2
          have t2' : decide (a3 < -(k : Int)) = false := decide_eq_false (by omega)
          have hes : estS x0 x1 D (k : Int) (1 + (r : Int)) = ((Skew.est x0.toNat D (1 + (r : Int)) k).1, 0) := by
            unfold estS; rw [hs, show mostB (k : Int) (1 + (r : Int)) = true from decide_eq_true (by omega)]; rfl
          obtain ⟨g1, g2, g3, g4⟩ := Skew.est_best x0.toNat D (1 + (r : Int)) k
          have g5 := g4 a3 (by omega) (by omega)
          generalize Skew.est x0.toNat D (1 + (r : Int)) k = b at *
          obtain ⟨b1, b2⟩ := b
          simp only [] at g1 g2 g3 g5
          have he1 : energyS x0 x1 D b1 (1 + (r : Int)) = (b2, 0) := by
            unfold energyS; rw [hs, show posB b1 (1 + (r : Int)) = true from decide_eq_true (by omega), g1]; rfl
          have he2 : energyS x0 x1 D a3 (1 + (r : Int)) = (Skew.energy x0.toNat D a3 (1 + (r : Int)), 0) := by
            unfold energyS; rw [hs, show posB a3 (1 + (r : Int)) = true from decide_eq_true (by omega)]; rfl
          generalize Skew.energy x0.toNat D a3 (1 + (r : Int)) = b3 at *
          have HE0 := Lib.hid hes
          have HE1 := Lib.hid he1
          have HE2 := Lib.hid he2
          have HG := Lib.hid g5
          clear g1 g4 hes he1 he2 g5
          go_enter Try.func8, Try.ntmps8
          go_wp2_with (refine wpList_box rfl 24 _ rfl _ rfl ?_; intro w1 hb1 hB1 hz1; have hb1 : Blk w1 w.heap.size 24 (matA x0 x1 A D.length c) := hb1; obtain ⟨c0, c1, c2⟩ := mat_cells hb1; have H1 := Lib.hid hz1; clear hz1)
          refine (refcheck_any x0 x1 A D.length c _).mono ?_
          rintro e w2 ⟨rfl, hB2⟩
          rw [hs]
          have HB2 := Lib.hid (hB1.trans (hB2.mono (by have := H1.out; omega)))
          have HM2 := Lib.hid (hb1.below hB2 (by have := H1.out; omega))
          have hs2 : w.heap.size + 1 ≤ w2.heap.size := by have := H1.out; have := hB2.size; omega
          clear c0 c1 c2 hB1 hB2 hb1
          obtain ⟨c0, c1, c2⟩ := mat_cells HM2.out
          go_wp2_with fail
          refine (estimate_any x0 x1 A D c (k : Int) (1 + (r : Int)) _ (HR.out.below HB2.out (Nat.le_refl _))).mono ?_
          rintro e w3 ⟨rfl, hB3⟩
          rw [HE0.out]
          have HB3 := Lib.hid (HB2.out.trans (hB3.mono HB2.out.size))
          have HM3 := Lib.hid (HM2.out.below hB3 (by omega))
          have hs3 : w.heap.size + 1 ≤ w3.heap.size := by have := hB3.size; omega
          clear c0 c1 c2 hB3
          obtain ⟨c0, c1, c2⟩ := mat_cells HM3.out
          go_wp2_with fail
          refine (energyx_any x0 x1 A D c b1 (1 + (r : Int)) _ (HR.out.below HB3.out (Nat.le_refl _))).mono ?_
          rintro e w4 ⟨rfl, hB4⟩
          rw [HE1.out]
          have HB4 := Lib.hid (HB3.out.trans (hB4.mono HB3.out.size))
          have HM4 := Lib.hid (HM3.out.below hB4 (by omega))
          have hs4 : w.heap.size + 1 ≤ w4.heap.size := by have := hB4.size; omega
          clear c0 c1 c2 hB4
          obtain ⟨c0, c1, c2⟩ := mat_cells HM4.out
          go_wp2_with fail
          refine (energyx_any x0 x1 A D c a3 (1 + (r : Int)) _ (HR.out.below HB4.out (Nat.le_refl _))).mono ?_
          rintro e w5 ⟨rfl, hB5⟩
          rw [HE2.out]
          have HB5 := Lib.hid (HB4.out.trans (hB5.mono HB4.out.size))
          clear c0 c1 c2 hB5
          have s1 : decide ((k : Int) < b1) = false := decide_eq_false (by omega)
          have s2 : decide (b1 < 0 - (k : Int)) = false := decide_eq_false (by omega)
          have s2' : decide (b1 < -(k : Int)) = false := decide_eq_false (by omega)
          have hG := HG.out
          have s3 : ¬ b2 < b3 := by omega
          have s3' : decide (b2 < b3) = false := decide_eq_false s3
          have s3'' : decide ((b2 : Int) < (b3 : Int)) = false := decide_eq_false (by omega)
          by_cases u1 : b3 < b2
          · have u1' : decide (b3 < b2) = true := decide_eq_true u1
            have u1'' : decide ((b3 : Int) < (b2 : Int)) = true := decide_eq_true (by omega)
            clear hG
            go_wp2_with fail
            refine (example_any _).mono ?_
            rintro e w6 ⟨rfl, hB6⟩
            have HB6 := Lib.hid (HB5.out.trans (hB6.mono HB5.out.size))
            go_wp2_with fail
            go_ret
            exact ⟨rfl, HB6.out⟩
          · have u1' : decide (b3 < b2) = false := decide_eq_false u1
            have u1'' : decide ((b3 : Int) < (b2 : Int)) = false := decide_eq_false (by omega)
            by_cases u2 : max b1 (-b1) < max a3 (-a3)
            · have u2' : decide (max b1 (-b1) < max a3 (-a3)) = true := decide_eq_true u2
              clear hG
              go_wp2_with fail
              refine (example_any _).mono ?_
              rintro e w6 ⟨rfl, hB6⟩
              have HB6 := Lib.hid (HB5.out.trans (hB6.mono HB5.out.size))
              go_wp2_with fail
              go_ret
              exact ⟨rfl, HB6.out⟩
            · have u2' : decide (max b1 (-b1) < max a3 (-a3)) = false := decide_eq_false u2
              by_cases u3 : a3 = b1
              · have u3' : (a3 == b1) = true := by rw [beq_iff_eq]; exact u3
                clear hG u3
                go_wp2_with fail
                refine (example_any _).mono ?_
                rintro e w6 ⟨rfl, hB6⟩
                have HB6 := Lib.hid (HB5.out.trans (hB6.mono HB5.out.size))
                go_wp2_with fail
                go_ret
                exact ⟨rfl, HB6.out⟩
              · have u3' : (a3 == b1) = false := by rw [beq_eq_false_iff_ne]; exact u3
                have u4 : a3 = -b1 ∧ 0 < b1 := by omega
                have u4' : (a3 == -b1) = true := by rw [beq_iff_eq]; exact u4.1
                have u5' : decide (0 < b1) = true := decide_eq_true u4.2
                clear hG u3 u4
                go_wp2_with fail
                refine (example_any _).mono ?_
                rintro e w6 ⟨rfl, hB6⟩
                have HB6 := Lib.hid (HB5.out.trans (hB6.mono HB5.out.size))
                go_wp2_with fail
                go_ret
                exact ⟨rfl, HB6.out⟩
set_option maxRecDepth 100000 in
theorem lifted (os : Os) (started : os.Started) (H : Type) (enc : TypeId × Value → H) :
    ReturnsInHanded {} Try.checked os 8 .any (Rows.skewMaximalSpec.pre6 enc Try.prog Try.f8 Rows.skewMaximalRow.domain false) (Rows.skewMaximalSpec.post enc Try.prog Try.f8 false true false false) := by
  refine returnsInHanded_of_change (C := Try.checked) own started (by kernel_rfl) Try.func8
    (ChangeSpec.witness6 (enc := enc) (C := Try.checked) false ⟨#[], #[.agg #[.int .i64 0, .int .i64 0, .slice none 0 0], .int .u8 0, .int .u16 0, .int .i8 0], []⟩ 8 (by kernel_rfl) (by kernel_rfl) (by kernel_rfl) (by kernel_rfl)) ?_
  intro W base args ds gs before hval0 hW hcnd _
  have hval : ∀ (j : Nat) t v, Try.f8.params[j]? = some t → args[j]? = some v → Value.okWide Try.prog W .any base t v := hval0
  have hW' := hW
  obtain ⟨p, q, hA0, hV, rfl, hfz, hnd⟩ := hW
  have hA : DataW.TrodAll enc Try.prog W 0 (fun _ => true) true Try.f8.params.toList args.toList ds p := hA0
  rw [Try.params8] at hA hval
  obtain ⟨v0, vs0, d0, ds0, p0, q0, hargs, rfl, rfl, h0, r0⟩ := trodAll_cons hA
  obtain ⟨v1, vs1, d1, ds1, p1, q1, rfl, rfl, rfl, h1, r1⟩ := trodAll_cons r0
  obtain ⟨v2, vs2, d2, ds2, p2, q2, rfl, rfl, rfl, h2, r2⟩ := trodAll_cons r1
  obtain ⟨v3, vs3, d3, ds3, p3, q3, rfl, rfl, rfl, h3, r3⟩ := trodAll_cons r2
  obtain ⟨rfl, rfl, rfl⟩ := trodAll_nil r3
  obtain rfl : args = #[v0, v1, v2, v3] := by cases args; simp_all
  obtain ⟨rfl, rfl⟩ := trodVars_none hV
  have k0 := h0
  have lt0 : ∀ x ∈ p0, x.block < W.heap.size := by obtain ⟨m, hm⟩ := k0; exact DataW.trod_lt m _ _ _ hm
  obtain ⟨x0, x1, A, D, c, hv, f0, f1, hr, hl⟩ := open_mat (hval 0 24 v0 rfl rfl) h0
  clear h0
  subst hv
  obtain ⟨a1, rfl, rfl, rfl, w1⟩ := open_int Try.underlying5 (hval 1 5 v1 rfl rfl) h1
  obtain ⟨a2, rfl, rfl, rfl, w2⟩ := open_int Try.underlying41 (hval 2 41 v2 rfl rfl) h2
  obtain ⟨a3, rfl, rfl, rfl, w3⟩ := open_int Try.underlying36 (hval 3 36 v3 rfl rfl) h3
  clear hA0 hval0
  refine (walk x0 x1 A D c a1 a2 a3 W hr hl w1 w2 w3).mono fun e W' ⟨he, bel⟩ => ?_
  subst he
  exact ⟨_, rfl, _, _, _, [], _, [], hW', trodAll_mk1 (shut_bool Try.underlying4 _), (trodAll_cons_mk (Below.trod laidOut (by kernel_rfl) (of_decide_eq_true (by kernel_rfl)) k0 bel lt0) (trodAll_cons_mk (shut_int Try.underlying5 w1) (trodAll_cons_mk (shut_int Try.underlying41 w2) (trodAll_cons_mk (shut_int Try.underlying36 w3) trodAll_mk0)))), rfl, bel.frame _, fun h => by cases h⟩
theorem over : Rows.skewMaximalRow.holds Try.pinned (OpenSpec.ofChange Rows.skewMaximalSpec) :=
  OpenClaim.holds_of_wide 8 Try.f8 rfl rfl rfl rfl rfl rfl rfl ⟨rfl, rfl, rfl, rfl, rfl⟩ rfl rfl rfl rfl rfl (by kernel_rfl) Try.func8 (by kernel_rfl)
    (of_decide_eq_true (by kernel_rfl)) (by unfold Func.isWrapper; first | (rw [if_pos (by decide +kernel)]; kernel_rfl) | (rw [if_neg (by decide +kernel)]; exact ⟨rfl, rfl⟩))
    (fun os started H enc _ => lifted os started H enc)
end Go.Proofs.Yticbpifgjjcjmaa.skewMaximal
namespace Go.Proofs.Yticbpifgjjcjmaa
theorem skewmaximal_holds : Rows.SkewMaximalSaid := skewMaximal.over
end Go.Proofs.Yticbpifgjjcjmaa
#print axioms Go.Proofs.Yticbpifgjjcjmaa.skewmaximal_holds
