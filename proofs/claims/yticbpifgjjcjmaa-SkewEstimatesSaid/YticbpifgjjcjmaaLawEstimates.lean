/- The law SkewEstimates: the estimated numerator, and its error, are the specified ones, and the chapter's examples hold. -/
import Derived.Test.YticbpifgjjcjmaaExa
import Derived.Test.YticbpifgjjcjmaaRet
import Derived.Test.YticbpifgjjcjmaaArg
import Derived.Test.YticbpifgjjcjmaaRows
import Derived.WalkKit
import Derived.ProofKit
import Derived.OpenShut
import Derived.ShutString
import Derived.ChangeOld
import Derived.Below
namespace Go.Proofs.Yticbpifgjjcjmaa.skewEstimates
open Go.ChangeShapes Go.WideShapes Go.ChangeAt Go.RowKit
open Go.ChangeMaps (open_string shut_string)
set_option linter.unusedVariables false
theorem own : ownKnob Try.prog.godebug = none := by kernel_rfl
theorem laidOut : laidOutB Try.prog = true := by kernel_rfl
set_option maxRecDepth 100000 in
set_option maxHeartbeats 2000000 in
theorem walk (x0 x1 : Int) (A : Option Addr) (D : List Bool) (c : Nat) (a1 : Int) (a2 : Int) (w : World) (hr : RdB w A D) (hl : D.length ≤ 9223372036854775807) (w1 : (Lit.int .i64 a1).wf = true) (w2 : (Lit.int .i64 a2).wf = true) :
    Calls Try.prog 5 #[.agg (matA x0 x1 A D.length c), .int .i64 a1, .int .i64 a2] w fun e w' => e = .returned (.bool true) ∧ Below w.heap.size w w' := by
  have HR := Lib.hid hr
  clear hr
  unfold matA
  by_cases hf : 600 < D.length
  · have hd : decide (600 < (D.length : Int)) = true := decide_eq_true (by omega)
    have hd' : decide (600 < D.length) = true := decide_eq_true hf
    go_enter Try.func5, Try.ntmps5
    go_wp2_with (refine wpList_box rfl 24 _ rfl _ rfl ?_; intro w1 hb1 hB1 hz1; have hb1 : Blk w1 w.heap.size 24 (matA x0 x1 A D.length c) := hb1; obtain ⟨c0, c1, c2⟩ := mat_cells hb1; have H1 := Lib.hid hz1; clear hz1)
    have HB2 := Lib.hid hB1
    have HM2 := Lib.hid hb1
    have hs2 : w.heap.size + 1 ≤ w1.heap.size := by have := H1.out; omega
    clear hB1 hb1
    refine (example_any _).mono ?_
    rintro e w5 ⟨rfl, hB5⟩
    have HB5 := Lib.hid (HB2.out.trans (hB5.mono HB2.out.size))
    go_wp2_with fail
    go_ret
    exact ⟨rfl, HB5.out⟩
  · have hd : decide (600 < (D.length : Int)) = false := decide_eq_false (by omega)
    have hd' : decide (600 < D.length) = false := decide_eq_false hf
    by_cases h20 : 20 < a1
    · have t1 : decide (20 < a1) = true := decide_eq_true h20
      by_cases h256 : a1 ≤ 256
      · have t2 : decide (a1 ≤ 256) = true := decide_eq_true h256
        go_enter Try.func5, Try.ntmps5
        go_wp2_with (refine wpList_box rfl 24 _ rfl _ rfl ?_; intro w1 hb1 hB1 hz1; have hb1 : Blk w1 w.heap.size 24 (matA x0 x1 A D.length c) := hb1; obtain ⟨c0, c1, c2⟩ := mat_cells hb1; have H1 := Lib.hid hz1; clear hz1)
        have HB2 := Lib.hid hB1
        have HM2 := Lib.hid hb1
        have hs2 : w.heap.size + 1 ≤ w1.heap.size := by have := H1.out; omega
        clear hB1 hb1
        refine (example_any _).mono ?_
        rintro e w5 ⟨rfl, hB5⟩
        have HB5 := Lib.hid (HB2.out.trans (hB5.mono HB2.out.size))
        go_wp2_with fail
        go_ret
        exact ⟨rfl, HB5.out⟩
      · have t2 : decide (a1 ≤ 256) = false := decide_eq_false h256
        go_enter Try.func5, Try.ntmps5
        go_wp2_with (refine wpList_box rfl 24 _ rfl _ rfl ?_; intro w1 hb1 hB1 hz1; have hb1 : Blk w1 w.heap.size 24 (matA x0 x1 A D.length c) := hb1; obtain ⟨c0, c1, c2⟩ := mat_cells hb1; have H1 := Lib.hid hz1; clear hz1)
        have HB2 := Lib.hid hB1
        have HM2 := Lib.hid hb1
        have hs2 : w.heap.size + 1 ≤ w1.heap.size := by have := H1.out; omega
        clear hB1 hb1
        refine (estimate_any x0 x1 A D c a1 a2 _ (HR.out.below HB2.out (Nat.le_refl _))).mono ?_
        rintro e w3 ⟨rfl, hB3⟩
        have HB3 := Lib.hid (HB2.out.trans (hB3.mono HB2.out.size))
        have HM3 := Lib.hid (HM2.out.below hB3 (by omega))
        have hs3 : w.heap.size + 1 ≤ w3.heap.size := by have := hB3.size; omega
        clear c0 c1 c2 hB3
        obtain ⟨c0, c1, c2⟩ := mat_cells HM3.out
        go_wp2_with fail
        refine (refestimate_any x0 x1 A D c a1 a2 _ (HR.out.below HB3.out (Nat.le_refl _))).mono ?_
        rintro e w4 ⟨rfl, hB4⟩
        have HB4 := Lib.hid (HB3.out.trans (hB4.mono HB3.out.size))
        go_wp2_with fail
        refine (example_any _).mono ?_
        rintro e w5 ⟨rfl, hB5⟩
        have HB5 := Lib.hid (HB4.out.trans (hB5.mono HB4.out.size))
        go_wp2_with fail
        go_ret
        exact ⟨rfl, HB5.out⟩
    · have t1 : decide (20 < a1) = false := decide_eq_false h20
      go_enter Try.func5, Try.ntmps5
      go_wp2_with (refine wpList_box rfl 24 _ rfl _ rfl ?_; intro w1 hb1 hB1 hz1; have hb1 : Blk w1 w.heap.size 24 (matA x0 x1 A D.length c) := hb1; obtain ⟨c0, c1, c2⟩ := mat_cells hb1; have H1 := Lib.hid hz1; clear hz1)
      have HB2 := Lib.hid hB1
      have HM2 := Lib.hid hb1
      have hs2 : w.heap.size + 1 ≤ w1.heap.size := by have := H1.out; omega
      clear hB1 hb1
      refine (estimate_any x0 x1 A D c a1 a2 _ (HR.out.below HB2.out (Nat.le_refl _))).mono ?_
      rintro e w3 ⟨rfl, hB3⟩
      have HB3 := Lib.hid (HB2.out.trans (hB3.mono HB2.out.size))
      have HM3 := Lib.hid (HM2.out.below hB3 (by omega))
      have hs3 : w.heap.size + 1 ≤ w3.heap.size := by have := hB3.size; omega
      clear c0 c1 c2 hB3
      obtain ⟨c0, c1, c2⟩ := mat_cells HM3.out
      go_wp2_with fail
      refine (refestimate_any x0 x1 A D c a1 a2 _ (HR.out.below HB3.out (Nat.le_refl _))).mono ?_
      rintro e w4 ⟨rfl, hB4⟩
      have HB4 := Lib.hid (HB3.out.trans (hB4.mono HB3.out.size))
      go_wp2_with fail
      refine (example_any _).mono ?_
      rintro e w5 ⟨rfl, hB5⟩
      have HB5 := Lib.hid (HB4.out.trans (hB5.mono HB4.out.size))
      go_wp2_with fail
      go_ret
      exact ⟨rfl, HB5.out⟩
set_option maxRecDepth 100000 in
theorem lifted (os : Os) (started : os.Started) (H : Type) (enc : TypeId × Value → H) :
    ReturnsInHanded {} Try.checked os 5 .any (Rows.skewEstimatesSpec.pre6 enc Try.prog Try.f5 Rows.skewEstimatesRow.domain false) (Rows.skewEstimatesSpec.post enc Try.prog Try.f5 false true false false) := by
  refine returnsInHanded_of_change (C := Try.checked) own started (by kernel_rfl) Try.func5
    (ChangeSpec.witness6 (enc := enc) (C := Try.checked) false ⟨#[], #[.agg #[.int .i64 0, .int .i64 0, .slice none 0 0], .int .i64 0, .int .i64 0], []⟩ 8 (by kernel_rfl) (by kernel_rfl) (by kernel_rfl) (by kernel_rfl)) ?_
  intro W base args ds gs before hval0 hW hcnd _
  have hval : ∀ (j : Nat) t v, Try.f5.params[j]? = some t → args[j]? = some v → Value.okWide Try.prog W .any base t v := hval0
  have hW' := hW
  obtain ⟨p, q, hA0, hV, rfl, hfz, hnd⟩ := hW
  have hA : DataW.TrodAll enc Try.prog W 0 (fun _ => true) true Try.f5.params.toList args.toList ds p := hA0
  rw [Try.params5] at hA hval
  obtain ⟨v0, vs0, d0, ds0, p0, q0, hargs, rfl, rfl, h0, r0⟩ := trodAll_cons hA
  obtain ⟨v1, vs1, d1, ds1, p1, q1, rfl, rfl, rfl, h1, r1⟩ := trodAll_cons r0
  obtain ⟨v2, vs2, d2, ds2, p2, q2, rfl, rfl, rfl, h2, r2⟩ := trodAll_cons r1
  obtain ⟨rfl, rfl, rfl⟩ := trodAll_nil r2
  obtain rfl : args = #[v0, v1, v2] := by cases args; simp_all
  obtain ⟨rfl, rfl⟩ := trodVars_none hV
  have k0 := h0
  have lt0 : ∀ x ∈ p0, x.block < W.heap.size := by obtain ⟨m, hm⟩ := k0; exact DataW.trod_lt m _ _ _ hm
  obtain ⟨x0, x1, A, D, c, hv, f0, f1, hr, hl⟩ := open_mat (hval 0 24 v0 rfl rfl) h0
  clear h0
  subst hv
  obtain ⟨a1, rfl, rfl, rfl, w1⟩ := open_int Try.underlying3 (hval 1 3 v1 rfl rfl) h1
  obtain ⟨a2, rfl, rfl, rfl, w2⟩ := open_int Try.underlying3 (hval 2 3 v2 rfl rfl) h2
  clear hA0 hval0
  refine (walk x0 x1 A D c a1 a2 W hr hl w1 w2).mono fun e W' ⟨he, bel⟩ => ?_
  subst he
  exact ⟨_, rfl, _, _, _, [], _, [], hW', trodAll_mk1 (shut_bool Try.underlying4 _), (trodAll_cons_mk (Below.trod laidOut (by kernel_rfl) (of_decide_eq_true (by kernel_rfl)) k0 bel lt0) (trodAll_cons_mk (shut_int Try.underlying3 w1) (trodAll_cons_mk (shut_int Try.underlying3 w2) trodAll_mk0))), rfl, bel.frame _, fun h => by cases h⟩
theorem over : Rows.skewEstimatesRow.holds Try.pinned (OpenSpec.ofChange Rows.skewEstimatesSpec) :=
  OpenClaim.holds_of_wide 5 Try.f5 rfl rfl rfl rfl rfl rfl rfl ⟨rfl, rfl, rfl, rfl, rfl⟩ rfl rfl rfl rfl rfl (by kernel_rfl) Try.func5 (by kernel_rfl)
    (of_decide_eq_true (by kernel_rfl)) (by unfold Func.isWrapper; first | (rw [if_pos (by decide +kernel)]; kernel_rfl) | (rw [if_neg (by decide +kernel)]; exact ⟨rfl, rfl⟩))
    (fun os started H enc _ => lifted os started H enc)
end Go.Proofs.Yticbpifgjjcjmaa.skewEstimates
namespace Go.Proofs.Yticbpifgjjcjmaa
theorem skewestimates_holds : Rows.SkewEstimatesSaid := skewEstimates.over
end Go.Proofs.Yticbpifgjjcjmaa
#print axioms Go.Proofs.Yticbpifgjjcjmaa.skewestimates_holds
