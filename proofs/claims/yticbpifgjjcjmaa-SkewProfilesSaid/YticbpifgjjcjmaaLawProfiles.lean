/- The law SkewProfiles: the numbers of dark pixels of the rows of a bitmap, and the error, are the specified ones, and the chapter's examples hold. -/
import Derived.Test.YticbpifgjjcjmaaExa
import Derived.Test.YticbpifgjjcjmaaRpr
import Derived.Test.YticbpifgjjcjmaaArg
import Derived.Test.YticbpifgjjcjmaaRows
import Derived.WalkKit
import Derived.ProofKit
import Derived.OpenShut
import Derived.ShutString
import Derived.ChangeOld
import Derived.Below
namespace Go.Proofs.Yticbpifgjjcjmaa.skewProfiles
open Go.ChangeShapes Go.WideShapes Go.ChangeAt Go.RowKit
open Go.ChangeMaps (open_string shut_string)
set_option linter.unusedVariables false
theorem own : ownKnob Try.prog.godebug = none := by kernel_rfl
theorem laidOut : laidOutB Try.prog = true := by kernel_rfl
set_option maxRecDepth 100000 in
set_option maxHeartbeats 2000000 in
theorem walk (x0 x1 : Int) (A : Option Addr) (D : List Bool) (c : Nat) (w : World) (hr : RdB w A D) (hl : D.length ≤ 9223372036854775807) :
    Calls Try.prog 9 #[.agg (matA x0 x1 A D.length c)] w fun e w' => e = .returned (.bool true) ∧ Below w.heap.size w w' := by
  have HR := Lib.hid hr
  clear hr
  unfold matA
  by_cases hf : D.length ≤ 1500
  · have hfew : decide (D.length ≤ 1500) = true := decide_eq_true hf
    have hLH : (if sndB x0 x1 D.length = true then x1.toNat else 0) ≤ 4096 := by
      cases hs : sndB x0 x1 D.length
      · simp
      · obtain ⟨W, H, rfl, rfl, hW1, hW2, hH1, hH2, hD, hDl⟩ := snd_nat hs
        simp only [↓reduceIte]
        omega
    obtain ⟨L, hL⟩ : ∃ L, Hid (L = if sndB x0 x1 D.length = true then x1.toNat else 0) := ⟨_, Lib.hid rfl⟩
    obtain ⟨n, hn⟩ : ∃ n : Int, Hid (n = if sndB x0 x1 D.length = true then 0 else 1) := ⟨_, Lib.hid rfl⟩
    obtain ⟨f, hp⟩ : ∃ f, Hid (f = Skew.pf x0.toNat D) := ⟨_, Lib.hid rfl⟩
    rw [← hL.out] at hLH
    clear hf
    go_enter Try.func9, Try.ntmps9
    go_wp2_with (refine wpList_box rfl 24 _ rfl _ rfl ?_; intro w1 hb1 hB1 hz1; have hb1 : Blk w1 w.heap.size 24 (matA x0 x1 A D.length c) := hb1; obtain ⟨c0, c1, c2⟩ := mat_cells hb1; have H1 := Lib.hid hz1; clear hz1)
    refine (few_any x0 x1 A D.length c _ hl).mono ?_
    rintro e w2 ⟨rfl, hB2⟩
    rw [hfew]
    have HB2 := Lib.hid (hB1.trans (hB2.mono (by have := H1.out; omega)))
    have HM2 := Lib.hid (hb1.below hB2 (by have := H1.out; omega))
    have hs2 : w.heap.size + 1 ≤ w2.heap.size := by have := H1.out; have := hB2.size; omega
    clear c0 c1 c2 hB1 hB2 hb1
    obtain ⟨c0, c1, c2⟩ := mat_cells HM2.out
    go_wp2_with fail
    refine (profile_any x0 x1 A D c _ (HR.out.below HB2.out (Nat.le_refl _))).mono ?_
    rintro e w3 ⟨v, rfl, hP, hB3⟩
    unfold ProfR at hP
    rw [← hL.out, ← hn.out, ← hp.out] at hP
    obtain ⟨A3, c3, rfl, hN3⟩ := hP
    have HB3 := Lib.hid (HB2.out.trans (hB3.mono HB2.out.size))
    have HM3 := Lib.hid (HM2.out.below hB3 (by omega))
    have HN3 := Lib.hid hN3
    have hs3 : w.heap.size + 1 ≤ w3.heap.size := by have := hB3.size; omega
    clear c0 c1 c2 hB3 hN3
    obtain ⟨c0, c1, c2⟩ := mat_cells HM3.out
    go_wp2_with fail
    refine (refprofile_any x0 x1 A D c _ (HR.out.below HB3.out (Nat.le_refl _))).mono ?_
    rintro e w4 ⟨v, rfl, hP, hB4⟩
    unfold ProfR at hP
    rw [← hL.out, ← hn.out, ← hp.out] at hP
    obtain ⟨A4, c4, rfl, hN4⟩ := hP
    have HB4 := Lib.hid (HB3.out.trans (hB4.mono HB3.out.size))
    have HN3' := Lib.hid (HN3.out.below hB4 (Nat.le_refl _))
    have HN4 := Lib.hid hN4
    clear c0 c1 c2 hB4 hN4 HN3 HM3
    have hnn : (n != n) = false := by rw [bne_eq_false_iff_eq]
    have hLL : ((L : Int) != (L : Int)) = false := by rw [bne_eq_false_iff_eq]
    go_wp2_with fail
    go_loopw [7] (fun vi wr => ∃ k : Nat, k ≤ L ∧ vi = .int .i64 (k : Int) ∧ RdN wr A3 f L ∧ RdN wr A4 f L ∧ Below w.heap.size w wr) (fun vi _ => L - (intOf vi).toNat)
    case atStart => exact ⟨0, Nat.zero_le _, rfl, HN3'.out, HN4.out, HB4.out⟩
    case round =>
      clear HN3' HN4 HB4
      obtain ⟨k, hk, rfl, h3, h4, hB⟩ := hrel
      have H3 := Lib.hid h3
      have H4 := Lib.hid h4
      have HB := Lib.hid hB
      clear h3 h4 hB
      by_cases hlt : k < L
      · have hd : decide ((k : Int) < (L : Int)) = true := decide_eq_true (by omega)
        obtain ⟨ad, rfl, hcell⟩ := H3.out.at_ hlt
        obtain ⟨ad', rfl, hcell'⟩ := H4.out.at_ hlt
        have hne : (((f k : Nat) : Int) != ((f k : Nat) : Int)) = false := by rw [bne_eq_false_iff_eq]
        generalize f k = m at *
        go_wp2_with fail
        go_quiet (fail)
        have H3d : Hid (RdN (wr.drewN nq) (some ad) f L) := Lib.hid H3.out
        have H4d : Hid (RdN (wr.drewN nq) (some ad') f L) := Lib.hid H4.out
        have HBd := Lib.hid (below_drewN HB.out nq)
        go_wp2_with fail
        go_roundw
        case rel => exact ⟨k + 1, by omega, by go_num, H3d.out, H4d.out, HBd.out⟩
        case measure => simp [intOf]; omega
      · have hd : decide ((k : Int) < (L : Int)) = false := decide_eq_false (by omega)
        go_wp2_with fail
        refine (example_any _).mono ?_
        rintro e w5 ⟨rfl, hB5⟩
        have HB5 := Lib.hid (HB.out.trans (hB5.mono HB.out.size))
        go_wp2_with fail
        go_ret
        exact ⟨rfl, HB5.out⟩
  · have hfew : decide (D.length ≤ 1500) = false := decide_eq_false hf
    clear hf
    go_enter Try.func9, Try.ntmps9
    go_wp2_with (refine wpList_box rfl 24 _ rfl _ rfl ?_; intro w1 hb1 hB1 hz1; have hb1 : Blk w1 w.heap.size 24 (matA x0 x1 A D.length c) := hb1; obtain ⟨c0, c1, c2⟩ := mat_cells hb1; have H1 := Lib.hid hz1; clear hz1)
    refine (few_any x0 x1 A D.length c _ hl).mono ?_
    rintro e w2 ⟨rfl, hB2⟩
    rw [hfew]
    have HB2 := Lib.hid (hB1.trans (hB2.mono (by have := H1.out; omega)))
    go_wp2_with fail
    refine (example_any _).mono ?_
    rintro e w5 ⟨rfl, hB5⟩
    have HB5 := Lib.hid (HB2.out.trans (hB5.mono HB2.out.size))
    go_wp2_with fail
    go_ret
    exact ⟨rfl, HB5.out⟩
set_option maxRecDepth 100000 in
theorem lifted (os : Os) (started : os.Started) (H : Type) (enc : TypeId × Value → H) :
    ReturnsInHanded {} Try.checked os 9 .any (Rows.skewProfilesSpec.pre6 enc Try.prog Try.f9 Rows.skewProfilesRow.domain false) (Rows.skewProfilesSpec.post enc Try.prog Try.f9 false true false false) := by
  refine returnsInHanded_of_change (C := Try.checked) own started (by kernel_rfl) Try.func9
    (ChangeSpec.witness6 (enc := enc) (C := Try.checked) false ⟨#[], #[.agg #[.int .i64 0, .int .i64 0, .slice none 0 0]], []⟩ 8 (by kernel_rfl) (by kernel_rfl) (by kernel_rfl) (by kernel_rfl)) ?_
  intro W base args ds gs before hval0 hW hcnd _
  have hval : ∀ (j : Nat) t v, Try.f9.params[j]? = some t → args[j]? = some v → Value.okWide Try.prog W .any base t v := hval0
  have hW' := hW
  obtain ⟨p, q, hA0, hV, rfl, hfz, hnd⟩ := hW
  have hA : DataW.TrodAll enc Try.prog W 0 (fun _ => true) true Try.f9.params.toList args.toList ds p := hA0
  rw [Try.params9] at hA hval
  obtain ⟨v0, vs0, d0, ds0, p0, q0, hargs, rfl, rfl, h0, r0⟩ := trodAll_cons hA
  obtain ⟨rfl, rfl, rfl⟩ := trodAll_nil r0
  obtain rfl : args = #[v0] := by cases args; simp_all
  obtain ⟨rfl, rfl⟩ := trodVars_none hV
  have k0 := h0
  have lt0 : ∀ x ∈ p0, x.block < W.heap.size := by obtain ⟨m, hm⟩ := k0; exact DataW.trod_lt m _ _ _ hm
  obtain ⟨x0, x1, A, D, c, hv, f0, f1, hr, hl⟩ := open_mat (hval 0 24 v0 rfl rfl) h0
  clear h0
  subst hv
  clear hA0 hval0
  refine (walk x0 x1 A D c W hr hl).mono fun e W' ⟨he, bel⟩ => ?_
  subst he
  exact ⟨_, rfl, _, _, _, [], _, [], hW', trodAll_mk1 (shut_bool Try.underlying4 _), (trodAll_cons_mk (Below.trod laidOut (by kernel_rfl) (of_decide_eq_true (by kernel_rfl)) k0 bel lt0) trodAll_mk0), rfl, bel.frame _, fun h => by cases h⟩
theorem over : Rows.skewProfilesRow.holds Try.pinned (OpenSpec.ofChange Rows.skewProfilesSpec) :=
  OpenClaim.holds_of_wide 9 Try.f9 rfl rfl rfl rfl rfl rfl rfl ⟨rfl, rfl, rfl, rfl, rfl⟩ rfl rfl rfl rfl rfl (by kernel_rfl) Try.func9 (by kernel_rfl)
    (of_decide_eq_true (by kernel_rfl)) (by unfold Func.isWrapper; first | (rw [if_pos (by decide +kernel)]; kernel_rfl) | (rw [if_neg (by decide +kernel)]; exact ⟨rfl, rfl⟩))
    (fun os started H enc _ => lifted os started H enc)
end Go.Proofs.Yticbpifgjjcjmaa.skewProfiles
namespace Go.Proofs.Yticbpifgjjcjmaa
theorem skewprofiles_holds : Rows.SkewProfilesSaid := skewProfiles.over
end Go.Proofs.Yticbpifgjjcjmaa
#print axioms Go.Proofs.Yticbpifgjjcjmaa.skewprofiles_holds
