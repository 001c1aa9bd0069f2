/- The law ChecksumAssociative: for any three numbers and lengths up to 2^31 - 1 it does not matter which two are combined first, and the chapter's examples hold. -/
import Derived.Test.YtebipgpbpgoocaaArg
import Derived.Test.YtebipgpbpgoocaaRows
import Derived.WalkKit
import Derived.ProofKit
import Derived.OpenShut
import Derived.ShutString
import Derived.ChangeOld
import Derived.Below
namespace Go.Proofs.Ytebipgpbpgoocaa.checksumAssociative
open Go.ChangeShapes Go.WideShapes Go.ChangeAt Go.RowKit
open Go.ChangeMaps (open_string shut_string)
set_option linter.unusedVariables false
theorem own : ownKnob Try.prog.godebug = none := by kernel_rfl
theorem laidOut : laidOutB Try.prog = true := by kernel_rfl
theorem open_three {H : Type} {enc : TypeId × Value → H} {W : World} {base : Nat} {sp : Nat → Bool} {v : Value} {d : DataW H} {p : List MemPlace} (hv : Value.okWide Try.prog W .any base 34 v) (h : DataW.Trod enc Try.prog W 0 sp true 34 v d p) :
    ∃ x0 x1 x2 : Int, v = .agg #[.int .u32 x0, .int .u32 x1, .int .u32 x2] ∧ (Lit.int .u32 x0).wf = true ∧ (Lit.int .u32 x1).wf = true ∧ (Lit.int .u32 x2).wf = true := by
  obtain ⟨cs, rfl, hsz, _⟩ : ∃ cs, v = .agg cs ∧ cs.size = Try.prog.cellsOf 34 ∧ Row.okWide Try.prog W .any base 34 cs := by
    simpa [Value.okWide, Try.underlying34] using hv
  rw [show Try.prog.cellsOf 34 = 3 from by kernel_rfl] at hsz
  obtain ⟨l⟩ := cs
  obtain ⟨fuel, hf⟩ := h
  match l, hsz with
  | [c0, c1, c2], _ =>
    obtain ⟨y0, y1, y2, m, _, hy0, hy1, hy2⟩ := trod_array3 Try.underlying34 (by kernel_rfl) hf
    obtain ⟨x0, e0, _, w0⟩ := DataW.trod_int Try.underlying23 hy0
    obtain ⟨x1, e1, _, w1⟩ := DataW.trod_int Try.underlying23 hy1
    obtain ⟨x2, e2, _, w2⟩ := DataW.trod_int Try.underlying23 hy2
    injection e0 with e0
    injection e1 with e1
    injection e2 with e2
    subst e0 e1 e2
    exact ⟨x0, x1, x2, rfl, w0, w1, w2⟩
set_option maxRecDepth 100000 in
set_option maxHeartbeats 2000000 in
theorem walk (x0 x1 x2 : Int) (a1 : Int) (a2 : Int) (w : World) (f0 : (Lit.int .u32 x0).wf = true) (f1 : (Lit.int .u32 x1).wf = true) (f2 : (Lit.int .u32 x2).wf = true) (w1 : (Lit.int .u32 a1).wf = true) (w2 : (Lit.int .u32 a2).wf = true) :
    Calls Try.prog 8 #[.agg #[.int .u32 x0, .int .u32 x1, .int .u32 x2], .int .u32 a1, .int .u32 a2] w fun e w' => e = .returned (.bool true) ∧ Below w.heap.size w w' := by
  have h0 : 0 ≤ x0 ∧ x0 < 4294967296 := by simp [Lit.wf, IntKind.min, IntKind.max, IntKind.signed, IntKind.bits] at f0; omega
  have h1 : 0 ≤ x1 ∧ x1 < 4294967296 := by simp [Lit.wf, IntKind.min, IntKind.max, IntKind.signed, IntKind.bits] at f1; omega
  have h2 : 0 ≤ x2 ∧ x2 < 4294967296 := by simp [Lit.wf, IntKind.min, IntKind.max, IntKind.signed, IntKind.bits] at f2; omega
  have h3 : 0 ≤ a1 ∧ a1 < 4294967296 := by simp [Lit.wf, IntKind.min, IntKind.max, IntKind.signed, IntKind.bits] at w1; omega
  have h4 : 0 ≤ a2 ∧ a2 < 4294967296 := by simp [Lit.wf, IntKind.min, IntKind.max, IntKind.signed, IntKind.bits] at w2; omega
  obtain ⟨y0, rfl⟩ := Int.eq_ofNat_of_zero_le h0.1
  obtain ⟨y1, rfl⟩ := Int.eq_ofNat_of_zero_le h1.1
  obtain ⟨y2, rfl⟩ := Int.eq_ofNat_of_zero_le h2.1
  obtain ⟨n, rfl⟩ := Int.eq_ofNat_of_zero_le h3.1
  obtain ⟨m, rfl⟩ := Int.eq_ofNat_of_zero_le h4.1
  have g0 : y0 < 4294967296 := by omega
  have g1 : y1 < 4294967296 := by omega
  have g2 : y2 < 4294967296 := by omega
  have hi : n % 2147483648 < 2147483648 := Nat.mod_lt _ (by decide)
  have hk : m % 2147483648 < 2147483648 := Nat.mod_lt _ (by decide)
  have ei : (n : Int) % 2147483648 = ((n % 2147483648 : Nat) : Int) := by omega
  have ek : (m : Int) % 2147483648 = ((m % 2147483648 : Nat) : Int) := by omega
  generalize n % 2147483648 = i at *
  generalize m % 2147483648 = k at *
  clear f0 f1 f2 w1 w2 h0 h1 h2 h3 h4
  have s01 := CrcM.xor_lt (CrcM.shift_lt (k := i) g0) g1
  have s12 := CrcM.xor_lt (CrcM.shift_lt (k := k) g1) g2
  have Has := Lib.hid (CrcM.associative y0 y1 y2 i k)
  go_enter Try.func8, Try.ntmps8
  go_wp2_with fail
  refine (combine_any y0 y1 i g0 g1 (by omega) _).mono ?_
  rintro e w1 ⟨rfl, rfl⟩
  go_wp2_with fail
  refine (combine_any _ y2 k s01 g2 (by omega) _).mono ?_
  rintro e w1 ⟨rfl, rfl⟩
  go_wp2_with fail
  refine (combine_any y1 y2 k g1 g2 (by omega) _).mono ?_
  rintro e w1 ⟨rfl, rfl⟩
  go_wp2_with fail
  have hc := combine_any y0 _ (i + k) g0 s12 (by omega)
  rw [show ((i + k : Nat) : Int) = (i : Int) + (k : Int) from by omega] at hc
  refine (hc _).mono ?_
  clear hc
  rintro e w1 ⟨rfl, rfl⟩
  rw [Has.out]
  go_wp2_with fail
  refine (example_any _).mono ?_
  rintro e w2 ⟨rfl, hB2⟩
  go_wp2
  go_ret
  exact ⟨rfl, below_of ((Below.refl _ _).alloc (Nat.le_refl _) _) (by simp) hB2⟩
set_option maxRecDepth 100000 in
theorem lifted (os : Os) (started : os.Started) (H : Type) (enc : TypeId × Value → H) :
    ReturnsInHanded {} Try.checked os 8 .any (Rows.checksumAssociativeSpec.pre6 enc Try.prog Try.f8 Rows.checksumAssociativeRow.domain false) (Rows.checksumAssociativeSpec.post enc Try.prog Try.f8 false true false false) := by
  refine returnsInHanded_of_change (C := Try.checked) own started (by kernel_rfl) Try.func8
    (ChangeSpec.witness6 (enc := enc) (C := Try.checked) false ⟨#[], #[.agg #[.int .u32 0, .int .u32 0, .int .u32 0], .int .u32 0, .int .u32 0], []⟩ 8 (by kernel_rfl) (by kernel_rfl) (by kernel_rfl) (by kernel_rfl)) ?_
  intro W base args ds gs before hval0 hW hcnd _
  have hval : ∀ (j : Nat) t v, Try.f8.params[j]? = some t → args[j]? = some v → Value.okWide Try.prog W .any base t v := hval0
  have hW' := hW
  obtain ⟨p, q, hA0, hV, rfl, hfz, hnd⟩ := hW
  have hA : DataW.TrodAll enc Try.prog W 0 (fun _ => true) true Try.f8.params.toList args.toList ds p := hA0
  rw [Try.params8] at hA hval
  obtain ⟨v0, vs0, d0, ds0, p0, q0, hargs, rfl, rfl, h0, r0⟩ := trodAll_cons hA
  obtain ⟨v1, vs1, d1, ds1, p1, q1, rfl, rfl, rfl, h1, r1⟩ := trodAll_cons r0
  obtain ⟨v2, vs2, d2, ds2, p2, q2, rfl, rfl, rfl, h2, r2⟩ := trodAll_cons r1
  obtain ⟨rfl, rfl, rfl⟩ := trodAll_nil r2
  obtain rfl : args = #[v0, v1, v2] := by cases args; simp_all
  obtain ⟨rfl, rfl⟩ := trodVars_none hV
  have k0 := h0
  have lt0 : ∀ x ∈ p0, x.block < W.heap.size := by obtain ⟨m, hm⟩ := k0; exact DataW.trod_lt m _ _ _ hm
  obtain ⟨x0, x1, x2, hv, f0, f1, f2⟩ := open_three (hval 0 34 v0 rfl rfl) h0
  clear h0
  subst hv
  obtain ⟨a1, rfl, rfl, rfl, w1⟩ := open_int Try.underlying23 (hval 1 23 v1 rfl rfl) h1
  obtain ⟨a2, rfl, rfl, rfl, w2⟩ := open_int Try.underlying23 (hval 2 23 v2 rfl rfl) h2
  clear hA0 hval0
  refine (walk x0 x1 x2 a1 a2 W f0 f1 f2 w1 w2).mono fun e W' ⟨he, bel⟩ => ?_
  subst he
  exact ⟨_, rfl, _, _, _, [], _, [], hW', trodAll_mk1 (shut_bool Try.underlying4 _), (trodAll_cons_mk (Below.trod laidOut (by kernel_rfl) (of_decide_eq_true (by kernel_rfl)) k0 bel lt0) (trodAll_cons_mk (shut_int Try.underlying23 w1) (trodAll_cons_mk (shut_int Try.underlying23 w2) trodAll_mk0))), rfl, bel.frame _, fun h => by cases h⟩
theorem over : Rows.checksumAssociativeRow.holds Try.pinned (OpenSpec.ofChange Rows.checksumAssociativeSpec) :=
  OpenClaim.holds_of_wide 8 Try.f8 rfl rfl rfl rfl rfl rfl rfl ⟨rfl, rfl, rfl, rfl, rfl⟩ rfl rfl rfl rfl rfl (by kernel_rfl) Try.func8 (by kernel_rfl)
    (of_decide_eq_true (by kernel_rfl)) (by unfold Func.isWrapper; first | (rw [if_pos (by decide +kernel)]; kernel_rfl) | (rw [if_neg (by decide +kernel)]; exact ⟨rfl, rfl⟩))
    (fun os started H enc _ => lifted os started H enc)
end Go.Proofs.Ytebipgpbpgoocaa.checksumAssociative
namespace Go.Proofs.Ytebipgpbpgoocaa
theorem checksumassociative_holds : Rows.ChecksumAssociativeSaid := checksumAssociative.over
end Go.Proofs.Ytebipgpbpgoocaa
#print axioms Go.Proofs.Ytebipgpbpgoocaa.checksumassociative_holds
