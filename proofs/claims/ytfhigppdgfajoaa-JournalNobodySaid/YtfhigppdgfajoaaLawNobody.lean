/- The law JournalNobody: a journal that Open did not return has no records, and takes none; the chapter's examples hold. -/
import Derived.Test.YtfhigppdgfajoaaNob
import Derived.Test.YtfhigppdgfajoaaRows
import Derived.WalkKit
import Derived.ProofKit
import Derived.OpenShut
import Derived.ShutString
import Derived.ChangeOld
import Derived.Below
namespace Go.Proofs.Ytfhigppdgfajoaa.journalNobody
open Go.ChangeShapes Go.WideShapes Go.ChangeAt Go.RowKit
open Go.ChangeMaps (open_string shut_string)
set_option linter.unusedVariables false
theorem own : ownKnob Try.prog.godebug = none := by kernel_rfl
theorem laidOut : laidOutB Try.prog = true := by kernel_rfl
set_option maxRecDepth 100000 in
set_option maxHeartbeats 4000000 in
theorem walk (A0 : Option Addr) (l0 c0 : Nat) (a1 : Int) (w : World) (b0 : ArgB w A0 l0 c0) (w1 : (Lit.int .i64 a1).wf = true) :
    Calls Try.prog 7 #[.slice A0 l0 c0, .int .i64 a1] w fun e w' => e = .returned (.bool true) ∧ Below w.heap.size w w' := by
  clear b0 w1
  go_enter Try.func7, Try.ntmps7
  have hb1 : Blk (w.alloc (.cells (jnA 0) 64)) w.heap.size 64 (jnA 0) := Blk.new _ _ _
  have hb2 := hb1.alloc (.cells #[.pointer none, .pointer (some ⟨w.heap.size, 0, none⟩)] 33)
  have hr2 : Blk ((w.alloc (.cells (jnA 0) 64)).alloc (.cells #[.pointer none, .pointer (some ⟨w.heap.size, 0, none⟩)] 33)) (w.heap.size + 1) 33 #[.pointer none, .pointer (some ⟨w.heap.size, 0, none⟩)] := by
    have h := Blk.new (w.alloc (.cells (jnA 0) 64)) 33 #[.pointer none, .pointer (some ⟨w.heap.size, 0, none⟩)]
    simpa using h
  have hBB : Below w.heap.size w ((w.alloc (.cells (jnA 0) 64)).alloc (.cells #[.pointer none, .pointer (some ⟨w.heap.size, 0, none⟩)] 33)) := ((Below.refl _ _).alloc (Nat.le_refl _) _).alloc (by simp) _
  have H2 := Lib.hid hb2
  have R2 := Lib.hid hr2
  have HBB := Lib.hid hBB
  clear hb1 hb2 hr2 hBB
  go_wp2_with fail
  go_loopg [7, 13] 2 (fun gk _ vi wr => ∃ i : Nat, i + gk = 2 ∧ vi = .int .i64 (i : Int) ∧ Blk wr w.heap.size 64 (jnA 0) ∧ Blk wr (w.heap.size + 1) 33 #[.pointer none, .pointer (some ⟨w.heap.size, 0, none⟩)] ∧ Below w.heap.size w wr)
  case atStart => exact ⟨0, rfl, rfl, H2.out, R2.out, HBB.out⟩
  case round =>
    obtain ⟨i, hig, rfl, hb, hr, hB⟩ := hrel
    have HBK := Lib.hid hb
    have HRK := Lib.hid hr
    have HB := Lib.hid hB
    have k0 : wr.cell? ⟨w.heap.size + 1, 0, none⟩ = some (.pointer none) := hr.cell 0
    have k1 : wr.cell? ⟨w.heap.size + 1, 1, none⟩ = some (.pointer (some ⟨w.heap.size, 0, none⟩)) := hr.cell 1
    have hl1 := hb.lt
    have hl2 := hr.lt
    clear hb hr hB
    by_cases h0 : i = 0
    · subst h0
      go_wp2_with (first
        | (go_at_call 21; refine (nil_append A0 l0 c0 _).mono ?_; rintro e w' ⟨rfl, rfl⟩)
        | (go_at_call 17; refine (nil_truncate a1 _).mono ?_; rintro e w' ⟨rfl, rfl⟩)
        | (go_at_call 24; refine (nil_compact _ 1 1 _).mono ?_; rintro e w' ⟨rfl, rfl⟩)
        | (go_at_call 18; refine (nil_records _).mono ?_; rintro e w' ⟨rfl, rfl⟩)
        | (go_at_call 16; refine (nil_bytes _).mono ?_; rintro e w' ⟨rfl, rfl⟩))
      go_roundg 1
      case measure => omega
      case rel => exact ⟨1, rfl, by go_num, HBK.out.alloc _, HRK.out.alloc _, HB.out.alloc HB.out.size _⟩
    · by_cases h1 : i = 1
      · subst h1
        go_wp2_with (first
          | (go_at_call 21; refine (nob_append A0 l0 c0 _ _ HBK.out).mono ?_; rintro e w2 ⟨rfl, hB2⟩; have hb2 := HBK.out.below hB2 hl1; have hl2' := hb2.lt)
          | (go_at_call 17; refine (nob_truncate a1 _ _ hb2).mono ?_; rintro e w3 ⟨rfl, hB3⟩; have hb3 := hb2.below hB3 hl2'; have hl3 := hb3.lt)
          | (go_at_call 24; refine (nob_compact _ 1 1 _ _ (hb3.alloc _)).mono ?_; rintro e w4 ⟨rfl, hB4⟩; have hb4 := (hb3.alloc _).below hB4 (by simp; omega); have hl4 := hb4.lt)
          | (go_at_call 18; refine (nob_records _ _ hb4).mono ?_; rintro e w5 ⟨rfl, hB5⟩; have hb5 := hb4.below hB5 hl4; have hl5 := hb5.lt)
          | (go_at_call 16; refine (nob_bytes _ _ hb5).mono ?_; rintro e w6 ⟨rfl, hB6⟩))
        have hW3 := hB2.trans (hB3.mono hB2.size)
        have hW4 := (hW3.alloc hW3.size (.cells #[.slice A0 l0 c0] 22)).trans (hB4.mono (by have := hW3.size; simp; omega))
        have hW5 := hW4.trans (hB5.mono hW4.size)
        have hW6 := hW5.trans (hB6.mono hW5.size)
        go_roundg 0
        case measure => omega
        case rel => exact ⟨2, rfl, by go_num, HBK.out.below hW6 hl1, HRK.out.below hW6 hl2, HB.out.trans (hW6.mono HB.out.size)⟩
      · obtain rfl : i = 2 := by omega
        go_wp2_with fail
        refine (alive_any _).mono ?_
        rintro e w7 ⟨rfl, hB7⟩
        go_wp2_with fail
        go_ret
        exact ⟨rfl, HB.out.trans (hB7.mono HB.out.size)⟩
set_option maxRecDepth 100000 in
theorem lifted (os : Os) (started : os.Started) (H : Type) (enc : TypeId × Value → H) :
    ReturnsInHanded {} Try.checked os 7 .any (Rows.journalNobodySpec.pre6 enc Try.prog Try.f7 Rows.journalNobodyRow.domain false) (Rows.journalNobodySpec.post enc Try.prog Try.f7 false true false false) := by
  refine returnsInHanded_of_change (C := Try.checked) own started (by kernel_rfl) Try.func7
    (ChangeSpec.witness6 (enc := enc) (C := Try.checked) false ⟨#[], #[.slice none 0 0, .int .i64 0], []⟩ 8 (by kernel_rfl) (by kernel_rfl) (by kernel_rfl) (by kernel_rfl)) ?_
  intro W base args ds gs before hval0 hW hcnd _
  have hval : ∀ (j : Nat) t v, Try.f7.params[j]? = some t → args[j]? = some v → Value.okWide Try.prog W .any base t v := hval0
  have hW' := hW
  obtain ⟨p, q, hA0, hV, rfl, hfz, hnd⟩ := hW
  have hA : DataW.TrodAll enc Try.prog W 0 (fun _ => true) true Try.f7.params.toList args.toList ds p := hA0
  rw [Try.params7] at hA hval
  obtain ⟨v0, vs0, d0, ds0, p0, q0, hargs, rfl, rfl, h0, r0⟩ := trodAll_cons hA
  obtain ⟨v1, vs1, d1, ds1, p1, q1, rfl, rfl, rfl, h1, r1⟩ := trodAll_cons r0
  obtain ⟨rfl, rfl, rfl⟩ := trodAll_nil r1
  obtain rfl : args = #[v0, v1] := by cases args; simp_all
  obtain ⟨rfl, rfl⟩ := trodVars_none hV
  have k0 := h0
  have lt0 : ∀ x ∈ p0, x.block < W.heap.size := by obtain ⟨m, hm⟩ := k0; exact DataW.trod_lt m _ _ _ hm
  obtain ⟨A0, l0, c0, hv, b0⟩ := open_argB (hval 0 22 v0 rfl rfl) h0
  clear h0
  subst hv
  obtain ⟨a1, rfl, rfl, rfl, w1⟩ := open_int Try.underlying3 (hval 1 3 v1 rfl rfl) h1
  clear hA0 hval0
  refine (walk A0 l0 c0 a1 W b0 w1).mono fun e W' ⟨he, bel⟩ => ?_
  subst he
  exact ⟨_, rfl, _, _, _, [], _, [], hW', trodAll_mk1 (shut_bool Try.underlying4 _), (trodAll_cons_mk (Below.trod laidOut (by kernel_rfl) (of_decide_eq_true (by kernel_rfl)) k0 bel lt0) (trodAll_cons_mk (shut_int Try.underlying3 w1) trodAll_mk0)), rfl, bel.frame _, fun h => by cases h⟩
theorem over : Rows.journalNobodyRow.holds Try.pinned (OpenSpec.ofChange Rows.journalNobodySpec) :=
  OpenClaim.holds_of_wide 7 Try.f7 rfl rfl rfl rfl rfl rfl rfl ⟨rfl, rfl, rfl, rfl, rfl⟩ rfl rfl rfl rfl rfl (by kernel_rfl) Try.func7 (by kernel_rfl)
    (of_decide_eq_true (by kernel_rfl)) (by unfold Func.isWrapper; first | (rw [if_pos (by decide +kernel)]; kernel_rfl) | (rw [if_neg (by decide +kernel)]; exact ⟨rfl, rfl⟩))
    (fun os started H enc _ => lifted os started H enc)
end Go.Proofs.Ytfhigppdgfajoaa.journalNobody
namespace Go.Proofs.Ytfhigppdgfajoaa
theorem journalnobody_holds : Rows.JournalNobodySaid := journalNobody.over
end Go.Proofs.Ytfhigppdgfajoaa
#print axioms Go.Proofs.Ytfhigppdgfajoaa.journalnobody_holds
