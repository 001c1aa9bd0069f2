/- The law JournalRecords: Record and Recover return what is specified; the chapter's examples hold. -/
import Derived.Test.YtfhigppdgfajoaaArg
import Derived.Test.YtfhigppdgfajoaaRows
import Derived.WalkKit
import Derived.ProofKit
import Derived.OpenShut
import Derived.ShutString
import Derived.ChangeOld
import Derived.Below
namespace Go.Proofs.Ytfhigppdgfajoaa.journalRecords
open Go.ChangeShapes Go.WideShapes Go.ChangeAt Go.RowKit
open Go.ChangeMaps (open_string shut_string)
set_option linter.unusedVariables false
theorem own : ownKnob Try.prog.godebug = none := by kernel_rfl
theorem laidOut : laidOutB Try.prog = true := by kernel_rfl
set_option maxRecDepth 100000 in
set_option maxHeartbeats 4000000 in
theorem walk (A0 : Option Addr) (l0 c0 : Nat) (A1 : Option Addr) (l1 c1 : Nat) (w : World) (b0 : ArgB w A0 l0 c0) (b1 : ArgB w A1 l1 c1) :
    Calls Try.prog 3 #[.slice A0 l0 c0, .slice A1 l1 c1] w fun e w' => e = .returned (.bool true) ∧ Below w.heap.size w w' := by
  have hl0 := b0.1
  have hl1 := b1.1
  by_cases h0 : 2000 < l0
  · have hd : decide (2000 < (l0 : Int)) = true := decide_eq_true (by omega)
    have hd' : decide (2000 < l0) = true := decide_eq_true h0
    clear b0 b1
    go_enter Try.func3, Try.ntmps3
    go_wp2_with fail
    refine (alive_any _).mono ?_
    rintro e w2 ⟨rfl, hB2⟩
    go_wp2_with fail
    go_ret
    exact ⟨rfl, hB2⟩
  · have hd : decide (2000 < (l0 : Int)) = false := decide_eq_false (by omega)
    have hd' : decide (2000 < l0) = false := decide_eq_false h0
    by_cases h1 : 2000 < l1
    · have he : decide (2000 < (l1 : Int)) = true := decide_eq_true (by omega)
      have he' : decide (2000 < l1) = true := decide_eq_true h1
      clear b0 b1
      go_enter Try.func3, Try.ntmps3
      go_wp2_with fail
      refine (alive_any _).mono ?_
      rintro e w2 ⟨rfl, hB2⟩
      go_wp2_with fail
      go_ret
      exact ⟨rfl, hB2⟩
    · have he : decide (2000 < (l1 : Int)) = false := decide_eq_false (by omega)
      have he' : decide (2000 < l1) = false := decide_eq_false h1
      obtain ⟨p, rfl, hs0⟩ := b0.2.2 (by omega)
      obtain ⟨q, rfl, hs1⟩ := b1.2.2 (by omega)
      have S0 := Lib.hid hs0
      have S1 := Lib.hid hs1
      clear b0 b1 hs0 hs1
      go_enter Try.func3, Try.ntmps3
      go_wp2_with fail
      refine (record_any A0 p c0 w S0.out.1).mono ?_
      rintro e w2 ⟨v2, rfl, hR2, hB2⟩
      rcases hR2 with ⟨h, _⟩ | ⟨_, u2, rfl, hO2⟩
      · omega
      have HB2 := Lib.hid hB2
      obtain ⟨A2, c2, rfl, hr2⟩ := hO2.slice (by rw [enc_len]; omega) (enc_bytes S0.out.1.2.1)
      clear hB2 hO2
      obtain ⟨n, hn⟩ : ∃ n, Hid (n = enc p) := ⟨_, Lib.hid rfl⟩
      rw [← hn.out] at hr2 ⊢
      have R2 := Lib.hid hr2
      clear hr2
      go_wp2_with fail
      refine (refrecord_any A0 p c0 w2 (S0.out.below HB2.out).1).mono ?_
      rintro e w3 ⟨v3, rfl, hR3, hB3⟩
      rcases hR3 with ⟨h, _⟩ | ⟨_, u3, rfl, hO3⟩
      · omega
      have HB3 := Lib.hid (HB2.out.trans (hB3.mono HB2.out.size))
      obtain ⟨A3, c3, rfl, hr3⟩ := hO3.slice (by rw [enc_len]; omega) (enc_bytes S0.out.1.2.1)
      rw [← hn.out] at hr3 ⊢
      have R3 := Lib.hid hr3
      have R2' := Lib.hid (R2.out.below hB3 (Nat.le_refl _))
      clear hr3 hB3 hO3 R2
      go_wp2_with fail
      refine (recover_any A1 q c1 w3 (S1.out.below HB3.out)).mono ?_
      rintro e w4 ⟨v4, rfl, ⟨u4, rfl, hO4⟩, hB4⟩
      have HB4 := Lib.hid (HB3.out.trans (hB4.mono HB3.out.size))
      have R2 := Lib.hid (R2'.out.below hB4 (Nat.le_refl _))
      have R3' := Lib.hid (R3.out.below hB4 (Nat.le_refl _))
      have hrk := rcv_ok q
      have hlen : (rcv q).1.length ≤ 140737488351232 := by omega
      have hall : ∀ p ∈ (rcv q).1, p.length ≤ 140737488351232 := fun p hp => by have := hrk.2.2.2 p hp; omega
      obtain ⟨A4, c4, rfl, hr4⟩ := hO4.rds hlen hall
      have HL := Lib.hid hlen
      have HA := Lib.hid hall
      obtain ⟨ms, hms⟩ : ∃ ms, Hid (ms = (rcv q).1) := ⟨_, Lib.hid rfl⟩
      obtain ⟨k, hk⟩ : ∃ k, Hid (k = (rcv q).2) := ⟨_, Lib.hid rfl⟩
      rw [← hms.out] at hr4 HL HA ⊢
      rw [← hk.out]
      have R4 := Lib.hid hr4
      clear hr4 hB4 hO4 R3 R2' hrk hlen hall
      go_wp2_with fail
      refine (refrecover_any A1 q c1 w4 (S1.out.below HB4.out)).mono ?_
      rintro e w5 ⟨v5, rfl, ⟨u5, rfl, hO5⟩, hB5⟩
      rw [← hms.out] at hO5
      rw [← hk.out]
      have HB5 := Lib.hid (HB4.out.trans (hB5.mono HB4.out.size))
      have hr2 := R2.out.below hB5 (Nat.le_refl _)
      have hr3 := R3'.out.below hB5 (Nat.le_refl _)
      have hr4 := R4.out.below hB5 (Nat.le_refl _)
      obtain ⟨A5, c5, rfl, hr5⟩ := hO5.rds HL.out HA.out
      have k2 := run_conv hr2 c2
      have k3 := run_conv hr3 c3
      obtain ⟨st, hst⟩ : ∃ st, Hid (st = strN n) := ⟨_, Lib.hid rfl⟩
      rw [← hst.out] at k2 k3
      have R4' := Lib.hid hr4
      have R5 := Lib.hid hr5
      have hss : (st.toList == st.toList) = true := by rw [beq_iff_eq]
      have hkk : ((k : Int) == (k : Int)) = true := by rw [beq_iff_eq]
      clear hB5 hO5 hr2 hr3 hr4 hr5
      go_wp2_with fail
      refine (same_any A4 A5 ms ms c4 c5 w5 R4'.out R5.out).mono ?_
      rintro e w6 ⟨rfl, hB6⟩
      have hdd : decide (ms = ms) = true := decide_eq_true rfl
      rw [hdd]
      have HB6 := Lib.hid (HB5.out.trans (hB6.mono HB5.out.size))
      clear hB6
      go_wp2_with fail
      refine (alive_any _).mono ?_
      rintro e w7 ⟨rfl, hB7⟩
      go_wp2_with fail
      go_ret
      exact ⟨rfl, HB6.out.trans (hB7.mono HB6.out.size)⟩
set_option maxRecDepth 100000 in
theorem lifted (os : Os) (started : os.Started) (H : Type) (enc : TypeId × Value → H) :
    ReturnsInHanded {} Try.checked os 3 .any (Rows.journalRecordsSpec.pre6 enc Try.prog Try.f3 Rows.journalRecordsRow.domain false) (Rows.journalRecordsSpec.post enc Try.prog Try.f3 false true false false) := by
  refine returnsInHanded_of_change (C := Try.checked) own started (by kernel_rfl) Try.func3
    (ChangeSpec.witness6 (enc := enc) (C := Try.checked) false ⟨#[], #[.slice none 0 0, .slice none 0 0], []⟩ 8 (by kernel_rfl) (by kernel_rfl) (by kernel_rfl) (by kernel_rfl)) ?_
  intro W base args ds gs before hval0 hW hcnd _
  have hval : ∀ (j : Nat) t v, Try.f3.params[j]? = some t → args[j]? = some v → Value.okWide Try.prog W .any base t v := hval0
  have hW' := hW
  obtain ⟨p, q, hA0, hV, rfl, hfz, hnd⟩ := hW
  have hA : DataW.TrodAll enc Try.prog W 0 (fun _ => true) true Try.f3.params.toList args.toList ds p := hA0
  rw [Try.params3] at hA hval
  obtain ⟨v0, vs0, d0, ds0, p0, q0, hargs, rfl, rfl, h0, r0⟩ := trodAll_cons hA
  obtain ⟨v1, vs1, d1, ds1, p1, q1, rfl, rfl, rfl, h1, r1⟩ := trodAll_cons r0
  obtain ⟨rfl, rfl, rfl⟩ := trodAll_nil r1
  obtain rfl : args = #[v0, v1] := by cases args; simp_all
  obtain ⟨rfl, rfl⟩ := trodVars_none hV
  have k0 := h0
  have lt0 : ∀ x ∈ p0, x.block < W.heap.size := by obtain ⟨m, hm⟩ := k0; exact DataW.trod_lt m _ _ _ hm
  obtain ⟨A0, l0, c0, hv, b0⟩ := open_argB (hval 0 22 v0 rfl rfl) h0
  clear h0
  subst hv
  have k1 := h1
  have lt1 : ∀ x ∈ p1, x.block < W.heap.size := by obtain ⟨m, hm⟩ := k1; exact DataW.trod_lt m _ _ _ hm
  obtain ⟨A1, l1, c1, hv, b1⟩ := open_argB (hval 1 22 v1 rfl rfl) h1
  clear h1
  subst hv
  clear hA0 hval0
  refine (walk A0 l0 c0 A1 l1 c1 W b0 b1).mono fun e W' ⟨he, bel⟩ => ?_
  subst he
  exact ⟨_, rfl, _, _, _, [], _, [], hW', trodAll_mk1 (shut_bool Try.underlying4 _), (trodAll_cons_mk (Below.trod laidOut (by kernel_rfl) (of_decide_eq_true (by kernel_rfl)) k0 bel lt0) (trodAll_cons_mk (Below.trod laidOut (by kernel_rfl) (of_decide_eq_true (by kernel_rfl)) k1 bel lt1) trodAll_mk0)), rfl, bel.frame _, fun h => by cases h⟩
theorem over : Rows.journalRecordsRow.holds Try.pinned (OpenSpec.ofChange Rows.journalRecordsSpec) :=
  OpenClaim.holds_of_wide 3 Try.f3 rfl rfl rfl rfl rfl rfl rfl ⟨rfl, rfl, rfl, rfl, rfl⟩ rfl rfl rfl rfl rfl (by kernel_rfl) Try.func3 (by kernel_rfl)
    (of_decide_eq_true (by kernel_rfl)) (by unfold Func.isWrapper; first | (rw [if_pos (by decide +kernel)]; kernel_rfl) | (rw [if_neg (by decide +kernel)]; exact ⟨rfl, rfl⟩))
    (fun os started H enc _ => lifted os started H enc)
end Go.Proofs.Ytfhigppdgfajoaa.journalRecords
namespace Go.Proofs.Ytfhigppdgfajoaa
theorem journalrecords_holds : Rows.JournalRecordsSaid := journalRecords.over
end Go.Proofs.Ytfhigppdgfajoaa
#print axioms Go.Proofs.Ytfhigppdgfajoaa.journalrecords_holds
