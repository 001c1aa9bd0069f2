/- The law ChecksumBursts: inputs of at most 600 bytes that differ only within 32 consecutive bits have different CRC-32s, and those that differ only within 16 consecutive bits different CRC-16s. -/
import Derived.Test.YtebipgpbpgoocaaFlp
import Derived.Test.YtebipgpbpgoocaaRows
import Derived.WalkKit
import Derived.ProofKit
import Derived.OpenShut
import Derived.ShutString
import Derived.ChangeOld
import Derived.Below
namespace Go.Proofs.Ytebipgpbpgoocaa.checksumBursts
open Go.ChangeShapes Go.WideShapes Go.ChangeAt Go.RowKit
open Go.ChangeMaps (open_string shut_string)
set_option linter.unusedVariables false

theorem own : ownKnob Try.prog.godebug = none := by kernel_rfl
theorem laidOut : laidOutB Try.prog = true := by kernel_rfl

def IsRow (k : IntKind) (w : World) (a : Option Addr) (len cap : Nat) (zs : List Int) : Prop :=
  (a = none ∧ len = 0 ∧ cap = 0 ∧ zs = []) ∨
  ∃ x, a = some x ∧ len ≤ cap ∧ cap ≤ maxLen ∧ zs.length = cap ∧ (∀ i, i < zs.length → w.cell? (x.add i) = some (.int k (zs.getD i 0))) ∧ ∀ n ∈ zs, (Lit.int k n).wf = true

set_option maxRecDepth 100000 in
set_option maxHeartbeats 2000000 in
theorem walk (a0 : Option Addr) (len0 cap0 : Nat) (z0 : List Int) (a1 : Int) (a2 : Int) (w : World) (w0 : IsRow .u8 w a0 len0 cap0 z0) (w1 : (Lit.int .u16 a1).wf = true) (w2 : (Lit.int .u32 a2).wf = true) :
    Calls Try.prog 10 #[.slice a0 len0 cap0, .int .u16 a1, .int .u32 a2] w fun e w' => e = .returned (.bool true) ∧ Below w.heap.size w w' := by
  have h1 : 0 ≤ a1 ∧ a1 < 65536 := by simp [Lit.wf, IntKind.min, IntKind.max, IntKind.signed, IntKind.bits] at w1; omega
  have h2 : 0 ≤ a2 ∧ a2 < 4294967296 := by simp [Lit.wf, IntKind.min, IntKind.max, IntKind.signed, IntKind.bits] at w2; omega
  obtain ⟨at_, rfl⟩ := Int.eq_ofNat_of_zero_le h1.1
  obtain ⟨mask, rfl⟩ := Int.eq_ofNat_of_zero_le h2.1
  have hat : at_ < 65536 := by omega
  have hmk : mask < 4294967296 := by omega
  clear w1 w2 h1 h2
  by_cases hl : len0 ≤ 600 ∧ 0 < len0
  · obtain ⟨hl0, hl1⟩ := hl
    obtain ⟨p, rfl, hr⟩ := rd_of_row w0 (by omega)
    have hd0 : decide ((600 : Int) < (p.length : Int)) = false := decide_eq_false (by omega)
    have hd1 : ((p.length : Int) == 0) = false := by rw [beq_eq_false_iff_ne]; omega
    have hd2 : (p.length == 0) = false := by rw [beq_eq_false_iff_ne]; omega
    have hfl : at_ % (8 * p.length) < 8 * p.length := Nat.mod_lt _ (by omega)
    have hix : (at_ : Int) % (8 * (p.length : Int)) = ((at_ % (8 * p.length) : Nat) : Int) := by
      rw [show (8 * (p.length : Int)) = ((8 * p.length : Nat) : Int) from by omega]; omega
    have h80 : (8 * (p.length : Int) == 0) = false := by rw [beq_eq_false_iff_ne]; omega
    generalize at_ % (8 * p.length) = f at *
    clear w0
    have HR := Lib.hid hr
    clear hr
    go_enter Try.func10, Try.ntmps10
    go_wp2_with fail
    refine (flipped_any _ p cap0 f mask 32 false w HR.out hl1 hl0 (by omega) hmk (by omega) _ (flip32 p HR.out.2.1 f)).mono ?_
    rintro e x1 ⟨v1, q, a, rfl, hO1, hI1, hB1⟩
    obtain ⟨A1, c1, rfl, r1⟩ := hO1.slice (by have := hI1.1; omega) hI1.2.1
    have HA := Lib.hid (show (((CrcM.crc q : Nat) : Int) != ((CrcM.crc p : Nat) : Int)) = a from by
      rw [Bool.eq_iff_iff, bne_iff_ne, ne_eq, Int.ofNat_inj]; exact hI1.ends)
    have R1 := Lib.hid r1
    have HP1 := Lib.hid (HR.out.below hB1 (Nat.le_refl _))
    clear hO1 hI1 r1
    go_wp2_with fail
    refine (flipped_any _ p cap0 f mask 16 true x1 HP1.out hl1 hl0 (by omega) hmk (by omega) _ (flip16 p HR.out.2.1 f)).mono ?_
    rintro e x2 ⟨v2, s, b, rfl, hO2, hI2, hB2⟩
    obtain ⟨A2, c2, rfl, r2⟩ := hO2.slice (by have := hI2.1; omega) hI2.2.1
    have HB := Lib.hid (show (((Crc16.crc s : Nat) : Int) != ((Crc16.crc p : Nat) : Int)) = b from by
      rw [Bool.eq_iff_iff, bne_iff_ne, ne_eq, Int.ofNat_inj]; exact hI2.ends)
    have R1b := Lib.hid (R1.out.below hB2 (Nat.le_refl _))
    have R2 := Lib.hid r2
    have HP2 := Lib.hid (HP1.out.below hB2 (Nat.le_refl _))
    clear hO2 hI2 r2
    go_wp2_with fail
    refine (crc_any _ q _ _ R1b.out).mono ?_
    rintro e x3 ⟨rfl, hB3⟩
    have HP3 := Lib.hid (HP2.out.below hB3 (Nat.le_refl _))
    have R2c := Lib.hid (R2.out.below hB3 (Nat.le_refl _))
    go_wp2_with fail
    refine (crc_any _ p _ _ HP3.out).mono ?_
    rintro e x4 ⟨rfl, hB4⟩
    have HP4 := Lib.hid (HP3.out.below hB4 (Nat.le_refl _))
    have R2d := Lib.hid (R2c.out.below hB4 (Nat.le_refl _))
    have ha := HA.out
    have haa : (a == a) = true := by cases a <;> rfl
    go_wp2_with fail
    clear ha
    refine (crc16_any _ s _ _ R2d.out).mono ?_
    rintro e x5 ⟨rfl, rfl⟩
    go_wp2_with fail
    refine (crc16_any _ p _ _ HP4.out).mono ?_
    rintro e x5 ⟨rfl, rfl⟩
    have hb := HB.out
    have hbb : (b == b) = true := by cases b <;> rfl
    go_wp2_with fail
    clear hb
    refine (example_any _).mono ?_
    rintro e x6 ⟨rfl, hB6⟩
    have G2 := below_of hB1 hB1.size hB2
    have G3 := below_of G2 G2.size hB3
    have G4 := below_of G3 G3.size hB4
    go_wp2
    go_ret
    exact ⟨rfl, below_of G4 G4.size hB6⟩
  · have hd : (decide ((600 : Int) < (len0 : Int)) = true) ∨ (decide ((600 : Int) < (len0 : Int)) = false ∧ ((len0 : Int) == 0) = true) := by
      by_cases h : len0 ≤ 600
      · exact .inr ⟨decide_eq_false (by omega), by rw [beq_iff_eq]; omega⟩
      · exact .inl (decide_eq_true (by omega))
    clear w0 hl
    rcases hd with hd | ⟨hd, hd1⟩
    all_goals
      go_enter Try.func10, Try.ntmps10
      go_wp2_with fail
      refine (example_any _).mono ?_
      rintro e w2 ⟨rfl, hB2⟩
      go_wp2
      go_ret
      exact ⟨rfl, hB2⟩

set_option maxRecDepth 100000 in
theorem lifted (os : Os) (started : os.Started) (H : Type) (enc : TypeId × Value → H) :
    ReturnsInHanded {} Try.checked os 10 .any (Rows.checksumBurstsSpec.pre6 enc Try.prog Try.f10 Rows.checksumBurstsRow.domain false) (Rows.checksumBurstsSpec.post enc Try.prog Try.f10 false true false false) := by
  refine returnsInHanded_of_change (C := Try.checked) own started (by kernel_rfl) Try.func10
    (ChangeSpec.witness6 (enc := enc) (C := Try.checked) false ⟨#[], #[.slice none 0 0, .int .u16 0, .int .u32 0], []⟩ 8 (by kernel_rfl) (by kernel_rfl) (by kernel_rfl) (by kernel_rfl)) ?_
  intro W base args ds gs before hval0 hW hcnd _
  have hval : ∀ (j : Nat) t v, Try.f10.params[j]? = some t → args[j]? = some v → Value.okWide Try.prog W .any base t v := hval0
  have hW' := hW
  obtain ⟨p, q, hA0, hV, rfl, hfz, hnd⟩ := hW
  have hA : DataW.TrodAll enc Try.prog W 0 (fun _ => true) true Try.f10.params.toList args.toList ds p := hA0
  rw [Try.params10] at hA hval
  obtain ⟨v0, vs0, d0, ds0, p0, q0, hargs, rfl, rfl, h0, r0⟩ := trodAll_cons hA
  obtain ⟨v1, vs1, d1, ds1, p1, q1, rfl, rfl, rfl, h1, r1⟩ := trodAll_cons r0
  obtain ⟨v2, vs2, d2, ds2, p2, q2, rfl, rfl, rfl, h2, r2⟩ := trodAll_cons r1
  obtain ⟨rfl, rfl, rfl⟩ := trodAll_nil r2
  obtain rfl : args = #[v0, v1, v2] := by cases args; simp_all
  obtain ⟨rfl, rfl⟩ := trodVars_none hV
  obtain ⟨a0, len0, cap0, rfl⟩ := okWide_slice Try.underlying22 (hval 0 22 v0 rfl rfl)
  have k0 := h0
  have lt0 : ∀ x ∈ p0, x.block < W.heap.size := by obtain ⟨m, hm⟩ := k0; exact DataW.trod_lt m _ _ _ hm
  obtain ⟨z0, w0⟩ : ∃ zs, IsRow .u8 W a0 len0 cap0 zs := by
    obtain ⟨fuel, hf⟩ := h0
    rcases open_ints Try.underlying22 Try.underlying5 (by kernel_rfl) hf with ⟨hcs, _⟩ | ⟨x, l, c, zs, hcs, _, hl, hm, hz, _, hcell, hwz⟩
    · simp [Value.cells] at hcs
      obtain ⟨rfl, rfl, rfl⟩ := hcs
      exact ⟨[], .inl ⟨rfl, rfl, rfl, rfl⟩⟩
    · simp [Value.cells] at hcs
      obtain ⟨rfl, rfl, rfl⟩ := hcs
      exact ⟨zs, .inr ⟨_, rfl, hl, hm, by simpa using hz, hcell, hwz⟩⟩
  obtain ⟨a1, rfl, rfl, rfl, w1⟩ := open_int Try.underlying27 (hval 1 27 v1 rfl rfl) h1
  obtain ⟨a2, rfl, rfl, rfl, w2⟩ := open_int Try.underlying23 (hval 2 23 v2 rfl rfl) h2
  clear hA0 hval0
  refine (walk a0 len0 cap0 z0 a1 a2 W w0 w1 w2).mono fun e W' ⟨he, bel⟩ => ?_
  subst he
  exact ⟨_, rfl, _, _, _, [], _, [], hW', trodAll_mk1 (shut_bool Try.underlying4 _), (trodAll_cons_mk (Below.trod laidOut (by kernel_rfl) (of_decide_eq_true (by kernel_rfl)) k0 bel lt0) (trodAll_cons_mk (shut_int Try.underlying27 w1) (trodAll_cons_mk (shut_int Try.underlying23 w2) trodAll_mk0))), rfl, bel.frame _, fun h => by cases h⟩

theorem over : Rows.checksumBurstsRow.holds Try.pinned (OpenSpec.ofChange Rows.checksumBurstsSpec) :=
  OpenClaim.holds_of_wide 10 Try.f10 rfl rfl rfl rfl rfl rfl rfl ⟨rfl, rfl, rfl, rfl, rfl⟩ rfl rfl rfl rfl rfl (by kernel_rfl) Try.func10 (by kernel_rfl)
    (of_decide_eq_true (by kernel_rfl)) (by unfold Func.isWrapper; first | (rw [if_pos (by decide +kernel)]; kernel_rfl) | (rw [if_neg (by decide +kernel)]; exact ⟨rfl, rfl⟩))
    (fun os started H enc _ => lifted os started H enc)

theorem proved : Rows.ChecksumBurstsSaid := over
end Go.Proofs.Ytebipgpbpgoocaa.checksumBursts
namespace Go.Proofs.Ytebipgpbpgoocaa
theorem checksumbursts_holds : Rows.ChecksumBurstsSaid := checksumBursts.proved
end Go.Proofs.Ytebipgpbpgoocaa
#print axioms Go.Proofs.Ytebipgpbpgoocaa.checksumbursts_holds
