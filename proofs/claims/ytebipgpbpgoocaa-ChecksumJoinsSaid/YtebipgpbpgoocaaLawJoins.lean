/- The law ChecksumJoins: the CRC-32 of two inputs of at most 2,000 bytes, one after the other, is the combination of their CRC-32s, and the chapter's examples hold. -/
import Derived.Test.YtebipgpbpgoocaaArg
import Derived.Test.YtebipgpbpgoocaaRows
import Derived.WalkKit
import Derived.ProofKit
import Derived.OpenShut
import Derived.ShutString
import Derived.ChangeOld
import Derived.Below
namespace Go.Proofs.Ytebipgpbpgoocaa.checksumJoins
open Go.ChangeShapes Go.WideShapes Go.ChangeAt Go.RowKit
open Go.ChangeMaps (open_string shut_string)
set_option linter.unusedVariables false

theorem own : ownKnob Try.prog.godebug = none := by kernel_rfl
theorem laidOut : laidOutB Try.prog = true := by kernel_rfl

def IsRow (k : IntKind) (w : World) (a : Option Addr) (len cap : Nat) (zs : List Int) : Prop :=
  (a = none ∧ len = 0 ∧ cap = 0 ∧ zs = []) ∨
  ∃ x, a = some x ∧ len ≤ cap ∧ cap ≤ maxLen ∧ zs.length = cap ∧ (∀ i, i < zs.length → w.cell? (x.add i) = some (.int k (zs.getD i 0))) ∧ ∀ n ∈ zs, (Lit.int k n).wf = true

set_option maxRecDepth 100000 in
set_option maxHeartbeats 2000000 in
theorem walk (a0 : Option Addr) (len0 cap0 : Nat) (z0 : List Int) (a1 : Option Addr) (len1 cap1 : Nat) (z1 : List Int) (w : World) (w0 : IsRow .u8 w a0 len0 cap0 z0) (w1 : IsRow .u8 w a1 len1 cap1 z1) :
    Calls Try.prog 7 #[.slice a0 len0 cap0, .slice a1 len1 cap1] w fun e w' => e = .returned (.bool true) ∧ Below w.heap.size w w' := by
  by_cases hl : len0 ≤ 2000 ∧ len1 ≤ 2000
  · obtain ⟨hl0, hl1⟩ := hl
    obtain ⟨p, rfl, hr⟩ := rd_of_row w0 (by omega)
    obtain ⟨q, rfl, hq⟩ := rd_of_row w1 (by omega)
    have hd0 : decide ((2000 : Int) < (p.length : Int)) = false := decide_eq_false (by omega)
    have hd1 : decide ((2000 : Int) < (q.length : Int)) = false := decide_eq_false (by omega)
    clear w0 w1
    have HR := Lib.hid hr
    have HQ := Lib.hid hq
    clear hr hq
    go_enter Try.func7, Try.ntmps7
    go_wp2_with (first
      | (at_builtin
         refine wpList_app_bytes rfl (.tmp 17) (.tmp 18) 22 rfl w.heap.size 5 und22 info5 (.slice none 0 0) [] rfl (OwnB.nil _ _ _) _ _ p rfl HR.out (by simp; omega) (Nat.le_refl _) ?_
         intro v1 w1 hO1 hG1 hat1
         have hB1 : Below w.heap.size w w1 := (Below.refl _ _).grown hG1 (Nat.le_refl _) (by simp [Value.ownBlock])
         have HQ1 := Lib.hid (HQ.out.below hB1 (Nat.le_refl _))
         have hs1 := hB1.size)
      | (at_builtin
         refine wpList_app_bytes rfl (.tmp 20) (.tmp 21) 22 rfl w.heap.size 5 und22 info5 v1 ([] ++ p) rfl hO1 _ _ q rfl HQ1.out (by simp; omega) hs1 ?_
         intro v2 w2 hO2 hG2 hat2))
    have hG : Below w.heap.size w w2 := hB1.grown hG2 hs1 (by intro k hk; rcases hat1 with e | e <;> rw [e] at hk <;> simp [Value.ownBlock] at hk; omega)
    have HR2 := Lib.hid (HR.out.below hG (Nat.le_refl _))
    have HQ2 := Lib.hid (HQ.out.below hG (Nat.le_refl _))
    rw [List.nil_append] at hO2
    have hp256 := HR.out.2.1
    have hq256 := HQ.out.2.1
    have H256 := Lib.hid (show ∀ c ∈ p ++ q, c < 256 from fun c hc => (List.mem_append.1 hc).elim (hp256 c) (hq256 c))
    have hcp := CrcM.crc_lt hp256
    have hcq := CrcM.crc_lt hq256
    clear hp256 hq256 hO1 hat1 hat2 hG1 hG2 hB1 hs1
    have hlr : (p ++ q).length ≤ 4000 := by rw [List.length_append]; omega
    have HJ := Lib.hid (CrcM.joins p q)
    generalize p ++ q = r at *
    obtain ⟨A2, c2, rfl, hR2⟩ := hO2.slice (by omega) H256.out
    have HO2 := Lib.hid hR2
    clear hR2 hO2
    refine (crc_any _ p cap0 _ HR2.out).mono ?_
    rintro e w3 ⟨rfl, hB3⟩
    have HQ3 := Lib.hid (HQ2.out.below hB3 (Nat.le_refl _))
    have HO3 := Lib.hid (HO2.out.below hB3 (Nat.le_refl _))
    go_wp2_with fail
    refine (crc_any _ q cap1 _ HQ3.out).mono ?_
    rintro e w4 ⟨rfl, hB4⟩
    have HO4 := Lib.hid (HO3.out.below hB4 (Nat.le_refl _))
    go_wp2_with fail
    refine (combine_any _ _ q.length hcp hcq (by omega) _).mono ?_
    rintro e w5 ⟨rfl, rfl⟩
    rw [← HJ.out]
    go_wp2_with fail
    refine (crc_any _ r c2 _ HO4.out).mono ?_
    rintro e w5 ⟨rfl, hB5⟩
    go_wp2_with fail
    refine (example_any _).mono ?_
    rintro e w6 ⟨rfl, hB6⟩
    have hG3 := below_of hG hG.size hB3
    have hG4 := below_of hG3 hG3.size hB4
    have hG5 := below_of hG4 hG4.size hB5
    go_wp2
    go_ret
    exact ⟨rfl, below_of hG5 hG5.size hB6⟩
  · have hd : (decide ((2000 : Int) < (len0 : Int)) = true) ∨ (decide ((2000 : Int) < (len0 : Int)) = false ∧ decide ((2000 : Int) < (len1 : Int)) = true) := by
      by_cases h : len0 ≤ 2000
      · exact .inr ⟨decide_eq_false (by omega), decide_eq_true (by omega)⟩
      · exact .inl (decide_eq_true (by omega))
    clear w0 w1 hl
    rcases hd with hd | ⟨hd, hd1⟩
    all_goals
      go_enter Try.func7, Try.ntmps7
      go_wp2_with fail
      refine (example_any _).mono ?_
      rintro e w2 ⟨rfl, hB2⟩
      go_wp2
      go_ret
      exact ⟨rfl, hB2⟩

set_option maxRecDepth 100000 in
theorem lifted (os : Os) (started : os.Started) (H : Type) (enc : TypeId × Value → H) :
    ReturnsInHanded {} Try.checked os 7 .any (Rows.checksumJoinsSpec.pre6 enc Try.prog Try.f7 Rows.checksumJoinsRow.domain false) (Rows.checksumJoinsSpec.post enc Try.prog Try.f7 false true false false) := by
  refine returnsInHanded_of_change (C := Try.checked) own started (by kernel_rfl) Try.func7
    (ChangeSpec.witness6 (enc := enc) (C := Try.checked) false ⟨#[], #[.slice none 0 0, .slice none 0 0], []⟩ 8 (by kernel_rfl) (by kernel_rfl) (by kernel_rfl) (by kernel_rfl)) ?_
  intro W base args ds gs before hval0 hW hcnd _
  have hval : ∀ (j : Nat) t v, Try.f7.params[j]? = some t → args[j]? = some v → Value.okWide Try.prog W .any base t v := hval0
  have hW' := hW
  obtain ⟨p, q, hA0, hV, rfl, hfz, hnd⟩ := hW
  have hA : DataW.TrodAll enc Try.prog W 0 (fun _ => true) true Try.f7.params.toList args.toList ds p := hA0
  rw [Try.params7] at hA hval
  obtain ⟨v0, vs0, d0, ds0, p0, q0, hargs, rfl, rfl, h0, r0⟩ := trodAll_cons hA
  obtain ⟨v1, vs1, d1, ds1, p1, q1, rfl, rfl, rfl, h1, r1⟩ := trodAll_cons r0
  obtain ⟨rfl, rfl, rfl⟩ := trodAll_nil r1
  obtain rfl : args = #[v0, v1] := by cases args; simp_all
  obtain ⟨rfl, rfl⟩ := trodVars_none hV
  obtain ⟨a0, len0, cap0, rfl⟩ := okWide_slice Try.underlying22 (hval 0 22 v0 rfl rfl)
  have k0 := h0
  have lt0 : ∀ x ∈ p0, x.block < W.heap.size := by obtain ⟨m, hm⟩ := k0; exact DataW.trod_lt m _ _ _ hm
  obtain ⟨z0, w0⟩ : ∃ zs, IsRow .u8 W a0 len0 cap0 zs := by
    obtain ⟨fuel, hf⟩ := h0
    rcases open_ints Try.underlying22 Try.underlying5 (by kernel_rfl) hf with ⟨hcs, _⟩ | ⟨x, l, c, zs, hcs, _, hl, hm, hz, _, hcell, hwz⟩
    · simp [Value.cells] at hcs
      obtain ⟨rfl, rfl, rfl⟩ := hcs
      exact ⟨[], .inl ⟨rfl, rfl, rfl, rfl⟩⟩
    · simp [Value.cells] at hcs
      obtain ⟨rfl, rfl, rfl⟩ := hcs
      exact ⟨zs, .inr ⟨_, rfl, hl, hm, by simpa using hz, hcell, hwz⟩⟩
  obtain ⟨a1, len1, cap1, rfl⟩ := okWide_slice Try.underlying22 (hval 1 22 v1 rfl rfl)
  have k1 := h1
  have lt1 : ∀ x ∈ p1, x.block < W.heap.size := by obtain ⟨m, hm⟩ := k1; exact DataW.trod_lt m _ _ _ hm
  obtain ⟨z1, w1⟩ : ∃ zs, IsRow .u8 W a1 len1 cap1 zs := by
    obtain ⟨fuel, hf⟩ := h1
    rcases open_ints Try.underlying22 Try.underlying5 (by kernel_rfl) hf with ⟨hcs, _⟩ | ⟨x, l, c, zs, hcs, _, hl, hm, hz, _, hcell, hwz⟩
    · simp [Value.cells] at hcs
      obtain ⟨rfl, rfl, rfl⟩ := hcs
      exact ⟨[], .inl ⟨rfl, rfl, rfl, rfl⟩⟩
    · simp [Value.cells] at hcs
      obtain ⟨rfl, rfl, rfl⟩ := hcs
      exact ⟨zs, .inr ⟨_, rfl, hl, hm, by simpa using hz, hcell, hwz⟩⟩
  clear hA0 hval0
  refine (walk a0 len0 cap0 z0 a1 len1 cap1 z1 W w0 w1).mono fun e W' ⟨he, bel⟩ => ?_
  subst he
  exact ⟨_, rfl, _, _, _, [], _, [], hW', trodAll_mk1 (shut_bool Try.underlying4 _), (trodAll_cons_mk (Below.trod laidOut (by kernel_rfl) (of_decide_eq_true (by kernel_rfl)) k0 bel lt0) (trodAll_cons_mk (Below.trod laidOut (by kernel_rfl) (of_decide_eq_true (by kernel_rfl)) k1 bel lt1) trodAll_mk0)), rfl, bel.frame _, fun h => by cases h⟩

theorem over : Rows.checksumJoinsRow.holds Try.pinned (OpenSpec.ofChange Rows.checksumJoinsSpec) :=
  OpenClaim.holds_of_wide 7 Try.f7 rfl rfl rfl rfl rfl rfl rfl ⟨rfl, rfl, rfl, rfl, rfl⟩ rfl rfl rfl rfl rfl (by kernel_rfl) Try.func7 (by kernel_rfl)
    (of_decide_eq_true (by kernel_rfl)) (by unfold Func.isWrapper; first | (rw [if_pos (by decide +kernel)]; kernel_rfl) | (rw [if_neg (by decide +kernel)]; exact ⟨rfl, rfl⟩))
    (fun os started H enc _ => lifted os started H enc)

theorem proved : Rows.ChecksumJoinsSaid := over
end Go.Proofs.Ytebipgpbpgoocaa.checksumJoins
namespace Go.Proofs.Ytebipgpbpgoocaa
theorem checksumjoins_holds : Rows.ChecksumJoinsSaid := checksumJoins.proved
end Go.Proofs.Ytebipgpbpgoocaa
#print axioms Go.Proofs.Ytebipgpbpgoocaa.checksumjoins_holds
