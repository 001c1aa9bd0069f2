/- The law ChecksumBytes: changing one byte of an input of at most 2,000 bytes changes its Adler-32 checksum. -/
import Derived.Test.YtebipgpbpgoocaaArg
import Derived.StillTailTactics
import Derived.Test.YtebipgpbpgoocaaRows
import Derived.WalkKit
import Derived.ProofKit
import Derived.OpenShut
import Derived.ShutString
import Derived.ChangeOld
import Derived.Below
namespace Go.Proofs.Ytebipgpbpgoocaa.checksumBytes
open Go.ChangeShapes Go.WideShapes Go.ChangeAt Go.RowKit
open Go.ChangeMaps (open_string shut_string)
set_option linter.unusedVariables false

theorem own : ownKnob Try.prog.godebug = none := by kernel_rfl
theorem laidOut : laidOutB Try.prog = true := by kernel_rfl

def IsRow (k : IntKind) (w : World) (a : Option Addr) (len cap : Nat) (zs : List Int) : Prop :=
  (a = none ∧ len = 0 ∧ cap = 0 ∧ zs = []) ∨
  ∃ x, a = some x ∧ len ≤ cap ∧ cap ≤ maxLen ∧ zs.length = cap ∧ (∀ i, i < zs.length → w.cell? (x.add i) = some (.int k (zs.getD i 0))) ∧ ∀ n ∈ zs, (Lit.int k n).wf = true

set_option maxRecDepth 100000 in
set_option maxHeartbeats 2000000 in
theorem walk (a0 : Option Addr) (len0 cap0 : Nat) (z0 : List Int) (a1 : Int) (a2 : Int) (w : World) (w0 : IsRow .u8 w a0 len0 cap0 z0) (w1 : (Lit.int .u16 a1).wf = true) (w2 : (Lit.int .u8 a2).wf = true) :
    Calls Try.prog 11 #[.slice a0 len0 cap0, .int .u16 a1, .int .u8 a2] w fun e w' => e = .returned (.bool true) ∧ Below w.heap.size w w' := by
  have h1 : 0 ≤ a1 ∧ a1 < 65536 := by simp [Lit.wf, IntKind.min, IntKind.max, IntKind.signed, IntKind.bits] at w1; omega
  have h2 : 0 ≤ a2 ∧ a2 < 256 := by simp [Lit.wf, IntKind.min, IntKind.max, IntKind.signed, IntKind.bits] at w2; omega
  obtain ⟨at_, rfl⟩ := Int.eq_ofNat_of_zero_le h1.1
  obtain ⟨to_, rfl⟩ := Int.eq_ofNat_of_zero_le h2.1
  have hat : at_ < 65536 := by omega
  have hto : to_ < 256 := by omega
  clear w1 w2 h1 h2
  by_cases hl : len0 ≤ 2000 ∧ 0 < len0
  · obtain ⟨hl0, hl1⟩ := hl
    obtain ⟨p, rfl, hr⟩ := rd_of_row w0 (by omega)
    have hd0 : decide ((2000 : Int) < (p.length : Int)) = false := decide_eq_false (by omega)
    have hd1 : ((p.length : Int) == 0) = false := by rw [beq_eq_false_iff_ne]; omega
    have hd2 : (p.length == 0) = false := by rw [beq_eq_false_iff_ne]; omega
    have hil : at_ % p.length < p.length := Nat.mod_lt _ hl1
    have hix : (at_ : Int) % (p.length : Int) = ((at_ % p.length : Nat) : Int) := by omega
    generalize at_ % p.length = i at *
    clear w0
    have HR := Lib.hid hr
    clear hr
    go_enter Try.func11, Try.ntmps11
    go_wp2_with (first
      | (at_builtin
         refine wpList_app_bytes rfl (.tmp 18) (.tmp 19) 22 rfl w.heap.size 5 und22 info5 (.slice none 0 0) [] rfl (OwnB.nil _ _ _) _ _ p rfl HR.out (by simp; omega) (Nat.le_refl _) ?_
         intro v1 w1 hO1 hG1 hat1
         have hB1 : Below w.heap.size w w1 := (Below.refl _ _).grown hG1 (Nat.le_refl _) (by simp [Value.ownBlock])
         rw [List.nil_append] at hO1
         obtain ⟨g, cap1, hv1, hg1, _⟩ := World.ownsRow.form hO1 hl1
         subst hv1
         have hcell := (World.ownsRow.cellAt hO1 i (by omega)).trans (cellsB_get p i hil)
         have hfr := World.ownsRow.frozenAt hO1 i
         have HO1 := Lib.hid hO1
         clear hO1 hG1 hat1))
    obtain ⟨q, hq⟩ : ∃ q, q = p.set i to_ := ⟨_, rfl⟩
    have hset := (World.ownsRow.stored HO1.out i (.int .u8 (to_ : Int))).1
    have hB2 : Below w.heap.size w (w1.setCell ⟨g, i, none⟩ (.int .u8 (to_ : Int))) := hB1.setCell hg1 _
    have hq256 : ∀ c ∈ q, c < 256 := by
      rw [hq]; intro c hc
      rcases List.mem_or_eq_of_mem_set hc with h | h
      · exact HR.out.2.1 c h
      · omega
    have hqc : (cellsB p).set i (.int .u8 (to_ : Int)) = cellsB q := by rw [hq]; simp [cellsB, List.map_set]
    have hql : q.length = p.length := by rw [hq, List.length_set]
    rw [hqc, ← hql] at hset
    have hO2 : OwnB (w1.setCell ⟨g, i, none⟩ (.int .u8 (to_ : Int))) w.heap.size 5 (.slice (some ⟨g, 0, none⟩) q.length cap1) q := hset
    obtain ⟨A2, c2, he2, hR2⟩ := hO2.slice (by omega) hq256
    injection he2 with e1 _ e3
    subst e1 e3
    have hRp := HR.out.below hB2 (Nat.le_refl _)
    have hch := Adler.changed p i to_ hil hto (by obtain ⟨_, _, _, h⟩ := HR.out.at_ hil; exact h)
    rw [← hq] at hch
    obtain ⟨ad, rfl, hcp, _⟩ := hRp.at_ hil
    have hB3 : Below w.heap.size w (w1.setCell ⟨g, i, none⟩ (.int .u8 (to_ : Int))).drew := hB2.drew
    have hc1 : Calls Try.prog 19 #[.slice (some ⟨g, 0, none⟩) p.length cap1] (w1.setCell ⟨g, i, none⟩ (.int .u8 (to_ : Int))).drew fun e w' => e = .returned (.int .u32 ((Adler.sum q : Nat) : Int)) ∧ w' = (w1.setCell ⟨g, i, none⟩ (.int .u8 (to_ : Int))).drew := by
      rw [← hql]
      exact (adler_any _ q cap1 _ (Rd.drew hR2)).mono fun _ _ h => ⟨h.1, h.2.symm⟩
    have hc2 : Calls Try.prog 19 #[.slice (some ad) p.length cap0] (w1.setCell ⟨g, i, none⟩ (.int .u8 (to_ : Int))).drew fun e w' => e = .returned (.int .u32 ((Adler.sum p : Nat) : Int)) ∧ w' = (w1.setCell ⟨g, i, none⟩ (.int .u8 (to_ : Int))).drew :=
      (adler_any _ p cap0 _ (Rd.drew hRp)).mono fun _ _ h => ⟨h.1, h.2.symm⟩
    have hbb : (((Adler.sum q : Nat) : Int) == ((Adler.sum p : Nat) : Int)) = ((to_ : Int) == ((p.getD i 0 : Nat) : Int)) := by
      rw [Bool.eq_iff_iff, beq_iff_eq, beq_iff_eq, Int.ofNat_inj, Int.ofNat_inj]; exact hch
    have hcell2 : (w1.setCell ⟨g, i, none⟩ (.int .u8 (to_ : Int))).drew.cell? (ad.add i) = some (.int .u8 ((p.getD i 0 : Nat) : Int)) := hcp
    refine wp_region_still_tail 13 (by kernel_rfl) (by kernel_rfl) ?_
    change wpStill _ _ (w1.setCell ⟨g, i, none⟩ (.int .u8 (to_ : Int))).drew _ _ _
    change wpStill _ _ _ (fun a' => wpList _ _ _ _ a' (w1.setCell ⟨g, i, none⟩ (.int .u8 (to_ : Int))).drew) _ _
    clear hch hcp hRp hR2 hO2 hset hqc hcell hfr hB1 hg1 HO1 hB2
    generalize (w1.setCell ⟨g, i, none⟩ (.int .u8 (to_ : Int))).drew = w2 at *
    generalize Adler.sum q = sq at *
    generalize Adler.sum p = sp at *
    generalize p.getD i 0 = c at *
    have HC1 := Lib.hid hc1
    have HC2 := Lib.hid hc2
    clear hc1 hc2 hql hq hq256
    simp only [List.take_succ_cons, List.take_zero, List.drop_succ_cons, List.drop_zero]
    obtain ⟨b, hb1, hb2⟩ : ∃ b, ((sq : Int) == (sp : Int)) = b ∧ ((to_ : Int) == (c : Int)) = b := ⟨_, rfl, hbb.symm⟩
    clear hbb
    have hbe : (b == b) = true := by cases b <;> rfl
    still_step
    still_call HC1.out
    still_step
    still_call HC2.out
    still_step
    still_step
    still_step
    still_step
    still_step
    still_step
    still_step
    still_step
    still_step
    refine wpStill_nil ?_
    go_wp2_with fail
    refine (example_any _).mono ?_
    rintro e w4 ⟨rfl, hB4⟩
    go_wp2
    go_ret
    exact ⟨rfl, below_of hB3 hB3.size hB4⟩
  · have hd : (decide ((2000 : Int) < (len0 : Int)) = true) ∨ (decide ((2000 : Int) < (len0 : Int)) = false ∧ ((len0 : Int) == 0) = true) := by
      by_cases h : len0 ≤ 2000
      · exact .inr ⟨decide_eq_false (by omega), by rw [beq_iff_eq]; omega⟩
      · exact .inl (decide_eq_true (by omega))
    clear w0 hl
    rcases hd with hd | ⟨hd, hd1⟩
    all_goals
      go_enter Try.func11, Try.ntmps11
      go_wp2_with fail
      refine (example_any _).mono ?_
      rintro e w2 ⟨rfl, hB2⟩
      go_wp2
      go_ret
      exact ⟨rfl, hB2⟩

set_option maxRecDepth 100000 in
theorem lifted (os : Os) (started : os.Started) (H : Type) (enc : TypeId × Value → H) :
    ReturnsInHanded {} Try.checked os 11 .any (Rows.checksumBytesSpec.pre6 enc Try.prog Try.f11 Rows.checksumBytesRow.domain false) (Rows.checksumBytesSpec.post enc Try.prog Try.f11 false true false false) := by
  refine returnsInHanded_of_change (C := Try.checked) own started (by kernel_rfl) Try.func11
    (ChangeSpec.witness6 (enc := enc) (C := Try.checked) false ⟨#[], #[.slice none 0 0, .int .u16 0, .int .u8 0], []⟩ 8 (by kernel_rfl) (by kernel_rfl) (by kernel_rfl) (by kernel_rfl)) ?_
  intro W base args ds gs before hval0 hW hcnd _
  have hval : ∀ (j : Nat) t v, Try.f11.params[j]? = some t → args[j]? = some v → Value.okWide Try.prog W .any base t v := hval0
  have hW' := hW
  obtain ⟨p, q, hA0, hV, rfl, hfz, hnd⟩ := hW
  have hA : DataW.TrodAll enc Try.prog W 0 (fun _ => true) true Try.f11.params.toList args.toList ds p := hA0
  rw [Try.params11] at hA hval
  obtain ⟨v0, vs0, d0, ds0, p0, q0, hargs, rfl, rfl, h0, r0⟩ := trodAll_cons hA
  obtain ⟨v1, vs1, d1, ds1, p1, q1, rfl, rfl, rfl, h1, r1⟩ := trodAll_cons r0
  obtain ⟨v2, vs2, d2, ds2, p2, q2, rfl, rfl, rfl, h2, r2⟩ := trodAll_cons r1
  obtain ⟨rfl, rfl, rfl⟩ := trodAll_nil r2
  obtain rfl : args = #[v0, v1, v2] := by cases args; simp_all
  obtain ⟨rfl, rfl⟩ := trodVars_none hV
  obtain ⟨a0, len0, cap0, rfl⟩ := okWide_slice Try.underlying22 (hval 0 22 v0 rfl rfl)
  have k0 := h0
  have lt0 : ∀ x ∈ p0, x.block < W.heap.size := by obtain ⟨m, hm⟩ := k0; exact DataW.trod_lt m _ _ _ hm
  obtain ⟨z0, w0⟩ : ∃ zs, IsRow .u8 W a0 len0 cap0 zs := by
    obtain ⟨fuel, hf⟩ := h0
    rcases open_ints Try.underlying22 Try.underlying5 (by kernel_rfl) hf with ⟨hcs, _⟩ | ⟨x, l, c, zs, hcs, _, hl, hm, hz, _, hcell, hwz⟩
    · simp [Value.cells] at hcs
      obtain ⟨rfl, rfl, rfl⟩ := hcs
      exact ⟨[], .inl ⟨rfl, rfl, rfl, rfl⟩⟩
    · simp [Value.cells] at hcs
      obtain ⟨rfl, rfl, rfl⟩ := hcs
      exact ⟨zs, .inr ⟨_, rfl, hl, hm, by simpa using hz, hcell, hwz⟩⟩
  obtain ⟨a1, rfl, rfl, rfl, w1⟩ := open_int Try.underlying27 (hval 1 27 v1 rfl rfl) h1
  obtain ⟨a2, rfl, rfl, rfl, w2⟩ := open_int Try.underlying5 (hval 2 5 v2 rfl rfl) h2
  clear hA0 hval0
  refine (walk a0 len0 cap0 z0 a1 a2 W w0 w1 w2).mono fun e W' ⟨he, bel⟩ => ?_
  subst he
  exact ⟨_, rfl, _, _, _, [], _, [], hW', trodAll_mk1 (shut_bool Try.underlying4 _), (trodAll_cons_mk (Below.trod laidOut (by kernel_rfl) (of_decide_eq_true (by kernel_rfl)) k0 bel lt0) (trodAll_cons_mk (shut_int Try.underlying27 w1) (trodAll_cons_mk (shut_int Try.underlying5 w2) trodAll_mk0))), rfl, bel.frame _, fun h => by cases h⟩

theorem over : Rows.checksumBytesRow.holds Try.pinned (OpenSpec.ofChange Rows.checksumBytesSpec) :=
  OpenClaim.holds_of_wide 11 Try.f11 rfl rfl rfl rfl rfl rfl rfl ⟨rfl, rfl, rfl, rfl, rfl⟩ rfl rfl rfl rfl rfl (by kernel_rfl) Try.func11 (by kernel_rfl)
    (of_decide_eq_true (by kernel_rfl)) (by unfold Func.isWrapper; first | (rw [if_pos (by decide +kernel)]; kernel_rfl) | (rw [if_neg (by decide +kernel)]; exact ⟨rfl, rfl⟩))
    (fun os started H enc _ => lifted os started H enc)

theorem proved : Rows.ChecksumBytesSaid := over
end Go.Proofs.Ytebipgpbpgoocaa.checksumBytes
namespace Go.Proofs.Ytebipgpbpgoocaa
theorem checksumbytes_holds : Rows.ChecksumBytesSaid := checksumBytes.proved
end Go.Proofs.Ytebipgpbpgoocaa
#print axioms Go.Proofs.Ytebipgpbpgoocaa.checksumbytes_holds
