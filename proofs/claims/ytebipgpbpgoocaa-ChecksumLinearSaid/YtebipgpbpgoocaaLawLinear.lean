/- The law ChecksumLinear: the checksum of the xor of two inputs of one length (at most 600 bytes) is the xor of their checksums and that of zeros, for CRC-32 and CRC-16. -/
import Derived.Test.YtebipgpbpgoocaaPad
import Derived.Test.YtebipgpbpgoocaaRows
import Derived.WalkKit
import Derived.ProofKit
import Derived.OpenShut
import Derived.ShutString
import Derived.ChangeOld
import Derived.Below
namespace Go.Proofs.Ytebipgpbpgoocaa.checksumLinear
open Go.ChangeShapes Go.WideShapes Go.ChangeAt Go.RowKit
open Go.ChangeMaps (open_string shut_string)
set_option linter.unusedVariables false

theorem own : ownKnob Try.prog.godebug = none := by kernel_rfl
theorem laidOut : laidOutB Try.prog = true := by kernel_rfl

def IsRow (k : IntKind) (w : World) (a : Option Addr) (len cap : Nat) (zs : List Int) : Prop :=
  (a = none ∧ len = 0 ∧ cap = 0 ∧ zs = []) ∨
  ∃ x, a = some x ∧ len ≤ cap ∧ cap ≤ maxLen ∧ zs.length = cap ∧ (∀ i, i < zs.length → w.cell? (x.add i) = some (.int k (zs.getD i 0))) ∧ ∀ n ∈ zs, (Lit.int k n).wf = true

set_option maxRecDepth 100000 in
set_option maxHeartbeats 2000000 in
theorem walk (a0 : Option Addr) (len0 cap0 : Nat) (z0 : List Int) (a1 : Option Addr) (len1 cap1 : Nat) (z1 : List Int) (w : World) (w0 : IsRow .u8 w a0 len0 cap0 z0) (w1 : IsRow .u8 w a1 len1 cap1 z1) :
    Calls Try.prog 9 #[.slice a0 len0 cap0, .slice a1 len1 cap1] w fun e w' => e = .returned (.bool true) ∧ Below w.heap.size w w' := by
  by_cases hl : len0 ≤ 600
  · obtain ⟨p, rfl, hr⟩ := rd_of_row w0 (by omega)
    have hd0 : decide ((600 : Int) < (p.length : Int)) = false := decide_eq_false (by omega)
    obtain ⟨q, hql, hq⟩ : ∃ q : List Nat, q.length = min len1 1000 ∧ Rd w a1 q := by
      refine rd_of_row (len := min len1 1000) (cap := cap1) (zs := z1) ?_ (by omega)
      rcases w1 with ⟨h1, h2, h3, h4⟩ | ⟨x, h1, h2, h3⟩
      · exact .inl ⟨h1, by omega, h3, h4⟩
      · exact .inr ⟨x, h1, by omega, h3⟩
    clear w0 w1
    have HR := Lib.hid hr
    have HQ := Lib.hid hq
    have HQL := Lib.hid hql
    clear hr hq hql
    go_enter Try.func9, Try.ntmps9
    go_wp2_with fail
    go_loopw [5, 6, 7, 8] (fun va vb vz vi wr => ∃ k : Nat, k ≤ p.length ∧ vi = .int .i64 k ∧ OwnB wr w.heap.size 5 va (padL q k) ∧ OwnB wr w.heap.size 5 vb (xorL p q k) ∧ OwnB wr w.heap.size 5 vz (List.replicate k 0) ∧
      Apart va vb ∧ Apart va vz ∧ Apart vb vz ∧ Below w.heap.size w wr) (fun _ _ _ vi _ => p.length - (intOf vi).toNat)
    case atStart => exact ⟨0, Nat.zero_le _, rfl, OwnB.nil _ _ _, OwnB.nil _ _ _, OwnB.nil _ _ _, Apart.nil _, Apart.nil _, Apart.nil _, Below.refl _ _⟩
    case round =>
      obtain ⟨k, hk, rfl, ha, hb, hz, hab, haz, hbz, hB⟩ := hrel
      by_cases hlt : k < p.length
      · have hd : decide ((k : Int) < (p.length : Int)) = true := decide_eq_true (by omega)
        obtain ⟨ad, rfl, hpc, hp256⟩ := (HR.out.below hB (Nat.le_refl _)).at_ hlt
        have Ha := Lib.hid ha
        have Hb := Lib.hid hb
        have Hz := Lib.hid hz
        have Hab := Lib.hid hab
        have Haz := Lib.hid haz
        have Hbz := Lib.hid hbz
        have HB := Lib.hid hB
        have hla := padL_len q k
        have hlb := xorL_len p q k (by omega)
        have Hla := Lib.hid hla
        have Hlb := Lib.hid hlb
        have Hps := Lib.hid (padL_snoc q k)
        have Hxs := Lib.hid (xorL_snoc p q k hlt)
        have hc256 : q.getD k 0 < 256 := getD_256 HQ.out.2.1 k
        have hsz := hB.size
        clear ha hb hz hab haz hbz hB hla hlb hpc
        have fin : ∀ (v1 v2 v3 : Value) (w1 w2 w3 : World), True := fun _ _ _ _ _ _ => trivial
        clear fin
        obtain ⟨y, hyc, hyq⟩ : ∃ y : Int, y = ((q.getD k 0 : Nat) : Int) ∧ (k < len1 → ∃ ad1 : Addr, a1 = some ad1 ∧ wr.cell? (ad1.add k) = some (.int .u8 y)) ∧ (¬ k < len1 → y = 0) := by
          refine ⟨_, rfl, fun h => ?_, fun h => ?_⟩
          · have hk2 : k < q.length := by rw [HQL.out]; omega
            obtain ⟨ad1, e, hc, _⟩ := (HQ.out.below HB.out (Nat.le_refl _)).at_ hk2
            exact ⟨ad1, e, hc⟩
          · have hk2 : q.length ≤ k := by rw [HQL.out]; omega
            rw [List.getD_eq_getElem?_getD, List.getElem?_eq_none hk2]; rfl
        have hy := hyq.1
        have hz0 := hyq.2
        clear hyq
        generalize hcq : q.getD k 0 = c at *
        have Hcq := Lib.hid hcq
        clear hcq
        generalize hcp : p.getD k 0 = b at *
        have Hcp := Lib.hid hcp
        clear hcp
        have Hyc := Lib.hid hyc
        have hxb : bits .xor .u8 (b : Int) y = ((b ^^^ c : Nat) : Int) := u8_xor_of _ _ _ _ rfl hyc hp256 hc256
        have Hxb := Lib.hid hxb
        clear hyc hxb
        have Hx256 := Lib.hid (xor_256 hp256 hc256)
        have HRr := Lib.hid (HR.out.below HB.out (Nat.le_refl _))
        by_cases hk1 : k < len1
        · have hd1 : decide ((k : Int) < (len1 : Int)) = true := decide_eq_true (by omega)
          obtain ⟨ad1, rfl, hcell1⟩ := hy hk1
          clear hy hz0
          go_wp2_with (first
            | (at_builtin
               refine wpList_app1 rfl (.tmp 30) (.tmp 32) 22 rfl w.heap.size 5 und22 info5 _ _ rfl Ha.out _ c Hyc.out hc256 rfl (by rw [Hla.out]; omega) hsz ?_
               intro v1 w1 hO1 hG1 hat1
               have HO1 := Lib.hid hO1
               have HB1 := Lib.hid (below_grown HB.out hsz Ha.out hG1)
               have Hb1 := Lib.hid (Hb.out.kept hG1 Hab.out.symm)
               have Hz1 := Lib.hid (Hz.out.kept hG1 Haz.out.symm)
               have Hab1 := Lib.hid (Hab.out.app Hb.out hat1)
               have Haz1 := Lib.hid (Haz.out.app Hz.out hat1)
               have hs1 := HB1.out.size
               obtain ⟨ad', hade, hpc1, _⟩ := (HR.out.below HB1.out (Nat.le_refl _)).at_ hlt
               injection hade with hade
               subst hade
               rw [Hcp.out] at hpc1
               clear hO1 hG1 hat1)
            | (at_builtin
               refine wpList_app1 rfl (.tmp 34) (.tmp 41) 22 rfl w.heap.size 5 und22 info5 _ _ rfl Hb1.out _ (b ^^^ c) Hxb.out Hx256.out rfl (by rw [Hlb.out]; omega) hs1 ?_
               intro v2 w2 hO2 hG2 hat2
               have HO2 := Lib.hid hO2
               have HB2 := Lib.hid (below_grown HB1.out hs1 Hb1.out hG2)
               have Ha2 := Lib.hid (HO1.out.kept hG2 Hab1.out)
               have Hz2 := Lib.hid (Hz1.out.kept hG2 Hbz.out.symm)
               have Hab2 := Lib.hid (Hab1.out.symm.app HO1.out hat2).symm
               have Hbz2 := Lib.hid (Hbz.out.app Hz1.out hat2)
               have hs2 := HB2.out.size
               clear hO2 hG2 hat2)
            | (at_builtin
               refine wpList_app1 rfl (.tmp 43) (.tmp 44) 22 rfl w.heap.size 5 und22 info5 _ _ rfl Hz2.out _ 0 rfl (by decide) rfl (by simp; omega) hs2 ?_
               intro v3 w3 hO3 hG3 hat3
               have HO3 := Lib.hid hO3
               have HB3 := Lib.hid (below_grown HB2.out hs2 Hz2.out hG3)
               have Ha3 := Lib.hid (Ha2.out.kept hG3 Haz1.out)
               have Hb3 := Lib.hid (HO2.out.kept hG3 Hbz2.out)
               have Haz3 := Lib.hid (Haz1.out.symm.app Ha2.out hat3).symm
               have Hbz3 := Lib.hid (Hbz2.out.symm.app HO2.out hat3).symm
               clear hO3 hG3 hat3))
          go_roundw
          case rel => exact ⟨k + 1, by omega, by go_num, by rw [Hps.out]; exact Ha3.out, by rw [Hxs.out]; exact Hb3.out, by rw [List.replicate_succ']; exact HO3.out, Hab2.out, Haz3.out, Hbz3.out, HB3.out⟩
          case measure => simp [intOf]; omega
        · have hd1 : decide ((k : Int) < (len1 : Int)) = false := decide_eq_false (by omega)
          obtain rfl := hz0 hk1
          clear hy hz0
          go_wp2_with (first
            | (at_builtin
               refine wpList_app1 rfl (.tmp 30) (.tmp 32) 22 rfl w.heap.size 5 und22 info5 _ _ rfl Ha.out _ c Hyc.out hc256 rfl (by rw [Hla.out]; omega) hsz ?_
               intro v1 w1 hO1 hG1 hat1
               have HO1 := Lib.hid hO1
               have HB1 := Lib.hid (below_grown HB.out hsz Ha.out hG1)
               have Hb1 := Lib.hid (Hb.out.kept hG1 Hab.out.symm)
               have Hz1 := Lib.hid (Hz.out.kept hG1 Haz.out.symm)
               have Hab1 := Lib.hid (Hab.out.app Hb.out hat1)
               have Haz1 := Lib.hid (Haz.out.app Hz.out hat1)
               have hs1 := HB1.out.size
               obtain ⟨ad', hade, hpc1, _⟩ := (HR.out.below HB1.out (Nat.le_refl _)).at_ hlt
               injection hade with hade
               subst hade
               rw [Hcp.out] at hpc1
               clear hO1 hG1 hat1)
            | (at_builtin
               refine wpList_app1 rfl (.tmp 34) (.tmp 41) 22 rfl w.heap.size 5 und22 info5 _ _ rfl Hb1.out _ (b ^^^ c) Hxb.out Hx256.out rfl (by rw [Hlb.out]; omega) hs1 ?_
               intro v2 w2 hO2 hG2 hat2
               have HO2 := Lib.hid hO2
               have HB2 := Lib.hid (below_grown HB1.out hs1 Hb1.out hG2)
               have Ha2 := Lib.hid (HO1.out.kept hG2 Hab1.out)
               have Hz2 := Lib.hid (Hz1.out.kept hG2 Hbz.out.symm)
               have Hab2 := Lib.hid (Hab1.out.symm.app HO1.out hat2).symm
               have Hbz2 := Lib.hid (Hbz.out.app Hz1.out hat2)
               have hs2 := HB2.out.size
               clear hO2 hG2 hat2)
            | (at_builtin
               refine wpList_app1 rfl (.tmp 43) (.tmp 44) 22 rfl w.heap.size 5 und22 info5 _ _ rfl Hz2.out _ 0 rfl (by decide) rfl (by simp; omega) hs2 ?_
               intro v3 w3 hO3 hG3 hat3
               have HO3 := Lib.hid hO3
               have HB3 := Lib.hid (below_grown HB2.out hs2 Hz2.out hG3)
               have Ha3 := Lib.hid (Ha2.out.kept hG3 Haz1.out)
               have Hb3 := Lib.hid (HO2.out.kept hG3 Hbz2.out)
               have Haz3 := Lib.hid (Haz1.out.symm.app Ha2.out hat3).symm
               have Hbz3 := Lib.hid (Hbz2.out.symm.app HO2.out hat3).symm
               clear hO3 hG3 hat3))
          go_roundw
          case rel => exact ⟨k + 1, by omega, by go_num, by rw [Hps.out]; exact Ha3.out, by rw [Hxs.out]; exact Hb3.out, by rw [List.replicate_succ']; exact HO3.out, Hab2.out, Haz3.out, Hbz3.out, HB3.out⟩
          case measure => simp [intOf]; omega
      · have hd : decide ((k : Int) < (p.length : Int)) = false := decide_eq_false (by omega)
        obtain rfl : k = p.length := by omega
        have hp256 := HR.out.2.1
        have hq256 := HQ.out.2.1
        have h32 := lin32 p q
        have h16 := lin16 p q
        obtain ⟨A1, c1, rfl, r1⟩ := ha.slice (by rw [padL_len]; omega) (padL_256 hq256 _)
        obtain ⟨A2, c2, rfl, r2⟩ := hb.slice (by rw [xorL_len _ _ _ (Nat.le_refl _)]; omega) (xorL_256 hp256 hq256 _ (Nat.le_refl _))
        obtain ⟨A3, c3, rfl, r3⟩ := hz.slice (by simp; omega) (rep_256 _)
        have l1 := padL_len q p.length
        have l2 := xorL_len p q p.length (Nat.le_refl _)
        have l3 : (List.replicate p.length 0).length = p.length := by simp
        generalize padL q p.length = la at *
        generalize xorL p q p.length = lb at *
        generalize List.replicate p.length 0 = lz at *
        have b1 := CrcM.crc_lt (p := p) hp256
        have b2 := CrcM.crc_lt (p := la) r1.2.1
        have b3 := CrcM.crc_lt (p := lz) r3.2.1
        have s1 := Crc16.upd_lt (x := 65535) (p := p) (by decide) hp256
        have s2 := Crc16.upd_lt (x := 65535) (p := la) (by decide) r1.2.1
        have s3 := Crc16.upd_lt (x := 65535) (p := lz) (by decide) r3.2.1
        have X1 := Lib.hid (u32_xor_nat _ _ b1 b2)
        have X2 := Lib.hid (u32_xor_of _ _ _ _ X1.out rfl (CrcM.xor_lt b1 b2) b3)
        have Y1 := Lib.hid (u16_xor_nat _ _ s1 s2)
        have Y2 := Lib.hid (u16_xor_of _ _ _ _ Y1.out rfl (Crc16.xor_lt s1 s2) s3)
        have R0 := Lib.hid (HR.out.below hB (Nat.le_refl _))
        have R1 := Lib.hid r1
        have R2 := Lib.hid r2
        have R3 := Lib.hid r3
        have HB := Lib.hid hB
        have H32 := Lib.hid h32
        have H16 := Lib.hid h16
        have L1 := Lib.hid l1
        have L2 := Lib.hid l2
        have L3 := Lib.hid l3
        clear ha hb hz hab haz hbz hB hp256 hq256 h32 h16 r1 r2 r3 l1 l2 l3 b1 b2 b3 s1 s2 s3
        go_wp2_with fail
        refine (crc_any _ p _ _ R0.out).mono ?_
        rintro e x1 ⟨rfl, B1⟩
        have R1a := Lib.hid (R1.out.below B1 (Nat.le_refl _))
        have R2a := Lib.hid (R2.out.below B1 (Nat.le_refl _))
        have R3a := Lib.hid (R3.out.below B1 (Nat.le_refl _))
        have R0a := Lib.hid (R0.out.below B1 (Nat.le_refl _))
        go_wp2_with fail
        refine (crc_any _ la _ _ R1a.out).mono ?_
        rintro e x2 ⟨rfl, B2⟩
        have R1b := Lib.hid (R1a.out.below B2 (Nat.le_refl _))
        have R2b := Lib.hid (R2a.out.below B2 (Nat.le_refl _))
        have R3b := Lib.hid (R3a.out.below B2 (Nat.le_refl _))
        have R0b := Lib.hid (R0a.out.below B2 (Nat.le_refl _))
        go_wp2_with fail
        refine (crc_any _ lz _ _ R3b.out).mono ?_
        rintro e x3 ⟨rfl, B3⟩
        have R1c := Lib.hid (R1b.out.below B3 (Nat.le_refl _))
        have R2c := Lib.hid (R2b.out.below B3 (Nat.le_refl _))
        have R3c := Lib.hid (R3b.out.below B3 (Nat.le_refl _))
        have R0c := Lib.hid (R0b.out.below B3 (Nat.le_refl _))
        have x1e := X1.out
        have x2e := X2.out
        rw [x1e] at x2e
        go_wp2_with fail
        clear x1e x2e
        refine (crc16_any _ p _ _ R0c.out).mono ?_
        rintro e x4 ⟨rfl, rfl⟩
        go_wp2_with fail
        refine (crc16_any _ la _ _ R1c.out).mono ?_
        rintro e x4 ⟨rfl, rfl⟩
        go_wp2_with fail
        refine (crc16_any _ lz _ _ R3c.out).mono ?_
        rintro e x4 ⟨rfl, rfl⟩
        go_wp2_with fail
        refine (crc_any _ lb _ _ R2c.out).mono ?_
        rintro e x5 ⟨rfl, B5⟩
        rw [H32.out]
        have R2d := Lib.hid (R2c.out.below B5 (Nat.le_refl _))
        go_wp2_with fail
        refine (crc16_any _ lb _ _ R2d.out).mono ?_
        rintro e x6 ⟨rfl, rfl⟩
        rw [H16.out]
        unfold Crc16.crc
        have y1e := Y1.out
        have y2e := Y2.out
        rw [y1e] at y2e
        go_wp2_with fail
        clear y1e y2e
        refine (example_any _).mono ?_
        rintro e x7 ⟨rfl, B7⟩
        have G1 := below_of HB.out HB.out.size B1
        have G2 := below_of G1 G1.size B2
        have G3 := below_of G2 G2.size B3
        have G5 := below_of G3 G3.size B5
        go_wp2
        go_ret
        exact ⟨rfl, below_of G5 G5.size B7⟩
  · have hd : decide ((600 : Int) < (len0 : Int)) = true := decide_eq_true (by omega)
    clear w0 w1
    go_enter Try.func9, Try.ntmps9
    go_wp2_with fail
    refine (example_any _).mono ?_
    rintro e w2 ⟨rfl, hB2⟩
    go_wp2
    go_ret
    exact ⟨rfl, hB2⟩

set_option maxRecDepth 100000 in
theorem lifted (os : Os) (started : os.Started) (H : Type) (enc : TypeId × Value → H) :
    ReturnsInHanded {} Try.checked os 9 .any (Rows.checksumLinearSpec.pre6 enc Try.prog Try.f9 Rows.checksumLinearRow.domain false) (Rows.checksumLinearSpec.post enc Try.prog Try.f9 false true false false) := by
  refine returnsInHanded_of_change (C := Try.checked) own started (by kernel_rfl) Try.func9
    (ChangeSpec.witness6 (enc := enc) (C := Try.checked) false ⟨#[], #[.slice none 0 0, .slice none 0 0], []⟩ 8 (by kernel_rfl) (by kernel_rfl) (by kernel_rfl) (by kernel_rfl)) ?_
  intro W base args ds gs before hval0 hW hcnd _
  have hval : ∀ (j : Nat) t v, Try.f9.params[j]? = some t → args[j]? = some v → Value.okWide Try.prog W .any base t v := hval0
  have hW' := hW
  obtain ⟨p, q, hA0, hV, rfl, hfz, hnd⟩ := hW
  have hA : DataW.TrodAll enc Try.prog W 0 (fun _ => true) true Try.f9.params.toList args.toList ds p := hA0
  rw [Try.params9] at hA hval
  obtain ⟨v0, vs0, d0, ds0, p0, q0, hargs, rfl, rfl, h0, r0⟩ := trodAll_cons hA
  obtain ⟨v1, vs1, d1, ds1, p1, q1, rfl, rfl, rfl, h1, r1⟩ := trodAll_cons r0
  obtain ⟨rfl, rfl, rfl⟩ := trodAll_nil r1
  obtain rfl : args = #[v0, v1] := by cases args; simp_all
  obtain ⟨rfl, rfl⟩ := trodVars_none hV
  obtain ⟨a0, len0, cap0, rfl⟩ := okWide_slice Try.underlying22 (hval 0 22 v0 rfl rfl)
  have k0 := h0
  have lt0 : ∀ x ∈ p0, x.block < W.heap.size := by obtain ⟨m, hm⟩ := k0; exact DataW.trod_lt m _ _ _ hm
  obtain ⟨z0, w0⟩ : ∃ zs, IsRow .u8 W a0 len0 cap0 zs := by
    obtain ⟨fuel, hf⟩ := h0
    rcases open_ints Try.underlying22 Try.underlying5 (by kernel_rfl) hf with ⟨hcs, _⟩ | ⟨x, l, c, zs, hcs, _, hl, hm, hz, _, hcell, hwz⟩
    · simp [Value.cells] at hcs
      obtain ⟨rfl, rfl, rfl⟩ := hcs
      exact ⟨[], .inl ⟨rfl, rfl, rfl, rfl⟩⟩
    · simp [Value.cells] at hcs
      obtain ⟨rfl, rfl, rfl⟩ := hcs
      exact ⟨zs, .inr ⟨_, rfl, hl, hm, by simpa using hz, hcell, hwz⟩⟩
  obtain ⟨a1, len1, cap1, rfl⟩ := okWide_slice Try.underlying22 (hval 1 22 v1 rfl rfl)
  have k1 := h1
  have lt1 : ∀ x ∈ p1, x.block < W.heap.size := by obtain ⟨m, hm⟩ := k1; exact DataW.trod_lt m _ _ _ hm
  obtain ⟨z1, w1⟩ : ∃ zs, IsRow .u8 W a1 len1 cap1 zs := by
    obtain ⟨fuel, hf⟩ := h1
    rcases open_ints Try.underlying22 Try.underlying5 (by kernel_rfl) hf with ⟨hcs, _⟩ | ⟨x, l, c, zs, hcs, _, hl, hm, hz, _, hcell, hwz⟩
    · simp [Value.cells] at hcs
      obtain ⟨rfl, rfl, rfl⟩ := hcs
      exact ⟨[], .inl ⟨rfl, rfl, rfl, rfl⟩⟩
    · simp [Value.cells] at hcs
      obtain ⟨rfl, rfl, rfl⟩ := hcs
      exact ⟨zs, .inr ⟨_, rfl, hl, hm, by simpa using hz, hcell, hwz⟩⟩
  clear hA0 hval0
  refine (walk a0 len0 cap0 z0 a1 len1 cap1 z1 W w0 w1).mono fun e W' ⟨he, bel⟩ => ?_
  subst he
  exact ⟨_, rfl, _, _, _, [], _, [], hW', trodAll_mk1 (shut_bool Try.underlying4 _), (trodAll_cons_mk (Below.trod laidOut (by kernel_rfl) (of_decide_eq_true (by kernel_rfl)) k0 bel lt0) (trodAll_cons_mk (Below.trod laidOut (by kernel_rfl) (of_decide_eq_true (by kernel_rfl)) k1 bel lt1) trodAll_mk0)), rfl, bel.frame _, fun h => by cases h⟩

theorem over : Rows.checksumLinearRow.holds Try.pinned (OpenSpec.ofChange Rows.checksumLinearSpec) :=
  OpenClaim.holds_of_wide 9 Try.f9 rfl rfl rfl rfl rfl rfl rfl ⟨rfl, rfl, rfl, rfl, rfl⟩ rfl rfl rfl rfl rfl (by kernel_rfl) Try.func9 (by kernel_rfl)
    (of_decide_eq_true (by kernel_rfl)) (by unfold Func.isWrapper; first | (rw [if_pos (by decide +kernel)]; kernel_rfl) | (rw [if_neg (by decide +kernel)]; exact ⟨rfl, rfl⟩))
    (fun os started H enc _ => lifted os started H enc)

theorem proved : Rows.ChecksumLinearSaid := over
end Go.Proofs.Ytebipgpbpgoocaa.checksumLinear
namespace Go.Proofs.Ytebipgpbpgoocaa
theorem checksumlinear_holds : Rows.ChecksumLinearSaid := checksumLinear.proved
end Go.Proofs.Ytebipgpbpgoocaa
#print axioms Go.Proofs.Ytebipgpbpgoocaa.checksumlinear_holds
