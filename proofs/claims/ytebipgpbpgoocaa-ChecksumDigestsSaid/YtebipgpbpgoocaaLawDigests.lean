/- The law ChecksumDigests: after any sequence of at most 30 calls of Write and Clone on digests, with at most 100 bytes each, every digest has the specified sum and length; the chapter's examples hold. -/
import Derived.Test.YtebipgpbpgoocaaOpl
import Derived.Test.YtebipgpbpgoocaaSts
import Derived.Test.YtebipgpbpgoocaaSeq
import Derived.Test.YtebipgpbpgoocaaRows
import Derived.WalkKit
import Derived.ProofKit
import Derived.OpenShut
import Derived.ShutString
import Derived.ChangeOld
import Derived.Below
namespace Go.Proofs.Ytebipgpbpgoocaa.checksumDigests
open Go.ChangeShapes Go.WideShapes Go.ChangeAt Go.RowKit
open Go.ChangeMaps (open_string shut_string)
set_option linter.unusedVariables false
theorem own : ownKnob Try.prog.godebug = none := by kernel_rfl
theorem laidOut : laidOutB Try.prog = true := by kernel_rfl
set_option maxRecDepth 100000 in
set_option maxHeartbeats 4000000 in
theorem walk (A : Option Addr) (L : List OpT) (c : Nat) (w : World) (hr : RdO w A L) (hl : L.length ≤ 9223372036854775807) :
    Calls Try.prog 12 #[.slice A L.length c] w fun e w' => e = .returned (.bool true) ∧ Below w.heap.size w w' := by
  have HR := Lib.hid hr
  clear hr
  cases hlb : lightB L
  · go_enter Try.func12, Try.ntmps12
    go_wp2_with fail
    refine (light_any A L c w HR.out hl).mono ?_
    rintro e w1 ⟨rfl, rfl⟩
    rw [hlb]
    go_wp2_with fail
    refine (example_any _).mono ?_
    rintro e w9 ⟨rfl, hB9⟩
    go_wp2_with fail
    go_ret
    exact ⟨rfl, hB9⟩
  · obtain ⟨hL30, hL100⟩ := light_all hlb
    have HL100 := Lib.hid hL100
    clear hL100
    go_enter Try.func12, Try.ntmps12
    go_wp2_with fail
    refine (light_any A L c w HR.out hl).mono ?_
    rintro e w1 ⟨rfl, rfl⟩
    rw [hlb]
    clear hlb
    go_wp2_with fail
    refine (newDigest_any w).mono ?_
    rintro e w1 ⟨rfl, hD1, hB1, hz1⟩
    have HD1 := Lib.hid hD1
    have HB1 := Lib.hid hB1
    have HZ1 := Lib.hid hz1
    clear hD1 hB1 hz1
    go_wp2_with fail
    obtain ⟨w2, hu, HVa, HVb, HSD, HSI, HB⟩ : ∃ u, u = (w1.alloc (.cells #[.pointer (some ⟨w.heap.size, 0, none⟩)] 42)).alloc (.cells #[.slice none 0 0] 22) ∧
        Hid (OwnV u w.heap.size 42 (.slice (some ⟨w1.heap.size, 0, none⟩) 1 1) (ptrs [(w.heap.size, [], .slice none 0 0)])) ∧ Hid (OwnV u w.heap.size 22 (.slice (some ⟨w1.heap.size + 1, 0, none⟩) 1 1) (vals [(w.heap.size, [], .slice none 0 0)])) ∧
        Hid (StD u w.heap.size [(w.heap.size, [], .slice none 0 0)]) ∧ Hid (StI [(w.heap.size, [], .slice none 0 0)]) ∧ Hid (Below w.heap.size w u) := by
      have hz := HZ1.out
      have e1 : ptrs [(w.heap.size, [], .slice none 0 0)] = [.pointer (some ⟨w.heap.size, 0, none⟩)] := by unfold ptrs; rfl
      have e2 : vals [(w.heap.size, [], .slice none 0 0)] = [.slice none 0 0] := by unfold vals; rfl
      refine ⟨_, rfl, Lib.hid ?_, Lib.hid ?_, Lib.hid ?_, Lib.hid ?_, Lib.hid ?_⟩
      · rw [e1]; exact (OwnV.lit w1 w.heap.size (by omega) 42 _).below ((Below.refl _ _).alloc (Nat.le_refl _) _)
      · rw [e2]
        have := OwnV.lit (w1.alloc (.cells #[.pointer (some ⟨w.heap.size, 0, none⟩)] 42)) w.heap.size (by simp; omega) 22 (.slice none 0 0)
        rw [World.size_alloc] at this
        exact this
      · intro j s hs
        rcases Nat.eq_zero_or_pos j with h0 | h0
        · subst h0
          simp at hs
          subst hs
          have e : CrcM.upd CrcM.ones [] = CrcM.ones := by simp [CrcM.upd]
          refine ⟨?_, Nat.le_refl _, OwnB.nil _ _ _, by unfold CrcM.Bytes; simp⟩
          show Dig _ w.heap.size (CrcM.upd CrcM.ones []) 0
          rw [e]
          exact Blk.alloc (Blk.alloc HD1.out _) _
        · rw [List.getElem?_eq_none (by simp; omega)] at hs; cases hs
      · intro i j a b ha hb _
        have hi : i < 1 := by
          rcases Nat.lt_or_ge i 1 with h | h
          · exact h
          · rw [List.getElem?_eq_none (by simp; omega)] at ha; cases ha
        have hj : j < 1 := by
          rcases Nat.lt_or_ge j 1 with h | h
          · exact h
          · rw [List.getElem?_eq_none (by simp; omega)] at hb; cases hb
        omega
      · exact (HB1.out.alloc (by omega) _).alloc (by simp; omega) _
    rw [← hu]
    clear hu HD1 HB1 HZ1
    go_loopw [4, 5, 6] (fun va vb vi wr => ∃ (S : List DgS) (i : Nat), i ≤ L.length ∧ vi = .int .i64 (i : Int) ∧ 1 ≤ S.length ∧ S.length ≤ i + 1 ∧ OwnV wr w.heap.size 42 va (ptrs S) ∧ OwnV wr w.heap.size 22 vb (vals S) ∧ StD wr w.heap.size S ∧ StI S ∧ (∀ (j : Nat) (s : DgS), S[j]? = some s → s.2.1.length ≤ 100 * i) ∧ Below w.heap.size w wr) (fun _ _ vi _ => L.length - (intOf vi).toNat)
    case atStart =>
      refine ⟨[(w.heap.size, [], .slice none 0 0)], 0, Nat.zero_le _, rfl, Nat.le_refl _, Nat.le_refl _, HVa.out, HVb.out, HSD.out, HSI.out, fun j s hs => ?_, HB.out⟩
      rcases Nat.eq_zero_or_pos j with h0 | h0
      · subst h0
        simp at hs
        subst hs
        exact Nat.zero_le _
      · rw [List.getElem?_eq_none (by simp; omega)] at hs; cases hs
    case round =>
      clear HVa HVb HSD HSI HB
      obtain ⟨S, i, hi, rfl, hS1, hS2, hVa, hVb, hSD, hSI, hSl, hB⟩ := hrel
      have HVa := Lib.hid hVa
      have HVb := Lib.hid hVb
      have HSD := Lib.hid hSD
      have HSI := Lib.hid hSI
      have HSl := Lib.hid hSl
      have HB := Lib.hid hB
      have hw0 := hB.size
      obtain ⟨ga, ca, hva, hga, hga2, ⟨cura, hbla⟩, hcella, _, _⟩ := hVa.form (by rw [ptrs_len]; omega)
      obtain ⟨gb, cb, hvb, hgb, hgb2, ⟨curb, hblb⟩, hcellb, _, _⟩ := hVb.form (by rw [vals_len]; omega)
      rw [ptrs_len] at hva
      rw [vals_len] at hvb
      subst hva hvb
      have HCA := Lib.hid hcella
      have HCB := Lib.hid hcellb
      have HBLA := Lib.hid hbla
      have HBLB := Lib.hid hblb
      clear hVa hVb hSD hSI hSl hB hcella hcellb hbla hblb
      by_cases hlt : i < L.length
      · have hd : decide ((i : Int) < (L.length : Int)) = true := decide_eq_true (by omega)
        obtain ⟨bk, off, rfl, hbk, hc⟩ := HR.out (by omega)
        obtain ⟨ot, ho⟩ : ∃ ot, L[i]? = some ot := ⟨_, List.getElem?_eq_getElem hlt⟩
        obtain ⟨k0, k1, k2, hrow, hkd, hon⟩ := hc i ot ho
        have hlen := HL100.out i ot ho
        obtain ⟨p, hpl, hRd⟩ := rd_of_row hrow (by omega)
        obtain ⟨kind, on, B, len, cap, zs⟩ := ot
        simp only [] at k0 k1 k2 hkd hon hlen hpl hRd
        subst hpl
        have HRd := Lib.hid hRd
        have K : ∀ w', Below w.heap.size w w' → w'.cell? ⟨bk, off + i * 3, none⟩ = some (.int .u8 (kind : Int)) ∧ w'.cell? ⟨bk, off + i * 3 + 1, none⟩ = some (.int .u8 (on : Int)) ∧ w'.cell? ⟨bk, off + i * 3 + 2, none⟩ = some (.slice B p.length cap) := fun w' hb =>
          ⟨(hb.cell (by simp only []; omega)).trans k0, (hb.cell (by simp only []; omega)).trans k1, (hb.cell (by simp only []; omega)).trans k2⟩
        have HK := Lib.hid K
        clear hc ho hrow hRd K k0 k1 k2
        obtain ⟨k0, k1, k2⟩ := HK.out _ HB.out
        have hmod := Nat.mod_lt on (show 0 < S.length by omega)
        have t1 : (on : Int).tmod (S.length : Int) = ((on % S.length : Nat) : Int) := (Int.ofNat_tmod on S.length).symm
        have hS0 : ((S.length : Int) == 0) = false := by rw [beq_eq_false_iff_ne]; omega
        have hS0' : ¬ S.length = 0 := by omega
        have t2 : (kind : Int).tmod 2 = ((kind % 2 : Nat) : Int) := (Int.ofNat_tmod kind 2).symm
        have hm2 := Nat.mod_lt kind (show 0 < 2 by omega)
        generalize hkk : on % S.length = k at *
        clear hkk
        generalize kind % 2 = q at *
        obtain ⟨⟨gk, pk, vk⟩, hsk⟩ : ∃ s, S[k]? = some s := ⟨_, List.getElem?_eq_getElem hmod⟩
        obtain ⟨hDk, hgk, hOk, hBk⟩ := HSD.out k _ hsk
        have hlk := HSl.out k _ hsk
        simp only [] at hDk hgk hOk hBk hlk
        obtain ⟨Ak, ck, rfl, hRk⟩ := hOk.slice (by omega) hBk
        have HSK := Lib.hid hsk
        have HDK := Lib.hid hDk
        have HOK := Lib.hid hOk
        have HBK := Lib.hid hBk
        have HRK := Lib.hid hRk
        have ca0 := HCA.out k _ (ptrs_get hsk)
        have cb0 := HCB.out k _ (vals_get hsk)
        simp only [] at ca0 cb0
        have hk0 : (0 : Int) ≤ (k : Int) := by omega
        have hk1 : (k : Int) < (S.length : Int) := by omega
        have hi0 : (0 : Int) ≤ (i : Int) := by omega
        have hi1 : (i : Int) < (L.length : Int) := by omega
        clear hsk hDk hOk hBk hRk
        by_cases hq : q = 0
        · have hq' : ((q : Int) == 0) = true := by rw [beq_iff_eq]; omega
          go_wp2_with fail
          clear k0 k1 k2 ca0 cb0
          have hKC : ∀ w', Below wr.heap.size wr w' → w'.cell? ⟨ga, k, none⟩ = some (.pointer (some ⟨gk, 0, none⟩)) ∧ w'.cell? ⟨bk, off + i * 3 + 2, none⟩ = some (.slice B p.length cap) := fun w' hb =>
            ⟨(hb.cell (by simp only []; omega)).trans (HCA.out k _ (ptrs_get HSK.out)), (HK.out _ (HB.out.trans (hb.mono hw0))).2.2⟩
          have HKC := Lib.hid hKC
          have hBC : Below wr.heap.size wr wr.drew := (Below.refl _ _).drew
          clear hKC
          refine wp_region_seq (S := fun w' => Below wr.heap.size wr w') 9 [(0, true), (1, true), (2, true), (3, true), (4, true), (5, true), (6, true), (7, true), (8, true)] (by kernel_rfl) rfl (by kernel_rfl) hBC ?_
          generalize wr.drew = wd at hBC ⊢
          simp only [List.map_cons, List.map_nil, List.getD_cons_succ, List.getD_cons_zero, List.drop_succ_cons, List.drop_zero]
          iterate 9
            refine wpSeq_take (v := ?_) (by rfl) ?_ ?_
            rotate_left
            · intro w' hw'
              obtain ⟨k1, k2⟩ := HKC.out w' hw'
              go_simp
              try with_reducible rfl
            simp only [Act.put, List.setIfInBounds_toArray, List.set_cons_zero, List.set_cons_succ]
          refine wpSeq_nil ?_
          go_wp2_with fail
          have hDd : Dig wd gk (CrcM.upd CrcM.ones pk) pk.length := Blk.below HDK.out hBC (Blk.lt HDK.out)
          have hRdd : Rd wd B p := HRd.out.below (HB.out.trans (hBC.mono hw0)) (Nat.le_refl _)
          refine (write_any wd gk (CrcM.upd CrcM.ones pk) pk.length (CrcM.upd_lt CrcM.ones_lt HBK.out) hDd B p cap (by omega) hRdd).mono ?_
          rintro e w3 ⟨rfl, hD3, hg3⟩
          rw [← CrcM.upd_append, ← List.length_append] at hD3
          have HD3 := Lib.hid hD3
          have HG3 : Hid (wr.grownBy w3 (some gk)) := Lib.hid ⟨hg3.os.trans hBC.os, hg3.tape.trans hBC.tape, hg3.output.trans hBC.output, Nat.le_trans hBC.size hg3.size, fun z hz hne => (hg3.block z (Nat.lt_of_lt_of_le hz hBC.size) hne).trans (hBC.block z hz)⟩
          have hVa3 := Lib.hid (show OwnV w3 w.heap.size 42 _ (ptrs S) from World.ownsRow.kept HVa.out HG3.out (ownsRow_ne_blk HVa.out HDK.out (by decide)))
          have hVb3 := Lib.hid (show OwnV w3 w.heap.size 22 _ (vals S) from World.ownsRow.kept HVb.out HG3.out (ownsRow_ne_blk HVb.out HDK.out (by decide)))
          have HB3 := Lib.hid (HB.out.grown HG3.out hw0 (by intro z hz; injection hz with hz; omega))
          have h3s := HG3.out.size
          have hs3 : w.heap.size ≤ w3.heap.size := by omega
          have hOk3 : OwnB w3 w.heap.size 5 (.slice Ak pk.length ck) pk := World.ownsRow.kept HOK.out HG3.out (ownsRow_ne_blk HOK.out HDK.out (by decide))
          obtain ⟨A', c', he, hRk3⟩ := hOk3.slice (by omega) HBK.out
          injection he with e1 _ e3
          subst e1 e3
          have hneb : some gb ≠ some gk := fun e => row_ne_blk HVb.out HDK.out (by decide) e.symm
          have HBLB3 := Lib.hid (Blk.grown_ HBLB.out HG3.out hneb)
          have cb3 : w3.cell? ⟨gb, k, none⟩ = some (.slice Ak pk.length ck) := (World.cell?_of_block (HG3.out.block gb hgb2 hneb)).trans (HCB.out k _ (vals_get HSK.out))
          have hBb : CrcM.Bytes (pk ++ p) := by
            intro z hz
            rw [List.mem_append] at hz
            rcases hz with hz | hz
            · exact HBK.out z hz
            · exact HRd.out.2.1 z hz
          have HBb := Lib.hid hBb
          have HRk3 := Lib.hid hRk3
          clear hD3 hg3 hOk3 hneb hBb hDd hRdd hRk3
          go_wp2_with fail
          refine NoPanic.normal ?_
          go_wp2_with (first
            | (at_builtin; refine wpList_app_bytes rfl _ _ 22 rfl w3.heap.size 5 Try.underlying22 info5 _ [] rfl (OwnB.nil _ _ _) Ak ck pk rfl HRk3.out (by simp; omega) (Nat.le_refl _) ?_; intro v4 w4 hO4 hg4 _; rw [List.nil_append] at hO4; have hB34 : Below w3.heap.size w3 w4 := below_grown (Below.refl _ _) (Nat.le_refl _) (OwnB.nil w3 w3.heap.size 5) hg4; have hRd4 : Rd w4 B p := HRd.out.below (HB3.out.trans (hB34.mono hs3)) (Nat.le_refl _); have k24 := (HK.out _ (HB3.out.trans (hB34.mono hs3))).2.2)
            | (at_builtin; refine wpList_app_bytes rfl _ _ 22 rfl w3.heap.size 5 Try.underlying22 info5 _ pk rfl hO4 B cap p rfl hRd4 (by omega) hB34.size ?_; intro v5 w5 hO5 hg5 _; have hB35 : Below w3.heap.size w3 w5 := below_grown hB34 hB34.size hO4 hg5; obtain ⟨A5, c5, rfl, _⟩ := hO5.slice (by rw [List.length_append]; omega) HBb.out; have hb5 := Blk.below HBLB3.out hB35 (Blk.lt HBLB3.out); have hf5 := Blk.frozen hb5 k; have hc5 : w5.cell? ⟨gb, k, none⟩ = some (.slice Ak pk.length ck) := (hB35.cell (by simp only []; omega)).trans cb3))
          have hVa5 := OwnV.below hVa3.out hB35
          have hVb5 := OwnV.below hVb3.out hB35
          obtain ⟨g', q', he, _, _, _, _, _, hset⟩ := hVb5.form (by rw [vals_len]; omega)
          rw [vals_len] at he hset
          injection he with e1 _ e3
          injection e1 with e1
          injection e1 with e1
          subst e1 e3
          go_roundw
          case rel =>
            have hO5' : OwnB w5 w3.heap.size 5 (.slice A5 (pk.length + p.length) c5) (pk ++ p) := by rw [← List.length_append]; exact hO5
            refine ⟨S.set k (gk, pk ++ p, .slice A5 (pk.length + p.length) c5), i + 1, by omega, by go_num, by rw [List.length_set]; exact hS1, by rw [List.length_set]; omega, ?_, ?_, ?_, ?_, ?_, ?_⟩
            · rw [ptrs_set (s' := (gk, pk ++ p, .slice A5 (pk.length + p.length) c5)) HSK.out rfl]; exact World.ownsRow.kept hVa5 (grown_set w5 gb k _) (ownsRow_ne_blk hVa5 hb5 (by decide))
            · rw [vals_set]; exact hset k _ hmod
            · exact StD.set_ (StD.written HSD.out HSI.out HSK.out HG3.out HD3.out hB35 hO5' hs3 HBb.out) hb5 (by decide) (by decide) _
            · exact HSI.out.set HSK.out rfl
            · intro j s hs
              by_cases hjk : k = j
              · subst hjk
                rw [List.getElem?_set_self hmod] at hs
                injection hs with hs
                subst hs
                simp only [List.length_append]
                omega
              · rw [List.getElem?_set_ne hjk] at hs
                have := HSl.out j s hs
                omega
            · exact (HB3.out.trans (hB35.mono hs3)).setCell (p := ⟨gb, k, none⟩) hgb _
          case measure => simp [intOf]; omega
        · have hq' : ((q : Int) == 0) = false := by rw [beq_eq_false_iff_ne]; omega
          go_wp2_with fail
          clear k0 k1 k2 ca0 cb0
          refine (clone_any wr gk (CrcM.upd CrcM.ones pk) pk.length HDK.out).mono ?_
          rintro e w3 ⟨rfl, hD3, hB3, hz3⟩
          have hVa3 := OwnV.below HVa.out hB3
          have hVb3 := OwnV.below HVb.out hB3
          have hSD3 := StD.below HSD.out hB3
          have hBw3 := HB.out.trans (hB3.mono hw0)
          have hs3 : w.heap.size ≤ w3.heap.size := hBw3.size
          clear hz3
          go_wp2_with (first
            | (at_builtin; refine wpList_app1V rfl _ _ 44 rfl w.heap.size 42 (.pointer none) 8 Try.underlying44 info42 rfl (by decide) _ (ptrs S) rfl hVa3 _ (.pointer (some ⟨wr.heap.size, 0, none⟩)) rfl rfl rfl (by rw [ptrs_len]; omega) hs3 ?_; intro v4 w4 hO4 hg4; have hVb4 : OwnV w4 w.heap.size 22 _ (vals S) := World.ownsRow.kept hVb3 hg4 (ownsRow_ne_row hVb3 hVa3 (by decide)); have hSD4 := StD.app hSD3 hVa3 (by decide) (by decide) hg4; have hD4 : Dig w4 wr.heap.size (CrcM.upd CrcM.ones pk) pk.length := Blk.grown_ hD3 hg4 (row_ne_blk hVa3 hD3 (by decide)); have hBw4 := hBw3.grown hg4 hs3 (fun z hz => OwnV.base_ hVa3 z hz); have hs4 : w.heap.size ≤ w4.heap.size := hBw4.size; have cb4 : w4.cell? ⟨gb, k, none⟩ = some (.slice Ak pk.length ck) := by (have h := World.ownsRow.cells hVb4 (g := gb) rfl k _ (vals_get HSK.out)); rw [Addr.add_lit, Nat.zero_add] at h; exact h)
            | (at_builtin; refine wpList_app1V rfl _ _ 45 rfl w.heap.size 22 (.slice none 0 0) 24 Try.underlying45 info22 rfl (by decide) _ (vals S) rfl hVb4 _ (.slice Ak pk.length ck) rfl rfl rfl (by rw [vals_len]; omega) hs4 ?_; intro v5 w5 hO5 hg5))
          have hO45 : OwnV w5 w.heap.size 42 v4 _ := World.ownsRow.kept hO4 hg5 (ownsRow_ne_row hO4 hVb4 (by decide))
          have hSD5 := StD.app hSD4 hVb4 (by decide) (by decide) hg5
          have hD5 : Dig w5 wr.heap.size (CrcM.upd CrcM.ones pk) pk.length := Blk.grown_ hD4 hg5 (row_ne_blk hVb4 hD4 (by decide))
          have hBw5 := hBw4.grown hg5 hs4 (fun z hz => OwnV.base_ hVb4 z hz)
          go_roundw
          case rel =>
            refine ⟨S ++ [(wr.heap.size, pk, .slice Ak pk.length ck)], i + 1, by omega, by go_num, by rw [List.length_append]; omega, by rw [List.length_append]; simp; omega, ?_, ?_, ?_, ?_, ?_, hBw5⟩
            · rw [ptrs_snoc]; exact hO45
            · rw [vals_snoc]; exact hO5
            · exact StD.snoc hSD5 ⟨hD5, hw0, (hSD5 k _ HSK.out).2.2.1, HBK.out⟩
            · exact HSI.out.snoc (fun j a ha e => by have := Blk.lt (HSD.out j a ha).1; simp only [] at e; omega)
            · intro j s hs
              rw [List.getElem?_append] at hs
              split at hs
              · have := HSl.out j s hs; omega
              · rcases Nat.eq_zero_or_pos (j - S.length) with h0 | h0
                · rw [h0] at hs
                  simp at hs
                  subst hs
                  simp only []
                  omega
                · rw [List.getElem?_eq_none (by simp; omega)] at hs; cases hs
          case measure => simp [intOf]; omega
      · have hd : decide ((i : Int) < (L.length : Int)) = false := decide_eq_false (by omega)
        go_wp2_with fail
        have hS31 : S.length ≤ 31 := by omega
        have HSl31 := Lib.hid (fun (j : Nat) (s : DgS) (hs : S[j]? = some s) => (show s.2.1.length ≤ 3000 by have := HSl.out j s hs; omega))
        go_loopw [10] (fun vj wx => ∃ j : Nat, j ≤ S.length ∧ vj = .int .i64 (j : Int) ∧ OwnV wx w.heap.size 42 (.slice (some ⟨ga, 0, none⟩) S.length ca) (ptrs S) ∧ OwnV wx w.heap.size 22 (.slice (some ⟨gb, 0, none⟩) S.length cb) (vals S) ∧ StD wx w.heap.size S ∧ Below w.heap.size w wx) (fun vj _ => S.length - (intOf vj).toNat)
        case atStart => exact ⟨0, Nat.zero_le _, rfl, HVa.out, HVb.out, HSD.out, HB.out⟩
        case round =>
          clear HVa HVb HSD HB HCA HCB HBLA HBLB
          obtain ⟨j, hj, rfl, hVa, hVb, hSD, hB⟩ := hrel
          have HVa := Lib.hid hVa
          have HVb := Lib.hid hVb
          have HSD := Lib.hid hSD
          have HB := Lib.hid hB
          clear hVa hVb hSD hB
          by_cases hjl : j < S.length
          · have hdj : decide ((j : Int) < (S.length : Int)) = true := decide_eq_true (by omega)
            obtain ⟨⟨gj, pj, vj⟩, hsj⟩ : ∃ s, S[j]? = some s := ⟨_, List.getElem?_eq_getElem hjl⟩
            obtain ⟨hDj, _, hOj, hBj⟩ := HSD.out j _ hsj
            have hlj := HSl31.out j _ hsj
            simp only [] at hDj hOj hBj hlj
            obtain ⟨Aj, cj, rfl, hRj⟩ := hOj.slice (by omega) hBj
            have HSJ := Lib.hid hsj
            have HDJ := Lib.hid hDj
            have HRJ := Lib.hid hRj
            have HBJ := Lib.hid hBj
            have hcs : (CrcM.upd CrcM.ones pj) ^^^ CrcM.ones = CrcM.crc pj := rfl
            have hlt2 := CrcM.upd_lt CrcM.ones_lt hBj
            have hj0 : (0 : Int) ≤ (j : Int) := by omega
            have hj1 : (j : Int) < (S.length : Int) := by omega
            clear hsj hDj hOj hBj hRj
            go_wp2_with fail
            have hKC : ∀ w', Below wr.heap.size wr w' → w'.cell? ⟨ga, j, none⟩ = some (.pointer (some ⟨gj, 0, none⟩)) ∧ w'.cell? ⟨gb, j, none⟩ = some (.slice Aj pj.length cj) := fun w' hb => by
              have h1 := World.ownsRow.cells (OwnV.below HVa.out hb) (g := ga) rfl j _ (ptrs_get HSJ.out)
              have h2 := World.ownsRow.cells (OwnV.below HVb.out hb) (g := gb) rfl j _ (vals_get HSJ.out)
              rw [Addr.add_lit, Nat.zero_add] at h1 h2
              exact ⟨h1, h2⟩
            have HKC := Lib.hid hKC
            have hBC : Below wr.heap.size wr wr.drew := (Below.refl _ _).drew
            clear hKC
            obtain ⟨cr, hcr⟩ : ∃ cr, Hid (cr = CrcM.crc pj) := ⟨_, Lib.hid rfl⟩
            have hne1 : ((cr : Int) != (cr : Int)) = false := by rw [bne_eq_false_iff_eq]
            have hne2 : ((pj.length : Int) != (pj.length : Int)) = false := by rw [bne_eq_false_iff_eq]
            refine wp_region_seq (S := fun w' => Below wr.heap.size wr w') 23 [(0, true), (1, true), (2, true), (3, true), (5, true), (6, true), (7, true), (8, true), (4, false), (9, false), (10, true), (11, true), (12, true), (13, true), (14, true), (15, true), (17, true), (18, true), (19, true), (20, true), (21, true), (16, false), (22, true)] (by kernel_rfl) rfl (by kernel_rfl) hBC ?_
            generalize wr.drew = wd at hBC ⊢
            have hDd : Dig wd gj (CrcM.upd CrcM.ones pj) pj.length := Blk.below HDJ.out hBC (Blk.lt HDJ.out)
            have hRdd : Rd wd Aj pj := HRJ.out.below hBC (Nat.le_refl _)
            have HDD := Lib.hid hDd
            have HRDD := Lib.hid hRdd
            clear hDd hRdd
            simp only [List.map_cons, List.map_nil, List.getD_cons_succ, List.getD_cons_zero, List.drop_succ_cons, List.drop_zero]
            iterate 8
              refine wpSeq_take (v := ?_) (by rfl) ?_ ?_
              rotate_left
              · intro w' hw'
                obtain ⟨k1, k2⟩ := HKC.out w' hw'
                go_simp
                try with_reducible rfl
              simp only [Act.put, List.setIfInBounds_toArray, List.set_cons_zero, List.set_cons_succ]
            refine wpSeq_step fun K hK => ?_
            go_simp
            go_at_call 28
            refine (sum_any wd gj (CrcM.upd CrcM.ones pj) pj.length hlt2 HDD.out).mono ?_
            rintro e w9 ⟨rfl, rfl⟩
            rw [hcs, ← hcr.out]
            refine hK.out _ _ hBC ?_
            clear hK K
            try simp only [Act.put, List.setIfInBounds_toArray, List.set_cons_zero, List.set_cons_succ]
            refine wpSeq_step fun K hK => ?_
            go_simp
            go_at_call 15
            refine (refcrc_any Aj pj cj wd HRDD.out).mono ?_
            rintro e w9 ⟨rfl, rfl⟩
            rw [← hcr.out]
            refine hK.out _ _ hBC ?_
            clear hK K
            try simp only [Act.put, List.setIfInBounds_toArray, List.set_cons_zero, List.set_cons_succ]
            iterate 11
              refine wpSeq_take (v := ?_) (by rfl) ?_ ?_
              rotate_left
              · intro w' hw'
                obtain ⟨k1, k2⟩ := HKC.out w' hw'
                go_simp
                try with_reducible rfl
              simp only [Act.put, List.setIfInBounds_toArray, List.set_cons_zero, List.set_cons_succ]
            refine wpSeq_step fun K hK => ?_
            go_simp
            go_at_call 29
            refine (len_any wd gj (CrcM.upd CrcM.ones pj) pj.length HDD.out).mono ?_
            rintro e w9 ⟨rfl, rfl⟩
            refine hK.out _ _ hBC ?_
            clear hK K
            try simp only [Act.put, List.setIfInBounds_toArray, List.set_cons_zero, List.set_cons_succ]
            iterate 1
              refine wpSeq_take (v := ?_) (by rfl) ?_ ?_
              rotate_left
              · intro w' hw'
                obtain ⟨k1, k2⟩ := HKC.out w' hw'
                go_simp
                try with_reducible rfl
              simp only [Act.put, List.setIfInBounds_toArray, List.set_cons_zero, List.set_cons_succ]
            refine wpSeq_nil ?_
            go_wp2_with fail
            refine NoPanic.normal ?_
            have hVad := OwnV.below HVa.out hBC
            have hVbd := OwnV.below HVb.out hBC
            have hSDd := StD.below HSD.out hBC
            have hBd := HB.out.trans (hBC.mono HB.out.size)
            go_wp2_with fail
            go_roundw
            case rel => exact ⟨j + 1, by omega, by go_num, hVad, hVbd, hSDd, hBd⟩
            case measure => simp [intOf]; omega
          · have hdj : decide ((j : Int) < (S.length : Int)) = false := decide_eq_false (by omega)
            go_wp2_with fail
            refine (example_any _).mono ?_
            rintro e w9 ⟨rfl, hB9⟩
            have HB9 := Lib.hid (HB.out.trans (hB9.mono HB.out.size))
            go_wp2_with fail
            go_ret
            exact ⟨rfl, HB9.out⟩
set_option maxRecDepth 100000 in
theorem lifted (os : Os) (started : os.Started) (H : Type) (enc : TypeId × Value → H) :
    ReturnsInHanded {} Try.checked os 12 .any (Rows.checksumDigestsSpec.pre6 enc Try.prog Try.f12 Rows.checksumDigestsRow.domain false) (Rows.checksumDigestsSpec.post enc Try.prog Try.f12 false true false false) := by
  refine returnsInHanded_of_change (C := Try.checked) own started (by kernel_rfl) Try.func12
    (ChangeSpec.witness6 (enc := enc) (C := Try.checked) false ⟨#[], #[.slice none 0 0], []⟩ 8 (by kernel_rfl) (by kernel_rfl) (by kernel_rfl) (by kernel_rfl)) ?_
  intro W base args ds gs before hval0 hW hcnd _
  have hval : ∀ (j : Nat) t v, Try.f12.params[j]? = some t → args[j]? = some v → Value.okWide Try.prog W .any base t v := hval0
  have hW' := hW
  obtain ⟨p, q, hA0, hV, rfl, hfz, hnd⟩ := hW
  have hA : DataW.TrodAll enc Try.prog W 0 (fun _ => true) true Try.f12.params.toList args.toList ds p := hA0
  rw [Try.params12] at hA hval
  obtain ⟨v0, vs0, d0, ds0, p0, q0, hargs, rfl, rfl, h0, r0⟩ := trodAll_cons hA
  obtain ⟨rfl, rfl, rfl⟩ := trodAll_nil r0
  obtain rfl : args = #[v0] := by cases args; simp_all
  obtain ⟨rfl, rfl⟩ := trodVars_none hV
  have k0 := h0
  have lt0 : ∀ x ∈ p0, x.block < W.heap.size := by obtain ⟨m, hm⟩ := k0; exact DataW.trod_lt m _ _ _ hm
  obtain ⟨A, L, c, hv, hr, hl⟩ := open_ops (hval 0 40 v0 rfl rfl) h0
  clear h0
  subst hv
  clear hA0 hval0
  refine (walk A L c W hr hl).mono fun e W' ⟨he, bel⟩ => ?_
  subst he
  exact ⟨_, rfl, _, _, _, [], _, [], hW', trodAll_mk1 (shut_bool Try.underlying4 _), (trodAll_cons_mk (Below.trod laidOut (by kernel_rfl) (of_decide_eq_true (by kernel_rfl)) k0 bel lt0) trodAll_mk0), rfl, bel.frame _, fun h => by cases h⟩
theorem over : Rows.checksumDigestsRow.holds Try.pinned (OpenSpec.ofChange Rows.checksumDigestsSpec) :=
  OpenClaim.holds_of_wide 12 Try.f12 rfl rfl rfl rfl rfl rfl rfl ⟨rfl, rfl, rfl, rfl, rfl⟩ rfl rfl rfl rfl rfl (by kernel_rfl) Try.func12 (by kernel_rfl)
    (of_decide_eq_true (by kernel_rfl)) (by unfold Func.isWrapper; first | (rw [if_pos (by decide +kernel)]; kernel_rfl) | (rw [if_neg (by decide +kernel)]; exact ⟨rfl, rfl⟩))
    (fun os started H enc _ => lifted os started H enc)
end Go.Proofs.Ytebipgpbpgoocaa.checksumDigests
namespace Go.Proofs.Ytebipgpbpgoocaa
theorem checksumdigests_holds : Rows.ChecksumDigestsSaid := checksumDigests.over
end Go.Proofs.Ytebipgpbpgoocaa
#print axioms Go.Proofs.Ytebipgpbpgoocaa.checksumdigests_holds
