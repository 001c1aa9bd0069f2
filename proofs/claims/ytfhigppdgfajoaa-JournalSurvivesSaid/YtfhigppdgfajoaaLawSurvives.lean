/- The law JournalSurvives: the records before a place from which on the bytes are replaced are recovered; the chapter's examples hold. -/
import Derived.Test.YtfhigppdgfajoaaWri
import Derived.Test.YtfhigppdgfajoaaRows
import Derived.WalkKit
import Derived.ProofKit
import Derived.OpenShut
import Derived.ShutString
import Derived.ChangeOld
import Derived.Below
namespace Go.Proofs.Ytfhigppdgfajoaa.journalSurvives
open Go.ChangeShapes Go.WideShapes Go.ChangeAt Go.RowKit
open Go.ChangeMaps (open_string shut_string)
set_option linter.unusedVariables false
theorem own : ownKnob Try.prog.godebug = none := by kernel_rfl
theorem laidOut : laidOutB Try.prog = true := by kernel_rfl
theorem keep_has : ∀ (ps : List (List Nat)) (m i : Nat), i < ps.length → sz (ps.take (i + 1)) ≤ m → i < (keep m ps).length
  | [], m, i, h, _ => by simp at h
  | p :: ps, m, 0, _, h => by
    simp [sz] at h
    rw [keep, if_pos (by omega)]
    simp
  | p :: ps, m, i + 1, h1, h => by
    simp only [List.take_succ_cons, sz, List.length_cons] at h h1
    rw [keep, if_pos (by omega)]
    have := keep_has ps (m - (p.length + 8)) i (by omega) (by omega)
    simp only [List.length_cons]
    omega
set_option maxRecDepth 100000 in
set_option maxHeartbeats 8000000 in
theorem walk (A0 : Option Addr) (L : List ElT) (c0 : Nat) (a1 : Int) (A2 : Option Addr) (l2 c2 : Nat) (w : World) (hL : ArgL w A0 L) (hLc : L.length ≤ c0) (hc0 : c0 ≤ 9223372036854775807) (w1 : (Lit.int .i64 a1).wf = true) (b2 : ArgB w A2 l2 c2) :
    Calls Try.prog 5 #[.slice A0 L.length c0, .int .i64 a1, .slice A2 l2 c2] w fun e w' => e = .returned (.bool true) ∧ Below w.heap.size w w' := by
  have ho1 := b2.1
  by_cases h40 : 40 < L.length
  · have hd : decide (40 < (L.length : Int)) = true := decide_eq_true (by omega)
    have hd' : decide (40 < L.length) = true := decide_eq_true h40
    clear hL b2
    go_enter Try.func5, Try.ntmps5
    go_wp2_with fail
    refine (alive_any _).mono ?_
    rintro e w9 ⟨rfl, hB9⟩
    go_wp2_with fail
    go_ret
    exact ⟨rfl, hB9⟩
  · have hd : decide (40 < (L.length : Int)) = false := decide_eq_false (by omega)
    have hd' : decide (40 < L.length) = false := decide_eq_false h40
    by_cases hbig : 3000 < sumL L
    · have hcall := size_any A0 L c0 w hL (by omega)
      obtain ⟨s, hs⟩ : ∃ s, s = min (sumL L) 1048576 := ⟨_, rfl⟩
      rw [← hs] at hcall
      have he : decide (3000 < (s : Int)) = true := decide_eq_true (by omega)
      have he' : decide (3000 < s) = true := decide_eq_true (by omega)
      have HC := Lib.hid hcall
      clear hL hcall hs b2
      go_enter Try.func5, Try.ntmps5
      go_wp2_with fail
      refine HC.out.mono ?_
      rintro e w2 ⟨rfl, hB2⟩
      go_wp2_with fail
      refine (alive_any _).mono ?_
      rintro e w9 ⟨rfl, hB9⟩
      go_wp2_with fail
      go_ret
      exact ⟨rfl, hB2.trans (hB9.mono hB2.size)⟩
    · have hcall := size_any A0 L c0 w hL (by omega)
      obtain ⟨ps, hlen, hR, hsz, _⟩ := argL_rds hL (by omega) (fun o ho => by have := sumL_mem ho; omega)
      rw [← hlen] at hcall hd hd' hLc h40 ⊢
      obtain ⟨s, hs⟩ : ∃ s, s = min (sumL L) 1048576 := ⟨_, rfl⟩
      rw [← hs] at hcall
      have he : decide (3000 < (s : Int)) = false := decide_eq_false (by omega)
      have he' : decide (3000 < s) = false := decide_eq_false (by omega)
      have hz : sz ps ≤ 3000 := by omega
      have HC := Lib.hid hcall
      have HR := Lib.hid hR
      clear hL hcall hs hR hsz hlen hbig
      by_cases hoth : 500 < l2
      · have hf : decide (500 < (l2 : Int)) = true := decide_eq_true (by omega)
        have hf' : decide (500 < l2) = true := decide_eq_true hoth
        clear b2
        go_enter Try.func5, Try.ntmps5
        go_wp2_with fail
        refine HC.out.mono ?_
        rintro e w2 ⟨rfl, hB2⟩
        go_wp2_with fail
        refine (alive_any _).mono ?_
        rintro e w9 ⟨rfl, hB9⟩
        go_wp2_with fail
        go_ret
        exact ⟨rfl, hB2.trans (hB9.mono hB2.size)⟩
      · have hf : decide (500 < (l2 : Int)) = false := decide_eq_false (by omega)
        have hf' : decide (500 < l2) = false := decide_eq_false hoth
        obtain ⟨o, rfl, hso⟩ := b2.2.2 (by omega)
        have SO := Lib.hid hso
        clear b2 hso
        go_enter Try.func5, Try.ntmps5
        go_wp2_with fail
        refine HC.out.mono ?_
        rintro e w2 ⟨rfl, hB2⟩
        have HB2 := Lib.hid hB2
        clear hB2
        go_wp2_with fail
        refine (written_any A0 ps c0 _ (HR.out.below HB2.out (Nat.le_refl _)) hz).mono ?_
        rintro e w3 ⟨g, rfl, hJ3, hB3⟩
        have HB3 := Lib.hid (HB2.out.trans (hB3.mono HB2.out.size))
        have HJ3 := Lib.hid (hJ3.mono HB2.out.size)
        clear hJ3 hB3 HC
        go_wp2_with fail
        refine (bytes_any w.heap.size g ps _ HJ3.out).mono ?_
        rintro e w4 ⟨v4, rfl, hO4, hB4⟩
        obtain ⟨A4, c4, rfl, hS4⟩ := hO4.sl (by rw [encs_len]; omega) (encs_bytes HR.out.bytes)
        have HB4 := Lib.hid (HB3.out.trans (hB4.mono HB3.out.size))
        have HS4 := Lib.hid hS4
        obtain ⟨z, hzz⟩ : ∃ z, Hid (z = sz ps) := ⟨_, Lib.hid rfl⟩
        rw [encs_len, ← hzz.out]
        rw [← hzz.out] at hz
        clear hO4 hB4 hS4 HJ3
        by_cases hneg : a1 < 0
        · have hn : decide (a1 < 0) = true := decide_eq_true hneg
          go_wp2_with fail
          refine (alive_any _).mono ?_
          rintro e w9 ⟨rfl, hB9⟩
          go_wp2_with fail
          go_ret
          exact ⟨rfl, HB4.out.trans (hB9.mono HB4.out.size)⟩
        · have hn : decide (a1 < 0) = false := decide_eq_false hneg
          by_cases hbad : (z : Int) < a1
          · have hb2 : decide ((z : Int) < a1) = true := decide_eq_true hbad
            go_wp2_with fail
            refine (alive_any _).mono ?_
            rintro e w9 ⟨rfl, hB9⟩
            go_wp2_with fail
            go_ret
            exact ⟨rfl, HB4.out.trans (hB9.mono HB4.out.size)⟩
          · have hb2 : decide ((z : Int) < a1) = false := decide_eq_false hbad
            obtain ⟨a, rfl⟩ : ∃ a : Nat, a1 = (a : Int) := ⟨a1.toNat, by omega⟩
            have hb2' : decide (z < a) = false := decide_eq_false (by omega)
            have hzc := HS4.out.2.1
            have hzc2 := HS4.out.2.2.1
            rw [encs_len, ← hzz.out] at hzc
            have hm0 : (0 : Int) ≤ (a : Int) := by omega
            have hm1 : (a : Int) ≤ (z : Int) := by omega
            have hm2 : (a : Int) ≤ (c4 : Int) := by omega
            have hm3 : a ≤ c4 := by omega
            have haz : a ≤ z := by omega
            clear hbad hneg w1
            obtain ⟨B, hBe⟩ : ∃ B, Hid (B = (encs ps).take a) := ⟨_, Lib.hid rfl⟩
            have hBl : B.length = a := by rw [hBe.out, List.length_take, encs_len, ← hzz.out]; omega
            have HBL := Lib.hid hBl
            have HRB : Hid (Rd w4 A4 B) := Lib.hid (by rw [hBe.out]; exact HS4.out.1.take a)
            obtain ⟨C, hCe⟩ : ∃ C, Hid (C = B ++ o) := ⟨_, Lib.hid rfl⟩
            have hCl : C.length = a + o.length := by rw [hCe.out, List.length_append, HBL.out]
            have HCL := Lib.hid hCl
            have hCb : ∀ c ∈ C, c < 256 := by rw [hCe.out]; exact bytes_app HRB.out.2.1 SO.out.1.2.1
            have HCB := Lib.hid hCb
            clear hBl hCl hCb
            have hw4 := HB4.out.size
            have key4 : ∀ W, W = w4 → Hid (Rd W A4 B) := fun W h => by rw [h]; exact HRB
            go_wp2_with (first
              | (at_builtin; refine wpList_fresh rfl _ _ rfl w.heap.size rfl A4 c4 B (by rw [HBL.out]; rfl) HRB.out hw4 ?_; intro v5 w5 hO5 hB5; have hBw5 := HB4.out.trans (hB5.mono hw4); have hs5 : w.heap.size ≤ w5.heap.size := hBw5.size; have hro := SO.out.1.below hBw5 (Nat.le_refl _))
              | (at_builtin; refine wpList_app_bytes rfl _ _ 22 rfl w.heap.size 5 Try.underlying22 info5 _ B rfl hO5 A2 c2 o rfl hro (by rw [HBL.out]; omega) hs5 ?_; intro v6 w6 hO6 hg6 _; rw [← hCe.out] at hO6; have hBw6 := below_grown hBw5 hs5 hO5 hg6; obtain ⟨A6, c6, rfl, hS6⟩ := hO6.sl (by rw [HCL.out]; omega) HCB.out; have HB6 := Lib.hid hBw6; have HS6 := Lib.hid hS6; clear hO6 hg6 hBw6 hS6))
            clear hO5 hB5 hBw5 hs5 hro
            refine (recover_any A6 C c6 _ HS6.out).mono ?_
            rintro e w7 ⟨v7, rfl, hR7, hB7⟩
            obtain ⟨ms, hms⟩ : ∃ ms, Hid (ms = (rcv C).1) := ⟨_, Lib.hid rfl⟩
            obtain ⟨k, hk⟩ : ∃ k, Hid (k = (rcv C).2) := ⟨_, Lib.hid rfl⟩
            unfold RcvR at hR7
            rw [← hms.out, ← hk.out] at hR7
            obtain ⟨u7, rfl, hO7⟩ := hR7
            obtain ⟨r1, r2, r3, r4⟩ := rcv_ok C
            rw [← hms.out, ← hk.out] at r1
            rw [← hk.out] at r2
            rw [← hms.out] at r3 r4
            have HR1 := Lib.hid r1
            have HR4 := Lib.hid r4
            have hmsl : ∀ p ∈ ms, p.length ≤ 140737488351232 := fun p hp => by have := r4 p hp; omega
            obtain ⟨A7, c7, rfl, hR7⟩ := hO7.rds (by omega) hmsl
            have HB7 := Lib.hid (HB6.out.trans (hB7.mono HB6.out.size))
            have HS7 := Lib.hid (HS6.out.below hB7)
            have HR7 := Lib.hid hR7
            have HENC := Lib.hid (show encs ms = C.take k by rw [hms.out, hk.out]; exact encs_rcv HCB.out)
            have HPRE : Hid (∃ t, ms = keep a ps ++ t) := Lib.hid (by
              have hgood : ∀ p ∈ ps, Good p := fun p hp => ⟨by have := sz_mem hp; rw [← hzz.out] at this; omega, HR.out.bytes p hp⟩
              obtain ⟨t, ht⟩ : ∃ t, B = encs (keep a ps) ++ t := by
                obtain ⟨t, ht⟩ := keep_pre ps a
                have h := congrArg encs ht
                rw [encs_append] at h
                have hl := keep_sz ps a
                rw [← encs_len] at hl
                exact ⟨(encs t).take (a - (encs (keep a ps)).length), by rw [hBe.out, h, List.take_append, List.take_of_length_le hl]⟩
              have hl2 := keep_len ps a
              have := rcvF_enc (keep a ps) 65536 (t ++ o) (by omega) (fun p hp => hgood p (keep_mem p hp))
              rw [← List.append_assoc, ← ht, ← hCe.out] at this
              exact ⟨_, by rw [hms.out]; unfold rcv; rw [this]⟩)
            clear r1 r4 hO7 hB7 hR7 hmsl HRB key4
            go_wp2_with fail
            go_loopw [13, 65] (fun ve vi wr => ∃ i : Nat, i ≤ ps.length ∧ vi = .int .i64 (i : Int) ∧ ve = .int .i64 ((sz (ps.take i) : Nat) : Int) ∧ Below w7.heap.size w7 wr) (fun _ vi _ => ps.length - (intOf vi).toNat)
            case atStart => exact ⟨0, Nat.zero_le _, rfl, rfl, Below.refl _ _⟩
            case round =>
              obtain ⟨i, hi, rfl, rfl, hB⟩ := hrel
              have HB := Lib.hid hB
              have hw0 := hB.size
              have HBw := Lib.hid (HB7.out.trans (hB.mono HB7.out.size))
              have HRL := Lib.hid (HR.out.below HBw.out (Nat.le_refl _))
              have HRM := Lib.hid (HR7.out.below hB (Nat.le_refl _))
              clear hB
              obtain ⟨y, hy⟩ : ∃ y, Hid (y = sz (ps.take i)) := ⟨_, Lib.hid rfl⟩
              rw [← hy.out]
              by_cases hd2 : i < ps.length
              · have hdd : decide ((i : Int) < (ps.length : Int)) = true := decide_eq_true (by omega)
                have hi0 : (0 : Int) ≤ (i : Int) := by omega
                have hi1 : (i : Int) < (ps.length : Int) := by omega
                have hwi : IntKind.i64.wrap ((i : Int) + 1) = ((i + 1 : Nat) : Int) := by rw [IntKind.wrap_i64]; omega
                obtain ⟨p, hp⟩ : ∃ p, Hid (p = ps.getD i []) := ⟨_, Lib.hid rfl⟩
                have hpi : ps[i]? = some p := by rw [hp.out, List.getD_eq_getElem?_getD, List.getElem?_eq_getElem hd2]; rfl
                obtain ⟨bk, of_, Aj, cj, rfl, hbk, hcj, hSj, _⟩ := HRL.out.2 i p hpi
                have T1 : ps.take (i + 1) = ps.take i ++ [p] := by rw [List.take_add_one, hpi]; rfl
                have hz1 := sz_take ps (i + 1)
                have hsx : sz (ps.take (i + 1)) = y + (p.length + 8) := by rw [T1, sz_app, ← hy.out]; simp [sz]
                have HSX := Lib.hid hsx
                rw [hsx, ← hzz.out] at hz1
                obtain ⟨y8, hy8⟩ : ∃ y8 : Nat, Hid (y8 = y + 8) := ⟨_, Lib.hid rfl⟩
                obtain ⟨x, hx⟩ : ∃ x : Nat, Hid (x = y8 + p.length) := ⟨_, Lib.hid rfl⟩
                have hwy : IntKind.i64.wrap ((y : Int) + 8) = (y8 : Int) := by rw [IntKind.wrap_i64]; have := hy8.out; omega
                have hwx : IntKind.i64.wrap ((y8 : Int) + (p.length : Int)) = (x : Int) := by rw [IntKind.wrap_i64]; have := hy8.out; have := hx.out; omega
                have HPI := Lib.hid hpi
                have HCJ := Lib.hid hcj
                have HSJ := Lib.hid hSj
                clear hz1 hsx hpi hSj
                by_cases hxa : x ≤ a
                · have hle : decide ((x : Int) ≤ (a : Int)) = true := decide_eq_true (by omega)
                  have hle' : decide (x ≤ a) = true := decide_eq_true hxa
                  obtain ⟨t, ht⟩ := HPRE.out
                  have hik : ps.take (i + 1) = keep (sz (ps.take (i + 1))) (ps.take (i + 1)) := (keep_all _ _ (Nat.le_refl _)).symm
                  have hmi : ms[i]? = some p := by
                    have hki : i < (keep a ps).length := keep_has ps a i hd2 (by rw [HSX.out]; have := hx.out; have := hy8.out; omega)
                    obtain ⟨t2, ht2⟩ := keep_pre ps a
                    rw [ht, List.getElem?_append_left hki]
                    have h3 := HPI.out
                    rw [ht2, List.getElem?_append_left hki] at h3
                    exact h3
                  have hml : i < ms.length := by
                    rcases Nat.lt_or_ge i ms.length with h | h
                    · exact h
                    · rw [List.getElem?_eq_none h] at hmi; cases hmi
                  obtain ⟨bm, om, Am, cm, rfl, hbm, hcm, hSm, _⟩ := HRM.out.2 i p hmi
                  have hge : decide ((ms.length : Int) ≤ (i : Int)) = false := decide_eq_false (by omega)
                  have hge' : decide (ms.length ≤ i) = false := decide_eq_false (by omega)
                  have hmi1 : (i : Int) < (ms.length : Int) := by omega
                  have HCM := Lib.hid hcm
                  have HSM := Lib.hid hSm
                  obtain ⟨sp, hsp⟩ : ∃ sp, Hid (sp = strN p) := ⟨_, Lib.hid rfl⟩
                  clear hik hmi hcm hSm T1 ht
                  go_wp2_with fail
                  clear hcj
                  have hBC : Below wr.heap.size wr wr.drew := (Below.refl _ _).drew
                  refine wp_region_seq (S := fun w' => Below wr.heap.size wr w') 21 [(0, true), (1, true), (2, true), (3, true), (4, true), (5, true), (6, true), (7, true), (8, true), (9, true), (10, true), (11, true), (12, true), (13, true), (14, true), (15, true), (16, true), (17, true), (18, true), (19, true), (20, true)] (by kernel_rfl) rfl (by kernel_rfl) hBC ?_
                  generalize wr.drew = wd at hBC ⊢
                  simp only [List.map_cons, List.map_nil, List.getD_cons_succ, List.getD_cons_zero, List.drop_succ_cons, List.drop_zero]
                  have hspp : (sp.toList == sp.toList) = true := by rw [beq_iff_eq]
                  iterate 21
                    refine wpSeq_take (v := ?_) (by rfl) ?_ ?_
                    rotate_left
                    · intro w' hw'
                      have k1 := (hw'.cell (p := ⟨bk, of_ + i, none⟩) hbk).trans HCJ.out
                      have k2 := (hw'.cell (p := ⟨bm, om + i, none⟩) hbm).trans HCM.out
                      have k3 := run_conv (HSJ.out.below hw' (Nat.le_refl _)) cj
                      have k4 := run_conv (HSM.out.below hw' (Nat.le_refl _)) cm
                      rw [← hsp.out] at k3 k4
                      clear hw'
                      go_simp
                      try with_reducible rfl
                    simp only [Act.put, List.setIfInBounds_toArray, List.set_cons_zero, List.set_cons_succ]
                  refine wpSeq_nil ?_
                  have HBD := Lib.hid (HB.out.trans (hBC.mono hw0))
                  clear hBC
                  go_wp2_with fail
                  refine NoPanic.normal ?_
                  go_wp2_with fail
                  go_roundw
                  case rel => exact ⟨i + 1, by omega, by go_num, by rw [HSX.out]; have := hx.out; have := hy8.out; exact val_int (by omega), HBD.out⟩
                  case measure => simp [intOf]; omega
                · have hle : decide ((x : Int) ≤ (a : Int)) = false := decide_eq_false (by omega)
                  have hle' : decide (x ≤ a) = false := decide_eq_false hxa
                  clear T1
                  go_wp2_with fail
                  have hBC : Below wr.heap.size wr wr.drew := (Below.refl _ _).drew
                  refine wp_region_seq (S := fun w' => Below wr.heap.size wr w') 21 [(0, true), (1, true), (2, true), (3, true), (4, true), (5, true), (6, true), (7, true), (8, true), (9, true), (10, true), (11, true), (12, true), (13, true), (14, true), (15, true), (16, true), (17, true), (18, true), (19, true), (20, true)] (by kernel_rfl) rfl (by kernel_rfl) hBC ?_
                  generalize wr.drew = wd at hBC ⊢
                  simp only [List.map_cons, List.map_nil, List.getD_cons_succ, List.getD_cons_zero, List.drop_succ_cons, List.drop_zero]
                  iterate 4
                    refine wpSeq_take (v := ?_) (by rfl) ?_ ?_
                    rotate_left
                    · intro w' hw'
                      clear hw'
                      go_simp
                      try with_reducible rfl
                    simp only [Act.put, List.setIfInBounds_toArray, List.set_cons_zero, List.set_cons_succ]
                  iterate 17
                    refine wpSeq_idle (by rfl) ?_
                    simp only [Act.put, List.setIfInBounds_toArray, List.set_cons_zero, List.set_cons_succ]
                  refine wpSeq_nil ?_
                  have HBD := Lib.hid (HB.out.trans (hBC.mono hw0))
                  clear hBC
                  go_wp2_with fail
                  refine NoPanic.normal ?_
                  go_wp2_with fail
                  go_roundw
                  case rel => exact ⟨i + 1, by omega, by go_num, by rw [HSX.out]; have := hx.out; have := hy8.out; exact val_int (by omega), HBD.out⟩
                  case measure => simp [intOf]; omega
              · have hdd : decide ((i : Int) < (ps.length : Int)) = false := decide_eq_false (by omega)
                obtain ⟨w8, hw8⟩ : ∃ w8, w8 = wr := ⟨_, rfl⟩
                subst hw8
                have hkk : ((k : Int) != (k : Int)) = false := by rw [bne_eq_false_iff_eq]
                go_wp2_with fail
                go_loopw [15, 101] (fun vs vi wr => ∃ i : Nat, i ≤ ms.length ∧ vi = .int .i64 (i : Int) ∧ vs = .int .i64 ((sz (ms.take i) : Nat) : Int) ∧ wr = w8) (fun _ vi _ => ms.length - (intOf vi).toNat)
                case atStart => exact ⟨0, Nat.zero_le _, rfl, rfl, rfl⟩
                case round =>
                  obtain ⟨i, hi, rfl, rfl, rfl⟩ := hrel
                  obtain ⟨y, hy⟩ : ∃ y, Hid (y = sz (ms.take i)) := ⟨_, Lib.hid rfl⟩
                  rw [← hy.out]
                  by_cases hd2 : i < ms.length
                  · have hdd : decide ((i : Int) < (ms.length : Int)) = true := decide_eq_true (by omega)
                    have hi0 : (0 : Int) ≤ (i : Int) := by omega
                    have hi1 : (i : Int) < (ms.length : Int) := by omega
                    have hwi : IntKind.i64.wrap ((i : Int) + 1) = ((i + 1 : Nat) : Int) := by rw [IntKind.wrap_i64]; omega
                    obtain ⟨p, hp⟩ : ∃ p, Hid (p = ms.getD i []) := ⟨_, Lib.hid rfl⟩
                    have hpi : ms[i]? = some p := by rw [hp.out, List.getD_eq_getElem?_getD, List.getElem?_eq_getElem hd2]; rfl
                    obtain ⟨bm, om, Am, cm, rfl, hbm, hcm, hSm, _⟩ := HRM.out.2 i p hpi
                    have T1 : ms.take (i + 1) = ms.take i ++ [p] := by rw [List.take_add_one, hpi]; rfl
                    have hz1 := sz_take ms (i + 1)
                    have hsx : sz (ms.take (i + 1)) = y + (p.length + 8) := by rw [T1, sz_app, ← hy.out]; simp [sz]
                    have HSX := Lib.hid hsx
                    rw [hsx, HR1.out] at hz1
                    obtain ⟨y8, hy8⟩ : ∃ y8 : Nat, Hid (y8 = y + 8) := ⟨_, Lib.hid rfl⟩
                    obtain ⟨x, hx⟩ : ∃ x : Nat, Hid (x = y8 + p.length) := ⟨_, Lib.hid rfl⟩
                    have hCL2 := HCL.out
                    have hwy : IntKind.i64.wrap ((y : Int) + 8) = (y8 : Int) := by rw [IntKind.wrap_i64]; have := hy8.out; omega
                    have hwx : IntKind.i64.wrap ((y8 : Int) + (p.length : Int)) = (x : Int) := by rw [IntKind.wrap_i64]; have := hy8.out; have := hx.out; omega
                    clear hz1 hsx hpi hSm T1 hCL2
                    go_wp2_with fail
                    go_roundw
                    case rel => exact ⟨i + 1, by omega, by go_num, by rw [HSX.out]; have := hx.out; have := hy8.out; exact val_int (by omega), by first | rfl | trivial⟩
                    case measure => simp [intOf]; omega
                  · have hdd : decide ((i : Int) < (ms.length : Int)) = false := decide_eq_false (by omega)
                    have hyk : y = k := by
                      have h1 := hy.out
                      rw [List.take_of_length_le (by omega), HR1.out] at h1
                      exact h1
                    subst hyk
                    have HS8 := Lib.hid (HS7.out.below HB.out)
                    have HKC := Lib.hid r2
                    go_wp2_with fail
                    refine (open_any A6 C c6 _ HS8.out).mono ?_
                    rintro e w9 ⟨v9, rfl, hR9, hB9⟩
                    unfold OpnR at hR9
                    have hCL2 := HCL.out
                    rw [if_pos (by omega), ← hms.out] at hR9
                    obtain ⟨g2, rfl, hJ9⟩ := hR9
                    have HJ9 := Lib.hid (hJ9.mono HBw.out.size)
                    have HB9 := Lib.hid (HBw.out.trans (hB9.mono HBw.out.size))
                    have HS9 := Lib.hid (HS8.out.below hB9)
                    have HRM9 := Lib.hid (HRM.out.below hB9 (Nat.le_refl _))
                    have hyc : decide ((C.length : Int) < (y : Int)) = false := decide_eq_false (by omega)
                    have hyc' : decide (C.length < y) = false := decide_eq_false (by omega)
                    have hcc := HS9.out.2.1
                    have hcc2 := HS9.out.2.2.1
                    have hm0' : (0 : Int) ≤ (y : Int) := by omega
                    have hm1' : (y : Int) ≤ (C.length : Int) := by omega
                    have hm2' : (y : Int) ≤ (c6 : Int) := by omega
                    have hm3' : y ≤ c6 := by omega
                    clear hJ9 hB9 hCL2
                    go_wp2_with fail
                    have hBC : Below w9.heap.size w9 w9.drew := (Below.refl _ _).drew
                    refine wp_region_seq (S := fun w' => Below w9.heap.size w9 w') 17 [(0, true), (3, true), (4, true), (5, true), (6, true), (1, false), (2, false), (7, true), (8, true), (9, true), (11, true), (10, false), (12, false), (13, true), (14, true), (15, false), (16, true)] (by kernel_rfl) rfl (by kernel_rfl) hBC ?_
                    generalize w9.drew = wd at hBC ⊢
                    simp only [List.map_cons, List.map_nil, List.getD_cons_succ, List.getD_cons_zero, List.drop_succ_cons, List.drop_zero]
                    obtain ⟨E, hE⟩ : ∃ E, Hid (E = encs ms) := ⟨_, Lib.hid rfl⟩
                    have hEl : Hid (E.length = y) := Lib.hid (by rw [hE.out, encs_len]; exact HR1.out)
                    have hRE : Hid (Rd w9 A6 E) := Lib.hid (by rw [hE.out, HENC.out]; exact HS9.out.1.take y)
                    obtain ⟨st, hst⟩ : ∃ st, Hid (st = strN E) := ⟨_, Lib.hid rfl⟩
                    have hstt : (st.toList == st.toList) = true := by rw [beq_iff_eq]
                    iterate 5
                      refine wpSeq_take (v := ?_) (by rfl) ?_ ?_
                      rotate_left
                      · intro w' hw'
                        have k1 := run_conv (hRE.out.below hw' (Nat.le_refl _)) c6
                        rw [hEl.out, ← hst.out] at k1
                        clear hw'
                        go_simp
                        try with_reducible rfl
                      simp only [Act.put, List.setIfInBounds_toArray, List.set_cons_zero, List.set_cons_succ]
                    refine wpSeq_step fun K hK => ?_
                    go_simp
                    go_at_call 16
                    refine (bytes_any w.heap.size g2 ms _ (HJ9.out.below hBC)).mono ?_
                    rintro e w10 ⟨v10, rfl, hO10, hB10⟩
                    rw [← hE.out] at hO10
                    obtain ⟨A10, c10, rfl, hr10⟩ := hO10.slice hRE.out.1 hRE.out.2.1
                    have hB910 := hBC.trans (hB10.mono hBC.size)
                    have k10 := run_conv hr10 c10
                    rw [← hst.out] at k10
                    refine hK.out _ _ hB910 ?_
                    clear hK K
                    try simp only [Act.put, List.setIfInBounds_toArray, List.set_cons_zero, List.set_cons_succ]
                    refine wpSeq_step fun K hK => ?_
                    go_simp
                    refine hK.out _ _ hB910 ?_
                    clear hK K k10
                    try simp only [Act.put, List.setIfInBounds_toArray, List.set_cons_zero, List.set_cons_succ]
                    iterate 4
                      refine wpSeq_take (v := ?_) (by rfl) ?_ ?_
                      rotate_left
                      · intro w' hw'
                        clear hw'
                        go_simp
                        try with_reducible rfl
                      simp only [Act.put, List.setIfInBounds_toArray, List.set_cons_zero, List.set_cons_succ]
                    refine wpSeq_step fun K hK => ?_
                    go_simp
                    go_at_call 18
                    refine (records_any w.heap.size g2 ms _ (HJ9.out.below hB910)).mono ?_
                    rintro e w11 ⟨v11, rfl, hO11, hB11⟩
                    obtain ⟨A11, c11, rfl, hR11⟩ := hO11.rds (by omega) (fun p hp => by have := HR4.out p hp; omega)
                    have hB911 := hB910.trans (hB11.mono hB910.size)
                    refine hK.out _ _ hB911 ?_
                    clear hK K
                    try simp only [Act.put, List.setIfInBounds_toArray, List.set_cons_zero, List.set_cons_succ]
                    refine wpSeq_step fun K hK => ?_
                    go_simp
                    go_at_call 13
                    refine (same_any A11 A7 ms ms c11 c7 w11 hR11 (HRM9.out.below hB911 (Nat.le_refl _))).mono ?_
                    rintro e w12 ⟨rfl, hB12⟩
                    rw [show decide (ms = ms) = true from decide_eq_true rfl]
                    have hB912 := hB911.trans (hB12.mono hB911.size)
                    refine hK.out _ _ hB912 ?_
                    clear hK K
                    try simp only [Act.put, List.setIfInBounds_toArray, List.set_cons_zero, List.set_cons_succ]
                    iterate 2
                      refine wpSeq_take (v := ?_) (by rfl) ?_ ?_
                      rotate_left
                      · intro w' hw'
                        clear hw'
                        go_simp
                        try with_reducible rfl
                      simp only [Act.put, List.setIfInBounds_toArray, List.set_cons_zero, List.set_cons_succ]
                    refine wpSeq_step fun K hK => ?_
                    go_simp
                    go_at_call 8
                    refine (alive_any _).mono ?_
                    rintro e w13 ⟨rfl, hB13⟩
                    have hB913 := hB912.trans (hB13.mono hB912.size)
                    refine hK.out _ _ hB913 ?_
                    clear hK K
                    try simp only [Act.put, List.setIfInBounds_toArray, List.set_cons_zero, List.set_cons_succ]
                    iterate 1
                      refine wpSeq_take (v := ?_) (by rfl) ?_ ?_
                      rotate_left
                      · intro w' hw'
                        clear hw'
                        go_simp
                        try with_reducible rfl
                      simp only [Act.put, List.setIfInBounds_toArray, List.set_cons_zero, List.set_cons_succ]
                    refine wpSeq_nil ?_
                    go_wp2_with fail
                    refine NoPanic.normal ?_
                    go_wp2_with fail
                    go_ret
                    exact ⟨rfl, HB9.out.trans (hB913.mono HB9.out.size)⟩
set_option maxRecDepth 100000 in
theorem lifted (os : Os) (started : os.Started) (H : Type) (enc : TypeId × Value → H) :
    ReturnsInHanded {} Try.checked os 5 .any (Rows.journalSurvivesSpec.pre6 enc Try.prog Try.f5 Rows.journalSurvivesRow.domain false) (Rows.journalSurvivesSpec.post enc Try.prog Try.f5 false true false false) := by
  refine returnsInHanded_of_change (C := Try.checked) own started (by kernel_rfl) Try.func5
    (ChangeSpec.witness6 (enc := enc) (C := Try.checked) false ⟨#[], #[.slice none 0 0, .int .i64 0, .slice none 0 0], []⟩ 8 (by kernel_rfl) (by kernel_rfl) (by kernel_rfl) (by kernel_rfl)) ?_
  intro W base args ds gs before hval0 hW hcnd _
  have hval : ∀ (j : Nat) t v, Try.f5.params[j]? = some t → args[j]? = some v → Value.okWide Try.prog W .any base t v := hval0
  have hW' := hW
  obtain ⟨p, q, hA0, hV, rfl, hfz, hnd⟩ := hW
  have hA : DataW.TrodAll enc Try.prog W 0 (fun _ => true) true Try.f5.params.toList args.toList ds p := hA0
  rw [Try.params5] at hA hval
  obtain ⟨v0, vs0, d0, ds0, p0, q0, hargs, rfl, rfl, h0, r0⟩ := trodAll_cons hA
  obtain ⟨v1, vs1, d1, ds1, p1, q1, rfl, rfl, rfl, h1, r1⟩ := trodAll_cons r0
  obtain ⟨v2, vs2, d2, ds2, p2, q2, rfl, rfl, rfl, h2, r2⟩ := trodAll_cons r1
  obtain ⟨rfl, rfl, rfl⟩ := trodAll_nil r2
  obtain rfl : args = #[v0, v1, v2] := by cases args; simp_all
  obtain ⟨rfl, rfl⟩ := trodVars_none hV
  have k0 := h0
  have lt0 : ∀ x ∈ p0, x.block < W.heap.size := by obtain ⟨m, hm⟩ := k0; exact DataW.trod_lt m _ _ _ hm
  obtain ⟨A0, L, c0, hv, hL, hLc, hc0⟩ := open_argLL (hval 0 27 v0 rfl rfl) h0
  clear h0
  subst hv
  obtain ⟨a1, rfl, rfl, rfl, w1⟩ := open_int Try.underlying3 (hval 1 3 v1 rfl rfl) h1
  have k2 := h2
  have lt2 : ∀ x ∈ p2, x.block < W.heap.size := by obtain ⟨m, hm⟩ := k2; exact DataW.trod_lt m _ _ _ hm
  obtain ⟨A2, l2, c2, hv, b2⟩ := open_argB (hval 2 22 v2 rfl rfl) h2
  clear h2
  subst hv
  clear hA0 hval0
  refine (walk A0 L c0 a1 A2 l2 c2 W hL hLc hc0 w1 b2).mono fun e W' ⟨he, bel⟩ => ?_
  subst he
  exact ⟨_, rfl, _, _, _, [], _, [], hW', trodAll_mk1 (shut_bool Try.underlying4 _), (trodAll_cons_mk (Below.trod laidOut (by kernel_rfl) (of_decide_eq_true (by kernel_rfl)) k0 bel lt0) (trodAll_cons_mk (shut_int Try.underlying3 w1) (trodAll_cons_mk (Below.trod laidOut (by kernel_rfl) (of_decide_eq_true (by kernel_rfl)) k2 bel lt2) trodAll_mk0))), rfl, bel.frame _, fun h => by cases h⟩
theorem over : Rows.journalSurvivesRow.holds Try.pinned (OpenSpec.ofChange Rows.journalSurvivesSpec) :=
  OpenClaim.holds_of_wide 5 Try.f5 rfl rfl rfl rfl rfl rfl rfl ⟨rfl, rfl, rfl, rfl, rfl⟩ rfl rfl rfl rfl rfl (by kernel_rfl) Try.func5 (by kernel_rfl)
    (of_decide_eq_true (by kernel_rfl)) (by unfold Func.isWrapper; first | (rw [if_pos (by decide +kernel)]; kernel_rfl) | (rw [if_neg (by decide +kernel)]; exact ⟨rfl, rfl⟩))
    (fun os started H enc _ => lifted os started H enc)
end Go.Proofs.Ytfhigppdgfajoaa.journalSurvives
namespace Go.Proofs.Ytfhigppdgfajoaa
theorem journalsurvives_holds : Rows.JournalSurvivesSaid := journalSurvives.over
end Go.Proofs.Ytfhigppdgfajoaa
#print axioms Go.Proofs.Ytfhigppdgfajoaa.journalsurvives_holds
