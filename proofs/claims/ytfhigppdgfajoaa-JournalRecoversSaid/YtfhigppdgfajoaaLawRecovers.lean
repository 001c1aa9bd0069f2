/- The law JournalRecovers: after any loss of bytes at the end, exactly the records of which no byte was lost are recovered; the chapter's examples hold. -/
import Derived.Test.YtfhigppdgfajoaaWri
import Derived.Test.YtfhigppdgfajoaaRows
import Derived.WalkKit
import Derived.ProofKit
import Derived.OpenShut
import Derived.ShutString
import Derived.ChangeOld
import Derived.Below
namespace Go.Proofs.Ytfhigppdgfajoaa.journalRecovers
open Go.ChangeShapes Go.WideShapes Go.ChangeAt Go.RowKit
open Go.ChangeMaps (open_string shut_string)
set_option linter.unusedVariables false
theorem own : ownKnob Try.prog.godebug = none := by kernel_rfl
theorem laidOut : laidOutB Try.prog = true := by kernel_rfl
set_option maxRecDepth 100000 in
set_option maxHeartbeats 8000000 in
theorem walk (A0 : Option Addr) (L : List ElT) (c0 : Nat) (a1 : Int) (w : World) (hL : ArgL w A0 L) (hLc : L.length ≤ c0) (hc0 : c0 ≤ 9223372036854775807) (w1 : (Lit.int .i64 a1).wf = true) :
    Calls Try.prog 4 #[.slice A0 L.length c0, .int .i64 a1] w fun e w' => e = .returned (.bool true) ∧ Below w.heap.size w w' := by
  by_cases h40 : 40 < L.length
  · have hd : decide (40 < (L.length : Int)) = true := decide_eq_true (by omega)
    have hd' : decide (40 < L.length) = true := decide_eq_true h40
    clear hL
    go_enter Try.func4, Try.ntmps4
    go_wp2_with fail
    refine (alive_any _).mono ?_
    rintro e w9 ⟨rfl, hB9⟩
    go_wp2_with fail
    go_ret
    exact ⟨rfl, hB9⟩
  · have hd : decide (40 < (L.length : Int)) = false := decide_eq_false (by omega)
    have hd' : decide (40 < L.length) = false := decide_eq_false h40
    by_cases hbig : 3000 < sumL L
    · have hcall := size_any A0 L c0 w hL (by omega)
      obtain ⟨s, hs⟩ : ∃ s, s = min (sumL L) 1048576 := ⟨_, rfl⟩
      rw [← hs] at hcall
      have he : decide (3000 < (s : Int)) = true := decide_eq_true (by omega)
      have he' : decide (3000 < s) = true := decide_eq_true (by omega)
      have HC := Lib.hid hcall
      clear hL hcall hs
      go_enter Try.func4, Try.ntmps4
      go_wp2_with fail
      refine HC.out.mono ?_
      rintro e w2 ⟨rfl, hB2⟩
      go_wp2_with fail
      refine (alive_any _).mono ?_
      rintro e w9 ⟨rfl, hB9⟩
      go_wp2_with fail
      go_ret
      exact ⟨rfl, hB2.trans (hB9.mono hB2.size)⟩
    · have hcall := size_any A0 L c0 w hL (by omega)
      obtain ⟨ps, hlen, hR, hsz, _⟩ := argL_rds hL (by omega) (fun o ho => by have := sumL_mem ho; omega)
      rw [← hlen] at hcall hd hd' hLc h40 ⊢
      obtain ⟨s, hs⟩ : ∃ s, s = min (sumL L) 1048576 := ⟨_, rfl⟩
      rw [← hs] at hcall
      have he : decide (3000 < (s : Int)) = false := decide_eq_false (by omega)
      have he' : decide (3000 < s) = false := decide_eq_false (by omega)
      have hz : sz ps ≤ 3000 := by omega
      have HC := Lib.hid hcall
      have HR := Lib.hid hR
      clear hL hcall hs hR hsz hlen hbig
      go_enter Try.func4, Try.ntmps4
      go_wp2_with fail
      refine HC.out.mono ?_
      rintro e w2 ⟨rfl, hB2⟩
      have HB2 := Lib.hid hB2
      clear hB2
      go_wp2_with fail
      refine (written_any A0 ps c0 _ (HR.out.below HB2.out (Nat.le_refl _)) hz).mono ?_
      rintro e w3 ⟨g, rfl, hJ3, hB3⟩
      have HB3 := Lib.hid (HB2.out.trans (hB3.mono HB2.out.size))
      have HJ3 := Lib.hid (hJ3.mono HB2.out.size)
      clear hJ3 hB3 HC
      go_wp2_with fail
      refine (bytes_any w.heap.size g ps _ HJ3.out).mono ?_
      rintro e w4 ⟨v4, rfl, hO4, hB4⟩
      obtain ⟨A4, c4, rfl, hS4⟩ := hO4.sl (by rw [encs_len]; omega) (encs_bytes HR.out.bytes)
      have HB4 := Lib.hid (HB3.out.trans (hB4.mono HB3.out.size))
      have HJ4 := Lib.hid (HJ3.out.below hB4)
      have HS4 := Lib.hid hS4
      obtain ⟨z, hzz⟩ : ∃ z, Hid (z = sz ps) := ⟨_, Lib.hid rfl⟩
      rw [encs_len, ← hzz.out]
      rw [← hzz.out] at hz
      clear hO4 hB4 hS4
      have hJJ := HJ4.out
      obtain ⟨hgb, _, vv, hbb, _⟩ := hJJ
      have HBG := Lib.hid hbb
      clear hbb
      by_cases hbad : a1 < 0 ∨ (z : Int) < a1
      · have HE := Lib.hid (show trE ps a1 = 3 by unfold trE; rw [← hzz.out, if_pos hbad])
        have HS := Lib.hid (show trS ps a1 = ps by unfold trS; rw [← hzz.out, if_pos hbad])
        have hfin : ∀ w5, w4.grownBy w5 (some g) → Jr w5 w.heap.size g ps → Hid (Below w.heap.size w w5 ∧ RdS w5 A0 ps) := fun w5 hg _ => by
          have hb := HB4.out.trans ((Bt.of_grown (base := w.heap.size) hg HBG.out (.inl rfl) hgb).below HB4.out.size)
          exact Lib.hid ⟨hb, HR.out.below hb (Nat.le_refl _)⟩
        have hdd : decide (ps = ps) = true := decide_eq_true rfl
        by_cases hneg : a1 < 0
        · have hn : decide (a1 < 0) = true := decide_eq_true hneg
          go_wp2_with fail
          refine (truncate_any w.heap.size g ps a1 _ HJ4.out).mono ?_
          rintro e w5 ⟨rfl, hJ5, hG5⟩
          rw [HE.out]
          rw [HS.out] at hJ5
          obtain ⟨hB5, hR5⟩ := (hfin w5 hG5 hJ5).out
          have HJ5 := Lib.hid hJ5
          have HB5 := Lib.hid hB5
          have HR5 := Lib.hid hR5
          clear hG5 hJ5 hB5 hR5 hfin hdd
          go_wp2_with fail
          refine (records_any w.heap.size g ps _ HJ5.out).mono ?_
          rintro e w6 ⟨v6, rfl, hO6, hB6⟩
          obtain ⟨A6, c6, rfl, hR6⟩ := hO6.rds (by omega) (fun p hp => by have := sz_mem hp; rw [← hzz.out] at this; omega)
          have HR6 := Lib.hid hR6
          have HB6 := Lib.hid (HB5.out.trans (hB6.mono HB5.out.size))
          clear hO6 hB6 hR6
          go_wp2_with fail
          refine (same_any A6 A0 ps ps c6 c0 _ HR6.out (HR.out.below HB6.out (Nat.le_refl _))).mono ?_
          rintro e w7 ⟨rfl, hB7⟩
          rw [show decide (ps = ps) = true from decide_eq_true rfl]
          have HB7 := Lib.hid (HB6.out.trans (hB7.mono HB6.out.size))
          clear hB7
          go_wp2_with fail
          refine (alive_any _).mono ?_
          rintro e w9 ⟨rfl, hB9⟩
          go_wp2_with fail
          go_ret
          exact ⟨rfl, HB7.out.trans (hB9.mono HB7.out.size)⟩
        · have hn : decide (a1 < 0) = false := decide_eq_false hneg
          have hb2 : decide ((z : Int) < a1) = true := decide_eq_true (by omega)
          go_wp2_with fail
          refine (truncate_any w.heap.size g ps a1 _ HJ4.out).mono ?_
          rintro e w5 ⟨rfl, hJ5, hG5⟩
          rw [HE.out]
          rw [HS.out] at hJ5
          obtain ⟨hB5, hR5⟩ := (hfin w5 hG5 hJ5).out
          have HJ5 := Lib.hid hJ5
          have HB5 := Lib.hid hB5
          have HR5 := Lib.hid hR5
          clear hG5 hJ5 hB5 hR5 hfin hdd
          go_wp2_with fail
          refine (records_any w.heap.size g ps _ HJ5.out).mono ?_
          rintro e w6 ⟨v6, rfl, hO6, hB6⟩
          obtain ⟨A6, c6, rfl, hR6⟩ := hO6.rds (by omega) (fun p hp => by have := sz_mem hp; rw [← hzz.out] at this; omega)
          have HR6 := Lib.hid hR6
          have HB6 := Lib.hid (HB5.out.trans (hB6.mono HB5.out.size))
          clear hO6 hB6 hR6
          go_wp2_with fail
          refine (same_any A6 A0 ps ps c6 c0 _ HR6.out (HR.out.below HB6.out (Nat.le_refl _))).mono ?_
          rintro e w7 ⟨rfl, hB7⟩
          rw [show decide (ps = ps) = true from decide_eq_true rfl]
          have HB7 := Lib.hid (HB6.out.trans (hB7.mono HB6.out.size))
          clear hB7
          go_wp2_with fail
          refine (alive_any _).mono ?_
          rintro e w9 ⟨rfl, hB9⟩
          go_wp2_with fail
          go_ret
          exact ⟨rfl, HB7.out.trans (hB9.mono HB7.out.size)⟩
      · have hn : decide (a1 < 0) = false := decide_eq_false (by omega)
        have hb2 : decide ((z : Int) < a1) = false := decide_eq_false (by omega)
        obtain ⟨a, rfl⟩ : ∃ a : Nat, a1 = (a : Int) := ⟨a1.toNat, by omega⟩
        have hb2' : decide (z < a) = false := decide_eq_false (by omega)
        have HE := Lib.hid (show trE ps (a : Int) = 0 by unfold trE; rw [← hzz.out, if_neg hbad])
        have HS := Lib.hid (show trS ps (a : Int) = keep (z - a) ps by unfold trS; rw [← hzz.out, if_neg hbad]; simp)
        obtain ⟨m, hm⟩ : ∃ m : Nat, Hid (m = z - a) := ⟨_, Lib.hid rfl⟩
        rw [← hm.out] at HS
        have hmz : m ≤ z := by have := hm.out; omega
        have hwm : IntKind.i64.wrap ((z : Int) - (a : Int)) = (m : Int) := by rw [IntKind.wrap_i64]; have := hm.out; omega
        clear hbad w1
        go_wp2_with fail
        go_loopw [8, 9] (fun vn vk wr => ∃ k : Nat, k ≤ ps.length ∧ vk = .int .i64 (k : Int) ∧ vn = .int .i64 ((sz (ps.take k) : Nat) : Int) ∧ sz (ps.take k) ≤ m ∧ wr = w4) (fun _ vk _ => ps.length - (intOf vk).toNat)
        case atStart => exact ⟨0, Nat.zero_le _, rfl, rfl, Nat.zero_le _, rfl⟩
        case round =>
          obtain ⟨k, hk, rfl, rfl, hkm, rfl⟩ := hrel
          have R1 := HR.out.below HB4.out (Nat.le_refl _)
          obtain ⟨y, hy⟩ : ∃ y, Hid (y = sz (ps.take k)) := ⟨_, Lib.hid rfl⟩
          rw [← hy.out] at hkm ⊢
          by_cases hd2 : k < ps.length
          · have hdd : decide ((k : Int) < (ps.length : Int)) = true := decide_eq_true (by omega)
            have hi0 : (0 : Int) ≤ (k : Int) := by omega
            have hi1 : (k : Int) < (ps.length : Int) := by omega
            have hwi : IntKind.i64.wrap ((k : Int) + 1) = ((k + 1 : Nat) : Int) := by rw [IntKind.wrap_i64]; omega
            obtain ⟨bk, of_, Aj, cj, rfl, hbk, hcj, hSj⟩ := R1.at_ hd2
            obtain ⟨p, hp⟩ : ∃ p, Hid (p = ps.getD k []) := ⟨_, Lib.hid rfl⟩
            rw [← hp.out] at hcj hSj
            have T1 : ps.take (k + 1) = ps.take k ++ [p] := by rw [List.take_add_one, hp.out, List.getD_eq_getElem?_getD, List.getElem?_eq_getElem hd2]; rfl
            have HT1 := Lib.hid T1
            have hz1 := sz_take ps (k + 1)
            have hsx : sz (ps.take (k + 1)) = y + (p.length + 8) := by rw [T1, sz_app, ← hy.out]; simp [sz]
            have HSX := Lib.hid hsx
            rw [hsx, ← hzz.out] at hz1
            obtain ⟨y8, hy8⟩ : ∃ y8 : Nat, Hid (y8 = y + 8) := ⟨_, Lib.hid rfl⟩
            obtain ⟨x, hx⟩ : ∃ x : Nat, Hid (x = y8 + p.length) := ⟨_, Lib.hid rfl⟩
            have hwy : IntKind.i64.wrap ((y : Int) + 8) = (y8 : Int) := by rw [IntKind.wrap_i64]; have := hy8.out; omega
            have hwx : IntKind.i64.wrap ((y8 : Int) + (p.length : Int)) = (x : Int) := by rw [IntKind.wrap_i64]; have := hy8.out; have := hx.out; omega
            clear hz1 hsx T1 hSj R1
            by_cases hxm : x ≤ m
            · have hle : decide ((x : Int) ≤ (m : Int)) = true := decide_eq_true (by omega)
              have hle' : decide (x ≤ m) = true := decide_eq_true hxm
              go_wp2_with fail
              go_roundw
              case rel => exact ⟨k + 1, by omega, by go_num, by rw [HSX.out]; have := hx.out; have := hy8.out; exact val_int (by omega), by rw [HSX.out]; have := hx.out; have := hy8.out; omega, by first | rfl | trivial⟩
              case measure => simp [intOf]; omega
            · have hle : decide ((x : Int) ≤ (m : Int)) = false := decide_eq_false (by omega)
              have hle' : decide (x ≤ m) = false := decide_eq_false hxm
              have hq : ps.take k = keep m ps := keep_take ps m k hk (by have := hy.out; omega) (.inr (by rw [HSX.out]; have := hx.out; have := hy8.out; omega))
              obtain ⟨q, hqe⟩ : ∃ q, Hid (q = keep m ps) := ⟨_, Lib.hid rfl⟩
              have HQ := Lib.hid hq
              have HLE := keep_len ps m
              have hkq : k = q.length := by
                have := congrArg List.length hq
                rw [List.length_take, ← hqe.out] at this
                omega
              rw [← hqe.out] at HLE HS
              rw [hq, ← hqe.out] at hy
              subst hkq
              have hgood : ∀ p ∈ ps, Good p := fun p hp => ⟨by have := sz_mem hp; rw [← hzz.out] at this; omega, HR.out.bytes p hp⟩
              have hRC := rcv_cut (ps := ps) (by omega) hgood m
              rw [← hqe.out, ← hy.out] at hRC
              have HRC := Lib.hid hRC
              have hqs : ∀ p ∈ q, p.length ≤ 140737488351232 := fun p hp => by
                rw [hqe.out] at hp
                have := (hgood p (keep_mem p hp)).1
                omega
              have HQS := Lib.hid hqs
              have hzc := HS4.out.2.1
              have hzc2 := HS4.out.2.2.1
              rw [encs_len, ← hzz.out] at hzc
              have hm0 : (0 : Int) ≤ (m : Int) := by omega
              have hm1 : (m : Int) ≤ (z : Int) := by omega
              have hm2 : (m : Int) ≤ (c4 : Int) := by omega
              have hm3 : m ≤ c4 := by omega
              have hqm0 : (0 : Int) ≤ (q.length : Int) := by omega
              have hqm1 : (q.length : Int) ≤ (ps.length : Int) := by omega
              have hqm2 : (q.length : Int) ≤ (c0 : Int) := by omega
              have hqm3 : q.length ≤ c0 := by omega
              clear hq hRC hqs hgood
              go_wp2_with fail
              try clear hcj
              have hS5 := HS4.out.take m
              have hcall := recover_any A4 ((encs ps).take m) c4 wr hS5
              rw [List.length_take, encs_len, ← hzz.out, Nat.min_eq_left hmz] at hcall
              refine hcall.mono ?_
              clear hcall
              rintro e w5 ⟨v5, rfl, hRv, hB5⟩
              unfold RcvR at hRv
              rw [HRC.out] at hRv
              obtain ⟨u5, rfl, hO5⟩ := hRv
              have hO5 : OwnS w5 wr.heap.size u5 q := hO5
              obtain ⟨A5, c5, rfl, hR5⟩ := hO5.rds (by omega) HQS.out
              have HB5 := Lib.hid (HB4.out.trans (hB5.mono HB4.out.size))
              have HJ5 := Lib.hid (HJ4.out.below hB5)
              have HBG5 := Lib.hid (HBG.out.below hB5 HBG.out.lt)
              have HO5 := Lib.hid hO5
              have HR5 := Lib.hid hR5
              clear hB5 hO5 hS5 hR5
              go_wp2_with fail
              refine (truncate_any w.heap.size g ps (a : Int) _ HJ5.out).mono ?_
              rintro e w6 ⟨rfl, hJ6, hG6⟩
              rw [HE.out]
              rw [HS.out] at hJ6
              have HB6 := Lib.hid (HB5.out.trans ((Bt.of_grown (base := w.heap.size) hG6 HBG5.out (.inl rfl) hgb).below HB5.out.size))
              have HJ6 := Lib.hid hJ6
              have hO6 := HO5.out.kept64 HBG5.out hG6
              have hR6' := hO6.rds (by omega) HQS.out
              obtain ⟨A6, c6, e6, hR6⟩ := hR6'
              injection e6 with e6a _ e6b
              subst e6a e6b
              have HR6 := Lib.hid hR6
              clear hJ6 hG6 hO6 hR6
              go_wp2_with fail
              have hBC : Below w6.heap.size w6 w6.drew := (Below.refl _ _).drew
              refine wp_region_seq (S := fun w' => Below w6.heap.size w6 w') 32 [(0, true), (1, true), (2, true), (3, true), (4, false), (5, true), (6, true), (7, true), (8, true), (9, true), (10, true), (11, true), (12, true), (13, true), (14, true), (15, true), (17, true), (18, true), (19, true), (16, false), (20, false), (21, true), (22, true), (23, true), (26, true), (24, false), (25, true), (27, true), (28, true), (29, true), (30, false), (31, true)] (by kernel_rfl) rfl (by kernel_rfl) hBC ?_
              generalize w6.drew = wd at hBC ⊢
              simp only [List.map_cons, List.map_nil, List.getD_cons_succ, List.getD_cons_zero, List.drop_succ_cons, List.drop_zero]
              have hRq : ∀ w', Below w6.heap.size w6 w' → Hid (RdS w' (some ⟨bk, of_, none⟩) q) := fun w' h => by
                have h1 := (HR.out.below (HB6.out.trans (h.mono HB6.out.size)) (Nat.le_refl _)).take q.length
                rw [HQ.out, ← hqe.out] at h1
                exact Lib.hid h1
              have hyy : ((y : Int) == (y : Int)) = true := by rw [beq_iff_eq]
              iterate 4
                refine wpSeq_take (v := ?_) (by rfl) ?_ ?_
                rotate_left
                · intro w' hw'
                  clear hw'
                  go_simp
                  try with_reducible rfl
                simp only [Act.put, List.setIfInBounds_toArray, List.set_cons_zero, List.set_cons_succ]
              refine wpSeq_step fun K hK => ?_
              go_simp
              go_at_call 13
              refine (same_any A5 (some ⟨bk, of_, none⟩) q q c5 c0 wd (HR6.out.below hBC (Nat.le_refl _)) (hRq wd hBC).out).mono ?_
              rintro e w7 ⟨rfl, hB7⟩
              rw [show decide (q = q) = true from decide_eq_true rfl]
              have hB67 := hBC.trans (hB7.mono hBC.size)
              refine hK.out _ _ hB67 ?_
              clear hK K
              try simp only [Act.put, List.setIfInBounds_toArray, List.set_cons_zero, List.set_cons_succ]
              iterate 14
                refine wpSeq_take (v := ?_) (by rfl) ?_ ?_
                rotate_left
                · intro w' hw'
                  clear hw'
                  go_simp
                  try with_reducible rfl
                simp only [Act.put, List.setIfInBounds_toArray, List.set_cons_zero, List.set_cons_succ]
              refine wpSeq_step fun K hK => ?_
              go_simp
              go_at_call 18
              refine (records_any w.heap.size g q _ (HJ6.out.below hB67)).mono ?_
              rintro e w8 ⟨v8, rfl, hO8, hB8⟩
              obtain ⟨A8, c8, rfl, hR8⟩ := hO8.rds (by omega) HQS.out
              have hB68 := hB67.trans (hB8.mono hB67.size)
              refine hK.out _ _ hB68 ?_
              clear hK K
              try simp only [Act.put, List.setIfInBounds_toArray, List.set_cons_zero, List.set_cons_succ]
              refine wpSeq_step fun K hK => ?_
              go_simp
              go_at_call 13
              refine (same_any A8 (some ⟨bk, of_, none⟩) q q c8 c0 w8 hR8 (hRq w8 hB68).out).mono ?_
              rintro e w9 ⟨rfl, hB9⟩
              rw [show decide (q = q) = true from decide_eq_true rfl]
              have hB69 := hB68.trans (hB9.mono hB68.size)
              refine hK.out _ _ hB69 ?_
              clear hK K
              try simp only [Act.put, List.setIfInBounds_toArray, List.set_cons_zero, List.set_cons_succ]
              iterate 4
                refine wpSeq_take (v := ?_) (by rfl) ?_ ?_
                rotate_left
                · intro w' hw'
                  clear hw'
                  go_simp
                  try with_reducible rfl
                simp only [Act.put, List.setIfInBounds_toArray, List.set_cons_zero, List.set_cons_succ]
              refine wpSeq_step fun K hK => ?_
              go_simp
              go_at_call 16
              refine (bytes_any w.heap.size g q _ (HJ6.out.below hB69)).mono ?_
              rintro e w10 ⟨v10, rfl, hO10, hB10⟩
              obtain ⟨A10, c10, rfl, _⟩ := hO10.slice (by rw [encs_len, ← hy.out]; omega) (encs_bytes (fun p hp => by rw [hqe.out] at hp; exact HR.out.bytes p (keep_mem p hp)))
              rw [encs_len, ← hy.out]
              have hB610 := hB69.trans (hB10.mono hB69.size)
              refine hK.out _ _ hB610 ?_
              clear hK K
              try simp only [Act.put, List.setIfInBounds_toArray, List.set_cons_zero, List.set_cons_succ]
              iterate 4
                refine wpSeq_take (v := ?_) (by rfl) ?_ ?_
                rotate_left
                · intro w' hw'
                  clear hw'
                  go_simp
                  try with_reducible rfl
                simp only [Act.put, List.setIfInBounds_toArray, List.set_cons_zero, List.set_cons_succ]
              refine wpSeq_step fun K hK => ?_
              go_simp
              go_at_call 8
              refine (alive_any _).mono ?_
              rintro e w11 ⟨rfl, hB11⟩
              have hB611 := hB610.trans (hB11.mono hB610.size)
              refine hK.out _ _ hB611 ?_
              clear hK K
              try simp only [Act.put, List.setIfInBounds_toArray, List.set_cons_zero, List.set_cons_succ]
              iterate 1
                refine wpSeq_take (v := ?_) (by rfl) ?_ ?_
                rotate_left
                · intro w' hw'
                  clear hw'
                  go_simp
                  try with_reducible rfl
                simp only [Act.put, List.setIfInBounds_toArray, List.set_cons_zero, List.set_cons_succ]
              refine wpSeq_nil ?_
              go_wp2_with fail
              refine NoPanic.normal ?_
              go_wp2_with fail
              go_ret
              exact ⟨rfl, HB6.out.trans (hB611.mono HB6.out.size)⟩
          · have hdd : decide ((k : Int) < (ps.length : Int)) = false := decide_eq_false (by omega)
            have hq : ps.take k = keep m ps := keep_take ps m k hk (by have := hy.out; omega) (.inl (by omega))
            clear R1
            obtain ⟨q, hqe⟩ : ∃ q, Hid (q = keep m ps) := ⟨_, Lib.hid rfl⟩
            have HQ := Lib.hid hq
            have HLE := keep_len ps m
            have hkq : k = q.length := by
              have := congrArg List.length hq
              rw [List.length_take, ← hqe.out] at this
              omega
            rw [← hqe.out] at HLE HS
            rw [hq, ← hqe.out] at hy
            subst hkq
            have hgood : ∀ p ∈ ps, Good p := fun p hp => ⟨by have := sz_mem hp; rw [← hzz.out] at this; omega, HR.out.bytes p hp⟩
            have hRC := rcv_cut (ps := ps) (by omega) hgood m
            rw [← hqe.out, ← hy.out] at hRC
            have HRC := Lib.hid hRC
            have hqs : ∀ p ∈ q, p.length ≤ 140737488351232 := fun p hp => by
              rw [hqe.out] at hp
              have := (hgood p (keep_mem p hp)).1
              omega
            have HQS := Lib.hid hqs
            have hzc := HS4.out.2.1
            have hzc2 := HS4.out.2.2.1
            rw [encs_len, ← hzz.out] at hzc
            have hm0 : (0 : Int) ≤ (m : Int) := by omega
            have hm1 : (m : Int) ≤ (z : Int) := by omega
            have hm2 : (m : Int) ≤ (c4 : Int) := by omega
            have hm3 : m ≤ c4 := by omega
            have hqm0 : (0 : Int) ≤ (q.length : Int) := by omega
            have hqm1 : (q.length : Int) ≤ (ps.length : Int) := by omega
            have hqm2 : (q.length : Int) ≤ (c0 : Int) := by omega
            have hqm3 : q.length ≤ c0 := by omega
            clear hq hRC hqs hgood
            go_wp2_with fail
            try clear hcj
            have hS5 := HS4.out.take m
            have hcall := recover_any A4 ((encs ps).take m) c4 wr hS5
            rw [List.length_take, encs_len, ← hzz.out, Nat.min_eq_left hmz] at hcall
            refine hcall.mono ?_
            clear hcall
            rintro e w5 ⟨v5, rfl, hRv, hB5⟩
            unfold RcvR at hRv
            rw [HRC.out] at hRv
            obtain ⟨u5, rfl, hO5⟩ := hRv
            have hO5 : OwnS w5 wr.heap.size u5 q := hO5
            obtain ⟨A5, c5, rfl, hR5⟩ := hO5.rds (by omega) HQS.out
            have HB5 := Lib.hid (HB4.out.trans (hB5.mono HB4.out.size))
            have HJ5 := Lib.hid (HJ4.out.below hB5)
            have HBG5 := Lib.hid (HBG.out.below hB5 HBG.out.lt)
            have HO5 := Lib.hid hO5
            have HR5 := Lib.hid hR5
            clear hB5 hO5 hS5 hR5
            go_wp2_with fail
            refine (truncate_any w.heap.size g ps (a : Int) _ HJ5.out).mono ?_
            rintro e w6 ⟨rfl, hJ6, hG6⟩
            rw [HE.out]
            rw [HS.out] at hJ6
            have HB6 := Lib.hid (HB5.out.trans ((Bt.of_grown (base := w.heap.size) hG6 HBG5.out (.inl rfl) hgb).below HB5.out.size))
            have HJ6 := Lib.hid hJ6
            have hO6 := HO5.out.kept64 HBG5.out hG6
            have hR6' := hO6.rds (by omega) HQS.out
            obtain ⟨A6, c6, e6, hR6⟩ := hR6'
            injection e6 with e6a _ e6b
            subst e6a e6b
            have HR6 := Lib.hid hR6
            clear hJ6 hG6 hO6 hR6
            go_wp2_with fail
            have hBC : Below w6.heap.size w6 w6.drew := (Below.refl _ _).drew
            refine wp_region_seq (S := fun w' => Below w6.heap.size w6 w') 32 [(0, true), (1, true), (2, true), (3, true), (4, false), (5, true), (6, true), (7, true), (8, true), (9, true), (10, true), (11, true), (12, true), (13, true), (14, true), (15, true), (17, true), (18, true), (19, true), (16, false), (20, false), (21, true), (22, true), (23, true), (26, true), (24, false), (25, true), (27, true), (28, true), (29, true), (30, false), (31, true)] (by kernel_rfl) rfl (by kernel_rfl) hBC ?_
            generalize w6.drew = wd at hBC ⊢
            simp only [List.map_cons, List.map_nil, List.getD_cons_succ, List.getD_cons_zero, List.drop_succ_cons, List.drop_zero]
            have hRq : ∀ w', Below w6.heap.size w6 w' → Hid (RdS w' A0 q) := fun w' h => by
              have h1 := (HR.out.below (HB6.out.trans (h.mono HB6.out.size)) (Nat.le_refl _)).take q.length
              rw [HQ.out, ← hqe.out] at h1
              exact Lib.hid h1
            have hyy : ((y : Int) == (y : Int)) = true := by rw [beq_iff_eq]
            iterate 4
              refine wpSeq_take (v := ?_) (by rfl) ?_ ?_
              rotate_left
              · intro w' hw'
                clear hw'
                go_simp
                try with_reducible rfl
              simp only [Act.put, List.setIfInBounds_toArray, List.set_cons_zero, List.set_cons_succ]
            refine wpSeq_step fun K hK => ?_
            go_simp
            go_at_call 13
            refine (same_any A5 A0 q q c5 c0 wd (HR6.out.below hBC (Nat.le_refl _)) (hRq wd hBC).out).mono ?_
            rintro e w7 ⟨rfl, hB7⟩
            rw [show decide (q = q) = true from decide_eq_true rfl]
            have hB67 := hBC.trans (hB7.mono hBC.size)
            refine hK.out _ _ hB67 ?_
            clear hK K
            try simp only [Act.put, List.setIfInBounds_toArray, List.set_cons_zero, List.set_cons_succ]
            iterate 14
              refine wpSeq_take (v := ?_) (by rfl) ?_ ?_
              rotate_left
              · intro w' hw'
                clear hw'
                go_simp
                try with_reducible rfl
              simp only [Act.put, List.setIfInBounds_toArray, List.set_cons_zero, List.set_cons_succ]
            refine wpSeq_step fun K hK => ?_
            go_simp
            go_at_call 18
            refine (records_any w.heap.size g q _ (HJ6.out.below hB67)).mono ?_
            rintro e w8 ⟨v8, rfl, hO8, hB8⟩
            obtain ⟨A8, c8, rfl, hR8⟩ := hO8.rds (by omega) HQS.out
            have hB68 := hB67.trans (hB8.mono hB67.size)
            refine hK.out _ _ hB68 ?_
            clear hK K
            try simp only [Act.put, List.setIfInBounds_toArray, List.set_cons_zero, List.set_cons_succ]
            refine wpSeq_step fun K hK => ?_
            go_simp
            go_at_call 13
            refine (same_any A8 A0 q q c8 c0 w8 hR8 (hRq w8 hB68).out).mono ?_
            rintro e w9 ⟨rfl, hB9⟩
            rw [show decide (q = q) = true from decide_eq_true rfl]
            have hB69 := hB68.trans (hB9.mono hB68.size)
            refine hK.out _ _ hB69 ?_
            clear hK K
            try simp only [Act.put, List.setIfInBounds_toArray, List.set_cons_zero, List.set_cons_succ]
            iterate 4
              refine wpSeq_take (v := ?_) (by rfl) ?_ ?_
              rotate_left
              · intro w' hw'
                clear hw'
                go_simp
                try with_reducible rfl
              simp only [Act.put, List.setIfInBounds_toArray, List.set_cons_zero, List.set_cons_succ]
            refine wpSeq_step fun K hK => ?_
            go_simp
            go_at_call 16
            refine (bytes_any w.heap.size g q _ (HJ6.out.below hB69)).mono ?_
            rintro e w10 ⟨v10, rfl, hO10, hB10⟩
            obtain ⟨A10, c10, rfl, _⟩ := hO10.slice (by rw [encs_len, ← hy.out]; omega) (encs_bytes (fun p hp => by rw [hqe.out] at hp; exact HR.out.bytes p (keep_mem p hp)))
            rw [encs_len, ← hy.out]
            have hB610 := hB69.trans (hB10.mono hB69.size)
            refine hK.out _ _ hB610 ?_
            clear hK K
            try simp only [Act.put, List.setIfInBounds_toArray, List.set_cons_zero, List.set_cons_succ]
            iterate 4
              refine wpSeq_take (v := ?_) (by rfl) ?_ ?_
              rotate_left
              · intro w' hw'
                clear hw'
                go_simp
                try with_reducible rfl
              simp only [Act.put, List.setIfInBounds_toArray, List.set_cons_zero, List.set_cons_succ]
            refine wpSeq_step fun K hK => ?_
            go_simp
            go_at_call 8
            refine (alive_any _).mono ?_
            rintro e w11 ⟨rfl, hB11⟩
            have hB611 := hB610.trans (hB11.mono hB610.size)
            refine hK.out _ _ hB611 ?_
            clear hK K
            try simp only [Act.put, List.setIfInBounds_toArray, List.set_cons_zero, List.set_cons_succ]
            iterate 1
              refine wpSeq_take (v := ?_) (by rfl) ?_ ?_
              rotate_left
              · intro w' hw'
                clear hw'
                go_simp
                try with_reducible rfl
              simp only [Act.put, List.setIfInBounds_toArray, List.set_cons_zero, List.set_cons_succ]
            refine wpSeq_nil ?_
            go_wp2_with fail
            refine NoPanic.normal ?_
            go_wp2_with fail
            go_ret
            exact ⟨rfl, HB6.out.trans (hB611.mono HB6.out.size)⟩
set_option maxRecDepth 100000 in
theorem lifted (os : Os) (started : os.Started) (H : Type) (enc : TypeId × Value → H) :
    ReturnsInHanded {} Try.checked os 4 .any (Rows.journalRecoversSpec.pre6 enc Try.prog Try.f4 Rows.journalRecoversRow.domain false) (Rows.journalRecoversSpec.post enc Try.prog Try.f4 false true false false) := by
  refine returnsInHanded_of_change (C := Try.checked) own started (by kernel_rfl) Try.func4
    (ChangeSpec.witness6 (enc := enc) (C := Try.checked) false ⟨#[], #[.slice none 0 0, .int .i64 0], []⟩ 8 (by kernel_rfl) (by kernel_rfl) (by kernel_rfl) (by kernel_rfl)) ?_
  intro W base args ds gs before hval0 hW hcnd _
  have hval : ∀ (j : Nat) t v, Try.f4.params[j]? = some t → args[j]? = some v → Value.okWide Try.prog W .any base t v := hval0
  have hW' := hW
  obtain ⟨p, q, hA0, hV, rfl, hfz, hnd⟩ := hW
  have hA : DataW.TrodAll enc Try.prog W 0 (fun _ => true) true Try.f4.params.toList args.toList ds p := hA0
  rw [Try.params4] at hA hval
  obtain ⟨v0, vs0, d0, ds0, p0, q0, hargs, rfl, rfl, h0, r0⟩ := trodAll_cons hA
  obtain ⟨v1, vs1, d1, ds1, p1, q1, rfl, rfl, rfl, h1, r1⟩ := trodAll_cons r0
  obtain ⟨rfl, rfl, rfl⟩ := trodAll_nil r1
  obtain rfl : args = #[v0, v1] := by cases args; simp_all
  obtain ⟨rfl, rfl⟩ := trodVars_none hV
  have k0 := h0
  have lt0 : ∀ x ∈ p0, x.block < W.heap.size := by obtain ⟨m, hm⟩ := k0; exact DataW.trod_lt m _ _ _ hm
  obtain ⟨A0, L, c0, hv, hL, hLc, hc0⟩ := open_argLL (hval 0 27 v0 rfl rfl) h0
  clear h0
  subst hv
  obtain ⟨a1, rfl, rfl, rfl, w1⟩ := open_int Try.underlying3 (hval 1 3 v1 rfl rfl) h1
  clear hA0 hval0
  refine (walk A0 L c0 a1 W hL hLc hc0 w1).mono fun e W' ⟨he, bel⟩ => ?_
  subst he
  exact ⟨_, rfl, _, _, _, [], _, [], hW', trodAll_mk1 (shut_bool Try.underlying4 _), (trodAll_cons_mk (Below.trod laidOut (by kernel_rfl) (of_decide_eq_true (by kernel_rfl)) k0 bel lt0) (trodAll_cons_mk (shut_int Try.underlying3 w1) trodAll_mk0)), rfl, bel.frame _, fun h => by cases h⟩
theorem over : Rows.journalRecoversRow.holds Try.pinned (OpenSpec.ofChange Rows.journalRecoversSpec) :=
  OpenClaim.holds_of_wide 4 Try.f4 rfl rfl rfl rfl rfl rfl rfl ⟨rfl, rfl, rfl, rfl, rfl⟩ rfl rfl rfl rfl rfl (by kernel_rfl) Try.func4 (by kernel_rfl)
    (of_decide_eq_true (by kernel_rfl)) (by unfold Func.isWrapper; first | (rw [if_pos (by decide +kernel)]; kernel_rfl) | (rw [if_neg (by decide +kernel)]; exact ⟨rfl, rfl⟩))
    (fun os started H enc _ => lifted os started H enc)
end Go.Proofs.Ytfhigppdgfajoaa.journalRecovers
namespace Go.Proofs.Ytfhigppdgfajoaa
theorem journalrecovers_holds : Rows.JournalRecoversSaid := journalRecovers.over
end Go.Proofs.Ytfhigppdgfajoaa
#print axioms Go.Proofs.Ytfhigppdgfajoaa.journalrecovers_holds
