/- The law JournalPlays: a journal agrees with the reference after each of at most 30 calls, for bytes of at most 2000 and contents of at most 3000 bytes; the chapter's examples hold. -/
import Derived.Test.YtfhigppdgfajoaaAcs
import Derived.Test.YtfhigppdgfajoaaRows
import Derived.WalkKit
import Derived.ProofKit
import Derived.OpenShut
import Derived.ShutString
import Derived.ChangeOld
import Derived.Below
namespace Go.Proofs.Ytfhigppdgfajoaa.journalPlays
open Go.ChangeShapes Go.WideShapes Go.ChangeAt Go.RowKit
open Go.ChangeMaps (open_string shut_string)
set_option linter.unusedVariables false
theorem own : ownKnob Try.prog.godebug = none := by kernel_rfl
theorem laidOut : laidOutB Try.prog = true := by kernel_rfl
theorem totL_le (L : List ActT) : totL L ≤ L.length * 2097152 := by
  induction L with
  | nil => simp [totL]
  | cons a L ih => rw [totL, List.length_cons]; unfold totT; omega
theorem sumL_len (L : List ElT) : L.length * 8 ≤ sumL L := by
  induction L with
  | nil => simp [sumL]
  | cons a L ih => rw [sumL, List.length_cons]; omega
set_option maxRecDepth 100000 in
set_option maxHeartbeats 16000000 in
theorem walk (A2 : Option Addr) (l2 c2 : Nat) (A0 : Option Addr) (L : List ActT) (c0 : Nat) (w : World) (b2 : ArgB w A2 l2 c2) (hT : ArgT w A0 L) (hTl : L.length ≤ 9223372036854775807) :
    Calls Try.prog 6 #[.slice A2 l2 c2, .slice A0 L.length c0] w fun e w' => e = .returned (.bool true) ∧ Below w.heap.size w w' := by
  have ho1 := b2.1
  have HA := Lib.hid hT
  by_cases h2000 : 2000 < l2
  · have hd : decide (2000 < (l2 : Int)) = true := decide_eq_true (by omega)
    have hd' : decide (2000 < l2) = true := decide_eq_true h2000
    clear hT b2
    go_enter Try.func6, Try.ntmps6
    go_wp2_with fail
    refine (alive_any _).mono ?_
    rintro e w9 ⟨rfl, hB9⟩
    go_wp2_with fail
    go_ret
    exact ⟨rfl, hB9⟩
  · have hd : decide (2000 < (l2 : Int)) = false := decide_eq_false (by omega)
    have hd' : decide (2000 < l2) = false := decide_eq_false h2000
    by_cases h30 : 30 < L.length
    · have he : decide (30 < (L.length : Int)) = true := decide_eq_true (by omega)
      have he' : decide (30 < L.length) = true := decide_eq_true h30
      clear hT b2
      go_enter Try.func6, Try.ntmps6
      go_wp2_with fail
      refine (alive_any _).mono ?_
      rintro e w9 ⟨rfl, hB9⟩
      go_wp2_with fail
      go_ret
      exact ⟨rfl, hB9⟩
    · have he : decide (30 < (L.length : Int)) = false := decide_eq_false (by omega)
      have he' : decide (30 < L.length) = false := decide_eq_false h30
      clear hT
      go_enter Try.func6, Try.ntmps6
      go_wp2_with fail
      go_loopw [5, 25] (fun vs vi wr => ∃ i : Nat, i ≤ L.length ∧ vi = .int .i64 (i : Int) ∧ vs = .int .i64 ((totL (L.take i) : Nat) : Int) ∧ Below w.heap.size w wr) (fun _ vi _ => L.length - (intOf vi).toNat)
      case atStart => exact ⟨0, Nat.zero_le _, rfl, by simp [totL], Below.refl _ _⟩
      case round =>
        obtain ⟨i, hi, rfl, rfl, hB⟩ := hrel
        have HB := Lib.hid hB
        have hw0 := hB.size
        have HA2 := Lib.hid (HA.out.below hB)
        clear hB
        have htb := totL_le (L.take i)
        obtain ⟨t0, ht0⟩ : ∃ t0, Hid (t0 = totL (L.take i)) := ⟨_, Lib.hid rfl⟩
        rw [← ht0.out] at htb ⊢
        have htb2 : t0 ≤ 62914560 := by rw [List.length_take] at htb; omega
        clear htb
        by_cases hd : i < L.length
        · have hdd : decide ((i : Int) < (L.length : Int)) = true := decide_eq_true (by omega)
          have hi0 : (0 : Int) ≤ (i : Int) := by omega
          have hi1 : (i : Int) < (L.length : Int) := by omega
          have hwi : IntKind.i64.wrap ((i : Int) + 1) = ((i + 1 : Nat) : Int) := by rw [IntKind.wrap_i64]; omega
          obtain ⟨o, ho⟩ : ∃ o, L[i]? = some o := ⟨_, List.getElem?_eq_getElem hd⟩
          have HST := Lib.hid (totL_take L i o ho)
          obtain ⟨bk, off, rfl, hbk, _, _, hc2, hc3, hE, hAL, hk1, hk2⟩ := HA2.out i o ho
          obtain ⟨kd, n, ⟨B, l, cp⟩, Aq, Lq, cq⟩ := o
          simp only at hc2 hc3 hE hAL hk1 hk2
          have HC2 := Lib.hid hc2
          have HC3 := Lib.hid hc3
          have HAL := Lib.hid hAL
          obtain ⟨he1, he2, _⟩ := hE
          obtain ⟨sm, hsm⟩ : ∃ sm, Hid (sm = min (sumL Lq) 1048576) := ⟨_, Lib.hid rfl⟩
          have hsm1 : sm ≤ 1048576 := by have := hsm.out; omega
          obtain ⟨t1, ht1⟩ : ∃ t1 : Nat, Hid (t1 = t0 + sm) := ⟨_, Lib.hid rfl⟩
          have hwa : IntKind.i64.wrap ((t0 : Int) + (sm : Int)) = (t1 : Int) := by rw [IntKind.wrap_i64]; have := ht1.out; omega
          clear hc2 hc3 hAL ho
          by_cases hlb : (1048576 : Int) < (l : Int)
          · obtain ⟨t2, ht2⟩ : ∃ t2 : Nat, Hid (t2 = t1 + 1048576) := ⟨_, Lib.hid rfl⟩
            have hwb : IntKind.i64.wrap ((t1 : Int) + 1048576) = (t2 : Int) := by rw [IntKind.wrap_i64]; have := ht1.out; have := ht2.out; omega
            rw [← ht0.out] at HST
            go_wp2_with fail
            have hBC : Below wr.heap.size wr wr.drew := (Below.refl _ _).drew
            refine wp_region_tree (S := fun w' => Below wr.heap.size wr w') 16 (.take 0 (.take 1 (.take 2 (.take 3 (.take 4 (.take 5 (.take 8 (.take 9 (.take 10 (.take 11 (.take 12 (.take 13 (.take 14 (.step 6 (.take 7 (.take 15 .done)))))))))))))))) (by kernel_rfl) rfl (by kernel_rfl) hBC ?_
            generalize wr.drew = wd at hBC ⊢
            simp only [Ord.map, List.getD_cons_succ, List.getD_cons_zero, List.drop_succ_cons, List.drop_zero]
            iterate 13
              refine wpTree_take (v := ?_) (by rfl) ?_ ?_
              rotate_left
              · intro w' hw'
                have k1 := (hw'.cell (p := ⟨bk, off + i * 4 + 3, none⟩) hbk).trans HC3.out
                have k2 := (hw'.cell (p := ⟨bk, off + i * 4 + 2, none⟩) hbk).trans HC2.out
                clear hw'
                go_simp
                try with_reducible rfl
              simp only [Act.put, List.setIfInBounds_toArray, List.set_cons_zero, List.set_cons_succ]
            refine wpTree_step fun K hK => ?_
            go_simp
            go_at_call 14
            refine (size_any Aq Lq cq _ (HAL.out.below hBC) (by omega)).mono ?_
            rintro e w5 ⟨rfl, hB5⟩
            rw [← hsm.out]
            have hB35 := hBC.trans (hB5.mono hBC.size)
            refine hK.out _ _ hB35 ?_
            clear hK K
            try simp only [Act.put, List.setIfInBounds_toArray, List.set_cons_zero, List.set_cons_succ]
            iterate 2
              refine wpTree_take (v := ?_) (by rfl) ?_ ?_
              rotate_left
              · intro w' hw'
                clear hw'
                go_simp
                try with_reducible rfl
              simp only [Act.put, List.setIfInBounds_toArray, List.set_cons_zero, List.set_cons_succ]
            refine wpTree_done ?_
            go_wp2_with fail
            refine NoPanic.normal ?_
            go_wp2_with fail
            go_roundw
            case rel => exact ⟨i + 1, by omega, by go_num, by rw [HST.out]; have := ht1.out; have := ht2.out; have := hsm.out; exact val_int (by show (_ : Int) = _; unfold totT; simp only []; omega), HB.out.trans (hB35.mono hw0)⟩
            case measure => simp [intOf]; omega
          · obtain ⟨t2, ht2⟩ : ∃ t2 : Nat, Hid (t2 = t1 + l) := ⟨_, Lib.hid rfl⟩
            have hwb : IntKind.i64.wrap ((t1 : Int) + (l : Int)) = (t2 : Int) := by rw [IntKind.wrap_i64]; have := ht1.out; have := ht2.out; omega
            rw [← ht0.out] at HST
            go_wp2_with fail
            have hBC : Below wr.heap.size wr wr.drew := (Below.refl _ _).drew
            refine wp_region_tree (S := fun w' => Below wr.heap.size wr w') 16 (.take 0 (.take 1 (.take 2 (.take 3 (.take 4 (.take 5 (.take 8 (.take 9 (.take 10 (.take 11 (.take 12 (.take 13 (.take 14 (.step 6 (.take 7 (.take 15 .done)))))))))))))))) (by kernel_rfl) rfl (by kernel_rfl) hBC ?_
            generalize wr.drew = wd at hBC ⊢
            simp only [Ord.map, List.getD_cons_succ, List.getD_cons_zero, List.drop_succ_cons, List.drop_zero]
            iterate 13
              refine wpTree_take (v := ?_) (by rfl) ?_ ?_
              rotate_left
              · intro w' hw'
                have k1 := (hw'.cell (p := ⟨bk, off + i * 4 + 3, none⟩) hbk).trans HC3.out
                have k2 := (hw'.cell (p := ⟨bk, off + i * 4 + 2, none⟩) hbk).trans HC2.out
                clear hw'
                go_simp
                try with_reducible rfl
              simp only [Act.put, List.setIfInBounds_toArray, List.set_cons_zero, List.set_cons_succ]
            refine wpTree_step fun K hK => ?_
            go_simp
            go_at_call 14
            refine (size_any Aq Lq cq _ (HAL.out.below hBC) (by omega)).mono ?_
            rintro e w5 ⟨rfl, hB5⟩
            rw [← hsm.out]
            have hB35 := hBC.trans (hB5.mono hBC.size)
            refine hK.out _ _ hB35 ?_
            clear hK K
            try simp only [Act.put, List.setIfInBounds_toArray, List.set_cons_zero, List.set_cons_succ]
            iterate 2
              refine wpTree_take (v := ?_) (by rfl) ?_ ?_
              rotate_left
              · intro w' hw'
                clear hw'
                go_simp
                try with_reducible rfl
              simp only [Act.put, List.setIfInBounds_toArray, List.set_cons_zero, List.set_cons_succ]
            refine wpTree_done ?_
            go_wp2_with fail
            refine NoPanic.normal ?_
            go_wp2_with fail
            go_roundw
            case rel => exact ⟨i + 1, by omega, by go_num, by rw [HST.out]; have := ht1.out; have := ht2.out; have := hsm.out; exact val_int (by show (_ : Int) = _; unfold totT; simp only []; omega), HB.out.trans (hB35.mono hw0)⟩
            case measure => simp [intOf]; omega
        · have hdd : decide ((i : Int) < (L.length : Int)) = false := decide_eq_false (by omega)
          obtain rfl : i = L.length := by omega
          have ht3 : Hid (t0 = totL L) := Lib.hid (by have := ht0.out; rwa [List.take_length] at this)
          by_cases hbig : 3000 < t0
          · have hf : decide (3000 < (t0 : Int)) = true := decide_eq_true (by omega)
            have hf' : decide (3000 < t0) = true := decide_eq_true hbig
            clear b2
            go_wp2_with fail
            refine (alive_any _).mono ?_
            rintro e w9 ⟨rfl, hB9⟩
            go_wp2_with fail
            go_ret
            exact ⟨rfl, HB.out.trans (hB9.mono hw0)⟩
          · have hf : decide (3000 < (t0 : Int)) = false := decide_eq_false (by omega)
            have hf' : decide (3000 < t0) = false := decide_eq_false hbig
            obtain ⟨p, rfl, hSp⟩ := b2.2.2 (by omega)
            have SP := Lib.hid hSp
            clear b2 hSp
            go_wp2_with fail
            refine (open_any A2 p c2 _ (SP.out.below HB.out)).mono ?_
            rintro e w2 ⟨v2, rfl, hR2, hB2⟩
            unfold OpnR at hR2
            rw [if_pos (by omega)] at hR2
            obtain ⟨g, rfl, hJ2⟩ := hR2
            have HJ2 := Lib.hid (hJ2.mono hw0)
            have HB2 := Lib.hid (HB.out.trans (hB2.mono hw0))
            clear hJ2 hB2
            go_wp2_with fail
            refine (refopen_at A2 p c2 _ (SP.out.below HB2.out) (by omega)).mono ?_
            rintro e w3 ⟨rfl, hB3⟩
            have HJ3 := Lib.hid (HJ2.out.below hB3)
            have HB3 := Lib.hid (HB2.out.trans (hB3.mono HB2.out.size))
            have hw3 := HB3.out.size
            obtain ⟨n0, hn0⟩ : ∃ n0, Hid (n0 = (rcv p).2) := ⟨_, Lib.hid rfl⟩
            rw [← hn0.out]
            clear hB3 HJ2
            go_wp2_with (first | (refine wpList_new rfl 47 rfl _ info47 ?_; intro w4 hn4 hB4 hz4; have hf4 := hn4.frozen 0; have c4 : w4.cell? ⟨w3.heap.size, 0, none⟩ = some (.slice none 0 0) := hn4.cell 0; have hn4' : Blk (w4.setCell ⟨w3.heap.size, 0, none⟩ (.slice A2 n0 c2)) w3.heap.size 47 #[.slice A2 n0 c2] := hn4.set_ 0 _; have HN4 := Lib.hid hn4'; clear hn4 hn4' hz4))
            have hB4' : Below w3.heap.size w3 (w4.setCell ⟨w3.heap.size, 0, none⟩ (.slice A2 n0 c2)) := hB4.setCell (Nat.le_refl _) _
            have HB4 := Lib.hid (HB3.out.trans (hB4'.mono hw3))
            have HJ4 := Lib.hid (HJ3.out.below hB4')
            have hpb := SP.out.1.2.1
            have hrok := rcv_ok p
            have henc := encs_rcv hpb
            have hps0 : Hid ((encs (rcv p).1).length = n0 ∧ SlB (w4.setCell ⟨w3.heap.size, 0, none⟩ (.slice A2 n0 c2)) w.heap.size A2 (encs (rcv p).1) c2 ∧ sz (rcv p).1 ≤ 5000) := Lib.hid ⟨by rw [encs_len, hrok.1, hn0.out], by rw [henc]; exact ((SP.out.slB (Nat.le_refl _)).bt (Bt.of_below _ HB4.out)).take _, by omega⟩
            clear hB4 hf4 c4 hB4' hpb hrok henc hw0 HB HB2 HB3 HJ3
            obtain ⟨gr, hgr⟩ : ∃ gr, Hid (gr = w3.heap.size) := ⟨_, Lib.hid rfl⟩
            rw [← hgr.out] at HN4 HB4 HJ4 hps0 hw3 ⊢
            generalize w4.setCell ⟨gr, 0, none⟩ (.slice A2 n0 c2) = w5 at HN4 HB4 HJ4 hps0 ⊢
            have htl : totL L ≤ 3000 := by have := ht3.out; omega
            go_wp2_with fail
            go_loopw [7, 8, 10, 70] (fun vj ve vf vi wr => ∃ (i : Nat) (ps : List (List Nat)) (A : Option Addr) (c : Nat) (e : Int) (g : Nat), i ≤ L.length ∧ vi = .int .i64 (i : Int) ∧ vj = .pointer (some ⟨g, 0, none⟩) ∧ ve = .int .i64 e ∧ vf = .int .i64 e ∧ Jr wr w.heap.size g ps ∧ sz ps ≤ 5000 + 4000 * i ∧ Blk wr gr 47 #[.slice A (encs ps).length c] ∧ SlB wr w.heap.size A (encs ps) c ∧ Below w.heap.size w wr) (fun _ _ _ vi _ => L.length - (intOf vi).toNat)
            case atStart => exact ⟨0, (rcv p).1, A2, c2, 0, g, Nat.zero_le _, rfl, rfl, rfl, rfl, HJ4.out, by have := hps0.out.2.2; omega, by rw [hps0.out.1]; exact HN4.out, hps0.out.2.1, HB4.out⟩
            case round =>
              clear HN4 HB4 HJ4 hps0 SP hn0 hd hd' h2000 ho1 hf hf' hbig
              obtain ⟨i, ps, A, c, er, g, hi, rfl, rfl, rfl, rfl, hJ, hsz, hbk', hSL, hB⟩ := hrel
              have HJ := Lib.hid hJ
              have HBK := Lib.hid hbk'
              have HSL := Lib.hid hSL
              have HBW := Lib.hid hB
              have HGOOD := Lib.hid hJ.good
              have hw0 := hB.size
              obtain ⟨en0, hen0⟩ : ∃ en0, Hid (en0 = (encs ps).length) := ⟨_, Lib.hid rfl⟩
              have cgr : wr.cell? ⟨gr, 0, none⟩ = some (.slice A (encs ps).length c) := hbk'.cell 0
              rw [← hen0.out] at cgr
              by_cases hd : i < L.length
              · have hdd : decide ((i : Int) < (L.length : Int)) = true := decide_eq_true (by omega)
                have hi0 : (0 : Int) ≤ (i : Int) := by omega
                have hi1 : (i : Int) < (L.length : Int) := by omega
                have hwi : IntKind.i64.wrap ((i : Int) + 1) = ((i + 1 : Nat) : Int) := by rw [IntKind.wrap_i64]; omega
                obtain ⟨o, ho⟩ : ∃ o, L[i]? = some o := ⟨_, List.getElem?_eq_getElem hd⟩
                have htm := totL_mem (List.mem_of_getElem? ho)
                obtain ⟨bk, off, rfl, hbk, hc0, hc1, hc2, hc3, hE, hAL, hk1, hk2⟩ := HA.out i o ho
                obtain ⟨kd, n, ⟨B, l, cp⟩, Aq, Lq, cq⟩ := o
                unfold totT at htm
                simp only at hc0 hc1 hc2 hc3 hE hAL hk1 hk2 htm
                obtain ⟨p, hpl, hRP⟩ := hE.2.2 (by omega)
                have hpl : p.length = l := hpl
                have hsum : sumL Lq ≤ 3000 := by omega
                have hpl3 : p.length ≤ 3000 := by omega
                subst hpl
                obtain ⟨qs, hqlen, hRQ, hqsz, _⟩ := argL_rds hAL (by have := sumL_len Lq; omega) (fun o ho => by have := sumL_mem ho; omega)
                rw [← hqlen] at hc3
                have hqs3 : sz qs ≤ 3000 := by omega
                have HC0 := Lib.hid hc0
                have HC1 := Lib.hid hc1
                have HC2 := Lib.hid hc2
                have HC3 := Lib.hid hc3
                have HRP := Lib.hid hRP
                have HRQ := Lib.hid hRQ
                have k0 := (hB.cell (p := ⟨bk, off + i * 4, none⟩) hbk).trans hc0
                have k1 := (hB.cell (p := ⟨bk, off + i * 4 + 1, none⟩) hbk).trans hc1
                have k2 := (hB.cell (p := ⟨bk, off + i * 4 + 2, none⟩) hbk).trans hc2
                have k3 := (hB.cell (p := ⟨bk, off + i * 4 + 3, none⟩) hbk).trans hc3
                clear hc0 hc1 hc2 hc3 hE hAL hk1 hk2 hRP hRQ hqsz hsum hqlen ho htm hJ hbk' hSL hB
                by_cases hk0 : kd = 0
                · obtain rfl : kd = 0 := hk0
                  go_wp2_with fail
                  refine (append_any w.heap.size g ps B p cp _ HJ.out (HRP.out.below HBW.out (Nat.le_refl _))).mono ?_
                  rintro e w6 ⟨rfl, hJ6, hT6⟩
                  have HE := Lib.hid (show apE ps p = 0 by unfold apE; rw [if_neg (by omega), if_neg (by have := sz_len ps; omega)])
                  unfold apS at hJ6
                  rw [HE.out, if_pos rfl] at hJ6
                  rw [HE.out]
                  obtain ⟨rs, hrs⟩ : ∃ rs, Hid (rs = ps ++ [p]) := ⟨_, Lib.hid rfl⟩
                  rw [← hrs.out] at hJ6
                  have HJ6 := Lib.hid hJ6
                  have HBW6 := Lib.hid (HBW.out.trans (hT6.below HBW.out.size))
                  have HBK6 := Lib.hid (HBK.out.bt hT6 (by decide) (by decide))
                  have HSL6 := Lib.hid (HSL.out.bt hT6)
                  have HSZ := Lib.hid (show sz rs ≤ 5000 + 4000 * (i + 1) by rw [hrs.out, sz_app]; simp only [sz]; omega)
                  clear hJ6 hT6 k0 k1 k2 k3 cgr
                  go_wp2_with fail
                  have hBC : Below w.heap.size w w6.drew := HBW6.out.drew
                  have hBD : Below w6.heap.size w6 w6.drew := (Below.refl _ _).drew
                  refine wp_region_tree (S := fun w' => Below w.heap.size w w') 11 (.take 1 (.take 2 (.take 3 (.take 4 (.take 5 (.step 0 (.step 6 (.take 7 (.take 8 (.take 9 (.step 10 .done))))))))))) (by kernel_rfl) rfl (by kernel_rfl) hBC ?_
                  generalize w6.drew = wd at hBC hBD ⊢
                  simp only [Ord.map, List.getD_cons_succ, List.getD_cons_zero, List.drop_succ_cons, List.drop_zero]
                  iterate 5
                    refine wpTree_take (v := ?_) (by rfl) ?_ ?_
                    rotate_left
                    · intro w' hw'
                      have k1 := (hw'.cell (p := ⟨bk, off + i * 4 + 2, none⟩) hbk).trans HC2.out
                      clear hw'
                      go_simp
                      try with_reducible rfl
                    simp only [Act.put, List.setIfInBounds_toArray, List.set_cons_zero, List.set_cons_succ]
                  have hbd := HBK6.out.below hBD HBK6.out.lt
                  have cd : wd.cell? ⟨gr, 0, none⟩ = some (.slice A (encs ps).length c) := hbd.cell 0
                  rw [← hen0.out] at cd
                  refine wpTree_step fun K hK => ?_
                  go_simp
                  refine hK.out _ _ hBC ?_
                  clear hK K cd
                  try simp only [Act.put, List.setIfInBounds_toArray, List.set_cons_zero, List.set_cons_succ]
                  refine wpTree_step fun K hK => ?_
                  go_simp
                  go_at_call 22
                  have hcall := (refappend_at A (encs ps) c B p cp wd ((HSL6.out.below hBD).1) (HRP.out.below hBC (Nat.le_refl _)) (by rw [rcv_encs HGOOD.out.2 HGOOD.out.1]; have := sz_len ps; show ps.length < 65536; omega) (by rw [encs_len]; omega) (by omega))
                  rw [← hen0.out] at hcall
                  refine hcall.mono ?_
                  rintro e w5' ⟨v5, rfl, hO5, hB5⟩
                  rw [← encs_app, ← hrs.out] at hO5
                  obtain ⟨A5, c5, rfl, hSB5⟩ := OwnB.slB (base := w.heap.size) hO5 (by rw [encs_len]; have := HSZ.out; omega) (encs_bytes (fun q hq => (HJ6.out.good.1 q hq).2))
                  obtain ⟨e5, he5⟩ : ∃ e5, Hid (e5 = (encs rs).length) := ⟨_, Lib.hid rfl⟩
                  rw [← he5.out]
                  have hB65 := hBD.trans (hB5.mono hBD.size)
                  have hBC5 := HBW6.out.trans (hB65.mono HBW6.out.size)
                  have hb5 := HBK6.out.below hB65 HBK6.out.lt
                  refine hK.out _ _ hBC5 ?_
                  clear hK K
                  try simp only [Act.put, List.setIfInBounds_toArray, List.set_cons_zero, List.set_cons_succ]
                  iterate 3
                    refine wpTree_take (v := ?_) (by rfl) ?_ ?_
                    rotate_left
                    · intro w' hw'
                      clear hw'
                      go_simp
                      try with_reducible rfl
                    simp only [Act.put, List.setIfInBounds_toArray, List.set_cons_zero, List.set_cons_succ]
                  have hg5 := hb5.lt
                  have f5 := hb5.frozen 0
                  have d5 : w5'.cell? ⟨gr, 0, none⟩ = some (.slice A (encs ps).length c) := hb5.cell 0
                  have HJ9 := Lib.hid ((HJ6.out.below hB65).set47 hb5 (.slice A5 e5 c5))
                  have HBW9 := Lib.hid (hBC5.setCell hw3 (.slice A5 e5 c5) (p := ⟨gr, 0, none⟩))
                  have HSL9 := Lib.hid (hSB5.set47 hb5 hw3 (.slice A5 e5 c5))
                  have hb9 : Blk (w5'.setCell ⟨gr, 0, none⟩ (.slice A5 e5 c5)) gr 47 #[.slice A5 e5 c5] := hb5.set_ 0 _
                  have hb9' : Blk (w5'.setCell ⟨gr, 0, none⟩ (.slice A5 e5 c5)) gr 47 #[.slice A5 (encs rs).length c5] := by rw [← he5.out]; exact hb9
                  have HBK9 := Lib.hid hb9'
                  refine wpTree_step fun K hK => ?_
                  go_simp
                  refine hK.out _ _ HBW9.out ?_
                  clear hK K f5 d5 hb9 hb9' hSB5 hb5
                  try simp only [Act.put, List.setIfInBounds_toArray, List.set_cons_zero, List.set_cons_succ]
                  refine wpTree_done ?_
                  generalize w5'.setCell ⟨gr, 0, none⟩ (.slice A5 e5 c5) = w9 at *
                  go_wp2_with fail
                  refine NoPanic.normal ?_
                  clear hBC hBD hBC5 hbd hB65
                  obtain ⟨en, hen⟩ : ∃ en, Hid (en = (encs rs).length) := ⟨_, Lib.hid rfl⟩
                  obtain ⟨st, hst⟩ : ∃ st, Hid (st = strN (encs rs)) := ⟨_, Lib.hid rfl⟩
                  have hstt : (st.toList == st.toList) = true := by rw [beq_iff_eq]
                  have hstn : (st.toList != st.toList) = false := by rw [bne_eq_false_iff_eq]
                  have cx : (w9).cell? ⟨gr, 0, none⟩ = some (.slice A5 (encs rs).length c5) := (HBK9.out).cell 0
                  have CX := Lib.hid cx
                  rw [← hen.out] at cx
                  have hgx := (HBK9.out).lt
                  have HGD := Lib.hid HJ9.out.good
                  have hee : ((0 : Int) != 0) = false := by rw [bne_eq_false_iff_eq]
                  have hok := HJ9.out.2.1
                  have HOK := Lib.hid hok.2.2
                  have hszl : (encs rs).length ≤ 16777216 := by rw [encs_len]; exact hok.2.1
                  have hlen := hok.1
                  clear hok
                  go_wp2_with fail
                  have hcall := refrecover_any A5 (encs rs) c5 _ HSL9.out.1
                  unfold RcvR at hcall
                  rw [← hen.out, rcv_encs HGD.out.2 HGD.out.1] at hcall
                  refine hcall.mono ?_
                  rintro e w7 ⟨v7, rfl, ⟨u7, rfl, hO7⟩, hB7⟩
                  have hO7 : OwnS w7 _ u7 rs := hO7
                  obtain ⟨A7, c7, rfl, hR7⟩ := hO7.rds (by omega) (fun p hp => by have := HOK.out p hp; omega)
                  have HBW7 := Lib.hid (HBW9.out.trans (hB7.mono HBW9.out.size))
                  have HBK7 := Lib.hid (HBK9.out.below hB7 HBK9.out.lt)
                  have HSL7 := Lib.hid (HSL9.out.below hB7)
                  have HJ7 := Lib.hid (HJ9.out.below hB7)
                  have HR7 := Lib.hid hR7
                  have c7x : w7.cell? ⟨gr, 0, none⟩ = some (.slice A5 (encs rs).length c5) := (HBK7.out).cell 0
                  have C7 := Lib.hid c7x
                  have hg7 := (HBK7.out).lt
                  clear hcall hO7 hR7 hB7 cx CX c7x
                  go_wp2_with fail
                  have hBC : Below w7.heap.size w7 w7.drew := (Below.refl _ _).drew
                  refine wp_region_tree (S := fun w' => Below w7.heap.size w7 w') 13 (.take 0 (.take 3 (.take 4 (.take 5 (.step 1 (.step 2 (.take 6 (.take 7 (.take 8 (.take 10 (.step 9 (.step 11 (.take 12 .done))))))))))))) (by kernel_rfl) rfl (by kernel_rfl) hBC ?_
                  generalize w7.drew = wd at hBC ⊢
                  simp only [Ord.map, List.getD_cons_succ, List.getD_cons_zero, List.drop_succ_cons, List.drop_zero]
                  iterate 4
                    refine wpTree_take (v := ?_) (by rfl) ?_ ?_
                    rotate_left
                    · intro w' hw'
                      have k1 := (hw'.cell (p := ⟨gr, 0, none⟩) hg7).trans C7.out
                      have k2 := run_conv (HSL7.out.1.1.below hw' (Nat.le_refl _)) c5
                      rw [← hen.out] at k1 k2
                      rw [← hst.out] at k2
                      clear hw'
                      go_simp
                      try with_reducible rfl
                    simp only [Act.put, List.setIfInBounds_toArray, List.set_cons_zero, List.set_cons_succ]
                  refine wpTree_step fun K hK => ?_
                  go_simp
                  go_at_call 16
                  refine (bytes_any w.heap.size _ rs _ (HJ7.out.below hBC)).mono ?_
                  rintro e w10 ⟨v10, rfl, hO10, hB10⟩
                  obtain ⟨A10, c10, rfl, hr10⟩ := hO10.slice (by omega) HSL7.out.1.1.2.1
                  have hB910 := hBC.trans (hB10.mono hBC.size)
                  have k10 := run_conv hr10 c10
                  rw [← hen.out, ← hst.out] at k10
                  rw [← hen.out]
                  refine hK.out _ _ hB910 ?_
                  clear hK K
                  try simp only [Act.put, List.setIfInBounds_toArray, List.set_cons_zero, List.set_cons_succ]
                  refine wpTree_step fun K hK => ?_
                  go_simp
                  refine hK.out _ _ hB910 ?_
                  clear hK K k10
                  try simp only [Act.put, List.setIfInBounds_toArray, List.set_cons_zero, List.set_cons_succ]
                  iterate 4
                    refine wpTree_take (v := ?_) (by rfl) ?_ ?_
                    rotate_left
                    · intro w' hw'
                      clear hw'
                      go_simp
                      try with_reducible rfl
                    simp only [Act.put, List.setIfInBounds_toArray, List.set_cons_zero, List.set_cons_succ]
                  refine wpTree_step fun K hK => ?_
                  go_simp
                  go_at_call 18
                  refine (records_any w.heap.size _ rs _ (HJ7.out.below hB910)).mono ?_
                  rintro e w11 ⟨v11, rfl, hO11, hB11⟩
                  obtain ⟨A11, c11, rfl, hR11⟩ := hO11.rds (by omega) (fun p hp => by have := HOK.out p hp; omega)
                  have hB911 := hB910.trans (hB11.mono hB910.size)
                  refine hK.out _ _ hB911 ?_
                  clear hK K
                  try simp only [Act.put, List.setIfInBounds_toArray, List.set_cons_zero, List.set_cons_succ]
                  refine wpTree_step fun K hK => ?_
                  go_simp
                  go_at_call 13
                  refine (same_any A11 A7 rs rs c11 c7 w11 hR11 (HR7.out.below hB911 (Nat.le_refl _))).mono ?_
                  rintro e w12 ⟨rfl, hB12⟩
                  rw [show decide (rs = rs) = true from decide_eq_true rfl]
                  have hB912 := hB911.trans (hB12.mono hB911.size)
                  refine hK.out _ _ hB912 ?_
                  clear hK K
                  try simp only [Act.put, List.setIfInBounds_toArray, List.set_cons_zero, List.set_cons_succ]
                  iterate 1
                    refine wpTree_take (v := ?_) (by rfl) ?_ ?_
                    rotate_left
                    · intro w' hw'
                      clear hw'
                      go_simp
                      try with_reducible rfl
                    simp only [Act.put, List.setIfInBounds_toArray, List.set_cons_zero, List.set_cons_succ]
                  refine wpTree_done ?_
                  go_wp2_with fail
                  refine NoPanic.normal ?_
                  go_wp2_with fail
                  go_roundw
                  case rel => exact ⟨i + 1, rs, A5, c5, 0, g, by omega, by go_num, rfl, rfl, rfl, HJ7.out.below hB912, HSZ.out, HBK7.out.below hB912 hg7, HSL7.out.below hB912, HBW7.out.trans (hB912.mono HBW7.out.size)⟩
                  case measure => simp [intOf]; omega
                · by_cases hk1 : kd = 1
                  · obtain rfl : kd = 1 := hk1
                    go_wp2_with fail
                    refine (truncate_any w.heap.size g ps n _ HJ.out).mono ?_
                    rintro e w6 ⟨rfl, hJ6, hG6⟩
                    have hT6 := HJ.out.bt hG6
                    obtain ⟨r1, r2, r3⟩ := rt_tr HGOOD.out.1 HGOOD.out.2 n
                    have R1 := Lib.hid r1
                    have R2 := Lib.hid r2
                    have R3 := Lib.hid r3
                    obtain ⟨qs, hqs⟩ : ∃ qs, Hid (qs = trS ps n) := ⟨_, Lib.hid rfl⟩
                    obtain ⟨te, hte⟩ : ∃ te, Hid (te = trE ps n) := ⟨_, Lib.hid rfl⟩
                    rw [← hqs.out] at hJ6
                    rw [← hte.out]
                    have HJ6 := Lib.hid hJ6
                    have HBW6 := Lib.hid (HBW.out.trans (hT6.below HBW.out.size))
                    have HBK6 := Lib.hid (HBK.out.bt hT6 (by decide) (by decide))
                    have HSL6 := Lib.hid (HSL.out.bt hT6)
                    have HSZ := Lib.hid (show sz qs ≤ 5000 + 4000 * (i + 1) by rw [hqs.out]; have := tr_sz ps n; omega)
                    clear hJ6 hT6 hG6 k0 k1 k2 k3 cgr r1 r2 r3
                    go_wp2_with fail
                    have hBC : Below w.heap.size w w6.drew := HBW6.out.drew
                    have hBD : Below w6.heap.size w6 w6.drew := (Below.refl _ _).drew
                    refine wp_region_tree (S := fun w' => Below w.heap.size w w') 11 (.take 1 (.take 2 (.take 3 (.take 4 (.take 5 (.step 0 (.step 6 (.take 7 (.take 8 (.take 9 (.step 10 .done))))))))))) (by kernel_rfl) rfl (by kernel_rfl) hBC ?_
                    generalize w6.drew = wd at hBC hBD ⊢
                    simp only [Ord.map, List.getD_cons_succ, List.getD_cons_zero, List.drop_succ_cons, List.drop_zero]
                    iterate 5
                      refine wpTree_take (v := ?_) (by rfl) ?_ ?_
                      rotate_left
                      · intro w' hw'
                        have k1 := (hw'.cell (p := ⟨bk, off + i * 4 + 1, none⟩) hbk).trans HC1.out
                        clear hw'
                        go_simp
                        try with_reducible rfl
                      simp only [Act.put, List.setIfInBounds_toArray, List.set_cons_zero, List.set_cons_succ]
                    have hbd := HBK6.out.below hBD HBK6.out.lt
                    have cd : wd.cell? ⟨gr, 0, none⟩ = some (.slice A (encs ps).length c) := hbd.cell 0
                    rw [← hen0.out] at cd
                    refine wpTree_step fun K hK => ?_
                    go_simp
                    refine hK.out _ _ hBC ?_
                    clear hK K cd
                    try simp only [Act.put, List.setIfInBounds_toArray, List.set_cons_zero, List.set_cons_succ]
                    refine wpTree_step fun K hK => ?_
                    go_simp
                    go_at_call 23
                    have hcall := (reftruncate_at A (encs ps) c n wd ((HSL6.out.below hBD).1) (by rw [encs_len]; omega))
                    rw [R1.out, R2.out, ← hqs.out, ← hte.out, ← hen0.out] at hcall
                    refine hcall.mono ?_
                    rintro e w5' ⟨rfl, hB5⟩
                    have hB65 := hBD.trans (hB5.mono hBD.size)
                    have hSB5 := (HSL6.out.below hB65).take (rtN (encs ps) n)
                    rw [R3.out, ← hqs.out] at hSB5
                    obtain ⟨e5, he5⟩ : ∃ e5, Hid (e5 = (encs qs).length) := ⟨_, Lib.hid rfl⟩
                    rw [← he5.out]
                    have hBC5 := HBW6.out.trans (hB65.mono HBW6.out.size)
                    have hb5 := HBK6.out.below hB65 HBK6.out.lt
                    refine hK.out _ _ hBC5 ?_
                    clear hK K
                    try simp only [Act.put, List.setIfInBounds_toArray, List.set_cons_zero, List.set_cons_succ]
                    iterate 3
                      refine wpTree_take (v := ?_) (by rfl) ?_ ?_
                      rotate_left
                      · intro w' hw'
                        clear hw'
                        go_simp
                        try with_reducible rfl
                      simp only [Act.put, List.setIfInBounds_toArray, List.set_cons_zero, List.set_cons_succ]
                    have hg5 := hb5.lt
                    have f5 := hb5.frozen 0
                    have d5 : w5'.cell? ⟨gr, 0, none⟩ = some (.slice A (encs ps).length c) := hb5.cell 0
                    have HJ9 := Lib.hid ((HJ6.out.below hB65).set47 hb5 (.slice A e5 c))
                    have HBW9 := Lib.hid (hBC5.setCell hw3 (.slice A e5 c) (p := ⟨gr, 0, none⟩))
                    have HSL9 := Lib.hid (hSB5.set47 hb5 hw3 (.slice A e5 c))
                    have hb9 : Blk (w5'.setCell ⟨gr, 0, none⟩ (.slice A e5 c)) gr 47 #[.slice A e5 c] := hb5.set_ 0 _
                    have hb9' : Blk (w5'.setCell ⟨gr, 0, none⟩ (.slice A e5 c)) gr 47 #[.slice A (encs qs).length c] := by rw [← he5.out]; exact hb9
                    have HBK9 := Lib.hid hb9'
                    refine wpTree_step fun K hK => ?_
                    go_simp
                    refine hK.out _ _ HBW9.out ?_
                    clear hK K f5 d5 hb9 hb9' hSB5 hb5
                    try simp only [Act.put, List.setIfInBounds_toArray, List.set_cons_zero, List.set_cons_succ]
                    refine wpTree_done ?_
                    generalize w5'.setCell ⟨gr, 0, none⟩ (.slice A e5 c) = w9 at *
                    go_wp2_with fail
                    refine NoPanic.normal ?_
                    clear hBC hBD hBC5 hbd hB65
                    obtain ⟨en, hen⟩ : ∃ en, Hid (en = (encs qs).length) := ⟨_, Lib.hid rfl⟩
                    obtain ⟨st, hst⟩ : ∃ st, Hid (st = strN (encs qs)) := ⟨_, Lib.hid rfl⟩
                    have hstt : (st.toList == st.toList) = true := by rw [beq_iff_eq]
                    have hstn : (st.toList != st.toList) = false := by rw [bne_eq_false_iff_eq]
                    have cx : (w9).cell? ⟨gr, 0, none⟩ = some (.slice A (encs qs).length c) := (HBK9.out).cell 0
                    have CX := Lib.hid cx
                    rw [← hen.out] at cx
                    have hgx := (HBK9.out).lt
                    have HGD := Lib.hid HJ9.out.good
                    have hee : (((te : Nat) : Int) != (te : Nat)) = false := by rw [bne_eq_false_iff_eq]
                    have hok := HJ9.out.2.1
                    have HOK := Lib.hid hok.2.2
                    have hszl : (encs qs).length ≤ 16777216 := by rw [encs_len]; exact hok.2.1
                    have hlen := hok.1
                    clear hok
                    go_wp2_with fail
                    have hcall := refrecover_any A (encs qs) c _ HSL9.out.1
                    unfold RcvR at hcall
                    rw [← hen.out, rcv_encs HGD.out.2 HGD.out.1] at hcall
                    refine hcall.mono ?_
                    rintro e w7 ⟨v7, rfl, ⟨u7, rfl, hO7⟩, hB7⟩
                    have hO7 : OwnS w7 _ u7 qs := hO7
                    obtain ⟨A7, c7, rfl, hR7⟩ := hO7.rds (by omega) (fun p hp => by have := HOK.out p hp; omega)
                    have HBW7 := Lib.hid (HBW9.out.trans (hB7.mono HBW9.out.size))
                    have HBK7 := Lib.hid (HBK9.out.below hB7 HBK9.out.lt)
                    have HSL7 := Lib.hid (HSL9.out.below hB7)
                    have HJ7 := Lib.hid (HJ9.out.below hB7)
                    have HR7 := Lib.hid hR7
                    have c7x : w7.cell? ⟨gr, 0, none⟩ = some (.slice A (encs qs).length c) := (HBK7.out).cell 0
                    have C7 := Lib.hid c7x
                    have hg7 := (HBK7.out).lt
                    clear hcall hO7 hR7 hB7 cx CX c7x
                    go_wp2_with fail
                    have hBC : Below w7.heap.size w7 w7.drew := (Below.refl _ _).drew
                    refine wp_region_tree (S := fun w' => Below w7.heap.size w7 w') 13 (.take 0 (.take 3 (.take 4 (.take 5 (.step 1 (.step 2 (.take 6 (.take 7 (.take 8 (.take 10 (.step 9 (.step 11 (.take 12 .done))))))))))))) (by kernel_rfl) rfl (by kernel_rfl) hBC ?_
                    generalize w7.drew = wd at hBC ⊢
                    simp only [Ord.map, List.getD_cons_succ, List.getD_cons_zero, List.drop_succ_cons, List.drop_zero]
                    iterate 4
                      refine wpTree_take (v := ?_) (by rfl) ?_ ?_
                      rotate_left
                      · intro w' hw'
                        have k1 := (hw'.cell (p := ⟨gr, 0, none⟩) hg7).trans C7.out
                        have k2 := run_conv (HSL7.out.1.1.below hw' (Nat.le_refl _)) c
                        rw [← hen.out] at k1 k2
                        rw [← hst.out] at k2
                        clear hw'
                        go_simp
                        try with_reducible rfl
                      simp only [Act.put, List.setIfInBounds_toArray, List.set_cons_zero, List.set_cons_succ]
                    refine wpTree_step fun K hK => ?_
                    go_simp
                    go_at_call 16
                    refine (bytes_any w.heap.size _ qs _ (HJ7.out.below hBC)).mono ?_
                    rintro e w10 ⟨v10, rfl, hO10, hB10⟩
                    obtain ⟨A10, c10, rfl, hr10⟩ := hO10.slice (by omega) HSL7.out.1.1.2.1
                    have hB910 := hBC.trans (hB10.mono hBC.size)
                    have k10 := run_conv hr10 c10
                    rw [← hen.out, ← hst.out] at k10
                    rw [← hen.out]
                    refine hK.out _ _ hB910 ?_
                    clear hK K
                    try simp only [Act.put, List.setIfInBounds_toArray, List.set_cons_zero, List.set_cons_succ]
                    refine wpTree_step fun K hK => ?_
                    go_simp
                    refine hK.out _ _ hB910 ?_
                    clear hK K k10
                    try simp only [Act.put, List.setIfInBounds_toArray, List.set_cons_zero, List.set_cons_succ]
                    iterate 4
                      refine wpTree_take (v := ?_) (by rfl) ?_ ?_
                      rotate_left
                      · intro w' hw'
                        clear hw'
                        go_simp
                        try with_reducible rfl
                      simp only [Act.put, List.setIfInBounds_toArray, List.set_cons_zero, List.set_cons_succ]
                    refine wpTree_step fun K hK => ?_
                    go_simp
                    go_at_call 18
                    refine (records_any w.heap.size _ qs _ (HJ7.out.below hB910)).mono ?_
                    rintro e w11 ⟨v11, rfl, hO11, hB11⟩
                    obtain ⟨A11, c11, rfl, hR11⟩ := hO11.rds (by omega) (fun p hp => by have := HOK.out p hp; omega)
                    have hB911 := hB910.trans (hB11.mono hB910.size)
                    refine hK.out _ _ hB911 ?_
                    clear hK K
                    try simp only [Act.put, List.setIfInBounds_toArray, List.set_cons_zero, List.set_cons_succ]
                    refine wpTree_step fun K hK => ?_
                    go_simp
                    go_at_call 13
                    refine (same_any A11 A7 qs qs c11 c7 w11 hR11 (HR7.out.below hB911 (Nat.le_refl _))).mono ?_
                    rintro e w12 ⟨rfl, hB12⟩
                    rw [show decide (qs = qs) = true from decide_eq_true rfl]
                    have hB912 := hB911.trans (hB12.mono hB911.size)
                    refine hK.out _ _ hB912 ?_
                    clear hK K
                    try simp only [Act.put, List.setIfInBounds_toArray, List.set_cons_zero, List.set_cons_succ]
                    iterate 1
                      refine wpTree_take (v := ?_) (by rfl) ?_ ?_
                      rotate_left
                      · intro w' hw'
                        clear hw'
                        go_simp
                        try with_reducible rfl
                      simp only [Act.put, List.setIfInBounds_toArray, List.set_cons_zero, List.set_cons_succ]
                    refine wpTree_done ?_
                    go_wp2_with fail
                    refine NoPanic.normal ?_
                    go_wp2_with fail
                    go_roundw
                    case rel => exact ⟨i + 1, qs, A, c, (te : Nat), g, by omega, by go_num, rfl, rfl, rfl, HJ7.out.below hB912, HSZ.out, HBK7.out.below hB912 hg7, HSL7.out.below hB912, HBW7.out.trans (hB912.mono HBW7.out.size)⟩
                    case measure => simp [intOf]; omega
                  · by_cases hk2 : kd = 2
                    · obtain rfl : kd = 2 := hk2
                      go_wp2_with fail
                      have hrw := HRQ.out.below HBW.out (Nat.le_refl _)
                      have hcall := compact_any w.heap.size g ps Aq qs cq _ HJ.out hrw (by omega) (HRQ.out.below (HBW.out.setCell HJ.out.1 _) (Nat.le_refl _)) HBW.out.size
                      refine hcall.mono ?_
                      rintro e w6 ⟨rfl, hJ6, hG6⟩
                      have hT6 := HJ.out.bt hG6
                      have HJ6 := Lib.hid hJ6
                      have HBW6 := Lib.hid (HBW.out.trans (hT6.below HBW.out.size))
                      have HBK6 := Lib.hid (HBK.out.bt hT6 (by decide) (by decide))
                      have HSL6 := Lib.hid (HSL.out.bt hT6)
                      have HSZ := Lib.hid (show sz qs ≤ 5000 + 4000 * (i + 1) by omega)
                      clear hJ6 hT6 hG6 k0 k1 k2 k3 cgr hrw hcall
                      go_wp2_with fail
                      have hBC : Below w.heap.size w w6.drew := HBW6.out.drew
                      have hBD : Below w6.heap.size w6 w6.drew := (Below.refl _ _).drew
                      refine wp_region_tree (S := fun w' => Below w.heap.size w w') 11 (.take 1 (.take 2 (.take 3 (.take 4 (.take 5 (.step 0 (.step 6 (.take 7 (.take 8 (.take 9 (.step 10 .done))))))))))) (by kernel_rfl) rfl (by kernel_rfl) hBC ?_
                      generalize w6.drew = wd at hBC hBD ⊢
                      simp only [Ord.map, List.getD_cons_succ, List.getD_cons_zero, List.drop_succ_cons, List.drop_zero]
                      iterate 5
                        refine wpTree_take (v := ?_) (by rfl) ?_ ?_
                        rotate_left
                        · intro w' hw'
                          have k1 := (hw'.cell (p := ⟨bk, off + i * 4 + 3, none⟩) hbk).trans HC3.out
                          clear hw'
                          go_simp
                          try with_reducible rfl
                        simp only [Act.put, List.setIfInBounds_toArray, List.set_cons_zero, List.set_cons_succ]
                      have hbd := HBK6.out.below hBD HBK6.out.lt
                      have cd : wd.cell? ⟨gr, 0, none⟩ = some (.slice A (encs ps).length c) := hbd.cell 0
                      rw [← hen0.out] at cd
                      refine wpTree_step fun K hK => ?_
                      go_simp
                      refine hK.out _ _ hBC ?_
                      clear hK K cd
                      try simp only [Act.put, List.setIfInBounds_toArray, List.set_cons_zero, List.set_cons_succ]
                      refine wpTree_step fun K hK => ?_
                      go_simp
                      go_at_call 25
                      refine (refcompact_any (.slice A en0 c) Aq qs cq _ (HRQ.out.below hBC (Nat.le_refl _)) (by omega)).mono ?_
                      rintro e w5' ⟨v5, rfl, hO5, hB5⟩
                      obtain ⟨A5, c5, rfl, hSB5⟩ := OwnB.slB (base := w.heap.size) hO5 (by rw [encs_len]; have := HSZ.out; omega) (encs_bytes (fun q hq => (HJ6.out.good.1 q hq).2))
                      obtain ⟨e5, he5⟩ : ∃ e5, Hid (e5 = (encs qs).length) := ⟨_, Lib.hid rfl⟩
                      rw [← he5.out]
                      have hB65 := hBD.trans (hB5.mono hBD.size)
                      have hBC5 := HBW6.out.trans (hB65.mono HBW6.out.size)
                      have hb5 := HBK6.out.below hB65 HBK6.out.lt
                      refine hK.out _ _ hBC5 ?_
                      clear hK K
                      try simp only [Act.put, List.setIfInBounds_toArray, List.set_cons_zero, List.set_cons_succ]
                      iterate 3
                        refine wpTree_take (v := ?_) (by rfl) ?_ ?_
                        rotate_left
                        · intro w' hw'
                          clear hw'
                          go_simp
                          try with_reducible rfl
                        simp only [Act.put, List.setIfInBounds_toArray, List.set_cons_zero, List.set_cons_succ]
                      have hg5 := hb5.lt
                      have f5 := hb5.frozen 0
                      have d5 : w5'.cell? ⟨gr, 0, none⟩ = some (.slice A (encs ps).length c) := hb5.cell 0
                      have HJ9 := Lib.hid ((HJ6.out.below hB65).set47 hb5 (.slice A5 e5 c5))
                      have HBW9 := Lib.hid (hBC5.setCell hw3 (.slice A5 e5 c5) (p := ⟨gr, 0, none⟩))
                      have HSL9 := Lib.hid (hSB5.set47 hb5 hw3 (.slice A5 e5 c5))
                      have hb9 : Blk (w5'.setCell ⟨gr, 0, none⟩ (.slice A5 e5 c5)) gr 47 #[.slice A5 e5 c5] := hb5.set_ 0 _
                      have hb9' : Blk (w5'.setCell ⟨gr, 0, none⟩ (.slice A5 e5 c5)) gr 47 #[.slice A5 (encs qs).length c5] := by rw [← he5.out]; exact hb9
                      have HBK9 := Lib.hid hb9'
                      refine wpTree_step fun K hK => ?_
                      go_simp
                      refine hK.out _ _ HBW9.out ?_
                      clear hK K f5 d5 hb9 hb9' hSB5 hb5
                      try simp only [Act.put, List.setIfInBounds_toArray, List.set_cons_zero, List.set_cons_succ]
                      refine wpTree_done ?_
                      generalize w5'.setCell ⟨gr, 0, none⟩ (.slice A5 e5 c5) = w9 at *
                      go_wp2_with fail
                      refine NoPanic.normal ?_
                      clear hBC hBD hBC5 hbd hB65
                      obtain ⟨en, hen⟩ : ∃ en, Hid (en = (encs qs).length) := ⟨_, Lib.hid rfl⟩
                      obtain ⟨st, hst⟩ : ∃ st, Hid (st = strN (encs qs)) := ⟨_, Lib.hid rfl⟩
                      have hstt : (st.toList == st.toList) = true := by rw [beq_iff_eq]
                      have hstn : (st.toList != st.toList) = false := by rw [bne_eq_false_iff_eq]
                      have cx : (w9).cell? ⟨gr, 0, none⟩ = some (.slice A5 (encs qs).length c5) := (HBK9.out).cell 0
                      have CX := Lib.hid cx
                      rw [← hen.out] at cx
                      have hgx := (HBK9.out).lt
                      have HGD := Lib.hid HJ9.out.good
                      have hee : ((0 : Int) != 0) = false := by rw [bne_eq_false_iff_eq]
                      have hok := HJ9.out.2.1
                      have HOK := Lib.hid hok.2.2
                      have hszl : (encs qs).length ≤ 16777216 := by rw [encs_len]; exact hok.2.1
                      have hlen := hok.1
                      clear hok
                      go_wp2_with fail
                      have hcall := refrecover_any A5 (encs qs) c5 _ HSL9.out.1
                      unfold RcvR at hcall
                      rw [← hen.out, rcv_encs HGD.out.2 HGD.out.1] at hcall
                      refine hcall.mono ?_
                      rintro e w7 ⟨v7, rfl, ⟨u7, rfl, hO7⟩, hB7⟩
                      have hO7 : OwnS w7 _ u7 qs := hO7
                      obtain ⟨A7, c7, rfl, hR7⟩ := hO7.rds (by omega) (fun p hp => by have := HOK.out p hp; omega)
                      have HBW7 := Lib.hid (HBW9.out.trans (hB7.mono HBW9.out.size))
                      have HBK7 := Lib.hid (HBK9.out.below hB7 HBK9.out.lt)
                      have HSL7 := Lib.hid (HSL9.out.below hB7)
                      have HJ7 := Lib.hid (HJ9.out.below hB7)
                      have HR7 := Lib.hid hR7
                      have c7x : w7.cell? ⟨gr, 0, none⟩ = some (.slice A5 (encs qs).length c5) := (HBK7.out).cell 0
                      have C7 := Lib.hid c7x
                      have hg7 := (HBK7.out).lt
                      clear hcall hO7 hR7 hB7 cx CX c7x
                      go_wp2_with fail
                      have hBC : Below w7.heap.size w7 w7.drew := (Below.refl _ _).drew
                      refine wp_region_tree (S := fun w' => Below w7.heap.size w7 w') 13 (.take 0 (.take 3 (.take 4 (.take 5 (.step 1 (.step 2 (.take 6 (.take 7 (.take 8 (.take 10 (.step 9 (.step 11 (.take 12 .done))))))))))))) (by kernel_rfl) rfl (by kernel_rfl) hBC ?_
                      generalize w7.drew = wd at hBC ⊢
                      simp only [Ord.map, List.getD_cons_succ, List.getD_cons_zero, List.drop_succ_cons, List.drop_zero]
                      iterate 4
                        refine wpTree_take (v := ?_) (by rfl) ?_ ?_
                        rotate_left
                        · intro w' hw'
                          have k1 := (hw'.cell (p := ⟨gr, 0, none⟩) hg7).trans C7.out
                          have k2 := run_conv (HSL7.out.1.1.below hw' (Nat.le_refl _)) c5
                          rw [← hen.out] at k1 k2
                          rw [← hst.out] at k2
                          clear hw'
                          go_simp
                          try with_reducible rfl
                        simp only [Act.put, List.setIfInBounds_toArray, List.set_cons_zero, List.set_cons_succ]
                      refine wpTree_step fun K hK => ?_
                      go_simp
                      go_at_call 16
                      refine (bytes_any w.heap.size _ qs _ (HJ7.out.below hBC)).mono ?_
                      rintro e w10 ⟨v10, rfl, hO10, hB10⟩
                      obtain ⟨A10, c10, rfl, hr10⟩ := hO10.slice (by omega) HSL7.out.1.1.2.1
                      have hB910 := hBC.trans (hB10.mono hBC.size)
                      have k10 := run_conv hr10 c10
                      rw [← hen.out, ← hst.out] at k10
                      rw [← hen.out]
                      refine hK.out _ _ hB910 ?_
                      clear hK K
                      try simp only [Act.put, List.setIfInBounds_toArray, List.set_cons_zero, List.set_cons_succ]
                      refine wpTree_step fun K hK => ?_
                      go_simp
                      refine hK.out _ _ hB910 ?_
                      clear hK K k10
                      try simp only [Act.put, List.setIfInBounds_toArray, List.set_cons_zero, List.set_cons_succ]
                      iterate 4
                        refine wpTree_take (v := ?_) (by rfl) ?_ ?_
                        rotate_left
                        · intro w' hw'
                          clear hw'
                          go_simp
                          try with_reducible rfl
                        simp only [Act.put, List.setIfInBounds_toArray, List.set_cons_zero, List.set_cons_succ]
                      refine wpTree_step fun K hK => ?_
                      go_simp
                      go_at_call 18
                      refine (records_any w.heap.size _ qs _ (HJ7.out.below hB910)).mono ?_
                      rintro e w11 ⟨v11, rfl, hO11, hB11⟩
                      obtain ⟨A11, c11, rfl, hR11⟩ := hO11.rds (by omega) (fun p hp => by have := HOK.out p hp; omega)
                      have hB911 := hB910.trans (hB11.mono hB910.size)
                      refine hK.out _ _ hB911 ?_
                      clear hK K
                      try simp only [Act.put, List.setIfInBounds_toArray, List.set_cons_zero, List.set_cons_succ]
                      refine wpTree_step fun K hK => ?_
                      go_simp
                      go_at_call 13
                      refine (same_any A11 A7 qs qs c11 c7 w11 hR11 (HR7.out.below hB911 (Nat.le_refl _))).mono ?_
                      rintro e w12 ⟨rfl, hB12⟩
                      rw [show decide (qs = qs) = true from decide_eq_true rfl]
                      have hB912 := hB911.trans (hB12.mono hB911.size)
                      refine hK.out _ _ hB912 ?_
                      clear hK K
                      try simp only [Act.put, List.setIfInBounds_toArray, List.set_cons_zero, List.set_cons_succ]
                      iterate 1
                        refine wpTree_take (v := ?_) (by rfl) ?_ ?_
                        rotate_left
                        · intro w' hw'
                          clear hw'
                          go_simp
                          try with_reducible rfl
                        simp only [Act.put, List.setIfInBounds_toArray, List.set_cons_zero, List.set_cons_succ]
                      refine wpTree_done ?_
                      go_wp2_with fail
                      refine NoPanic.normal ?_
                      go_wp2_with fail
                      go_roundw
                      case rel => exact ⟨i + 1, qs, A5, c5, 0, g, by omega, by go_num, rfl, rfl, rfl, HJ7.out.below hB912, HSZ.out, HBK7.out.below hB912 hg7, HSL7.out.below hB912, HBW7.out.trans (hB912.mono HBW7.out.size)⟩
                      case measure => simp [intOf]; omega
                    · by_cases hk3 : kd = 3
                      · obtain rfl : kd = 3 := hk3
                        go_wp2_with fail
                        refine (bytes_any w.heap.size g ps _ HJ.out).mono ?_
                        rintro e w6 ⟨v6, rfl, hO6, hB6⟩
                        obtain ⟨A6, c6, rfl, hS6⟩ := hO6.sl (by rw [encs_len]; omega) (encs_bytes (fun q hq => (HGOOD.out.1 q hq).2))
                        have hb6 := HBK.out.below hB6 HBK.out.lt
                        have HS6 := Lib.hid hS6
                        have HBW6 := Lib.hid (HBW.out.trans (hB6.mono HBW.out.size))
                        have HSL6 := Lib.hid (HSL.out.below hB6)
                        have HBK6 := Lib.hid hb6
                        obtain ⟨en1, hen1⟩ : ∃ en1, Hid (en1 = (encs ps).length) := ⟨_, Lib.hid rfl⟩
                        rw [← hen1.out]
                        clear hO6 hB6 hS6 hb6 k0 k1 k2 k3 cgr
                        go_wp2_with fail
                        have hcall := open_any A6 (encs ps) c6 _ HS6.out
                        rw [← hen1.out] at hcall
                        refine hcall.mono ?_
                        rintro e w7' ⟨v7', rfl, hR7', hB7'⟩
                        unfold OpnR at hR7'
                        rw [if_pos (by rw [encs_len]; omega), rcv_encs HGOOD.out.2 HGOOD.out.1] at hR7'
                        obtain ⟨g2, rfl, hJ7'⟩ := hR7'
                        have HJ7' := Lib.hid (hJ7'.mono HBW6.out.size)
                        have HBW7' := Lib.hid (HBW6.out.trans (hB7'.mono HBW6.out.size))
                        have hb7 := HBK6.out.below hB7' HBK6.out.lt
                        have HBK7' := Lib.hid hb7
                        have HSL7' := Lib.hid (HSL6.out.below hB7')
                        have d7 : w7'.cell? ⟨gr, 0, none⟩ = some (.slice A (encs ps).length c) := hb7.cell 0
                        rw [← hen0.out] at d7
                        clear hJ7' hB7' hb7 hcall
                        go_wp2_with fail
                        have hcall := refopen_at A (encs ps) c _ HSL7'.out.1 (by rw [encs_len]; omega)
                        rw [rcv_encs HGOOD.out.2 HGOOD.out.1, ← hen0.out] at hcall
                        refine hcall.mono ?_
                        rintro e w8' ⟨rfl, hB8'⟩
                        have hzp : sz ps = en0 := by rw [hen0.out, encs_len]
                        simp only [hzp]
                        have hb8 := HBK7'.out.below hB8' HBK7'.out.lt
                        have f8 := hb8.frozen 0
                        have d8 : w8'.cell? ⟨gr, 0, none⟩ = some (.slice A (encs ps).length c) := hb8.cell 0
                        have hBC8 := HBW7'.out.trans (hB8'.mono HBW7'.out.size)
                        have HJ9 := Lib.hid ((HJ7'.out.below hB8').set47 hb8 (.slice A en0 c))
                        have HBW9 := Lib.hid (hBC8.setCell hw3 (.slice A en0 c) (p := ⟨gr, 0, none⟩))
                        have HSL9 := Lib.hid ((HSL7'.out.below hB8').set47 hb8 hw3 (.slice A en0 c))
                        have hb9 : Blk (w8'.setCell ⟨gr, 0, none⟩ (.slice A en0 c)) gr 47 #[.slice A en0 c] := hb8.set_ 0 _
                        have hb9' : Blk (w8'.setCell ⟨gr, 0, none⟩ (.slice A en0 c)) gr 47 #[.slice A (encs ps).length c] := by rw [← hen0.out]; exact hb9
                        have HBK9 := Lib.hid hb9'
                        clear hb9 hb9' hb8 hBC8 hB8' hcall d7 hzp
                        rw [← hen0.out] at d8
                        have hen := hen0
                        obtain ⟨st, hst⟩ : ∃ st, Hid (st = strN (encs ps)) := ⟨_, Lib.hid rfl⟩
                        have hstt : (st.toList == st.toList) = true := by rw [beq_iff_eq]
                        have hstn : (st.toList != st.toList) = false := by rw [bne_eq_false_iff_eq]
                        have cx : (w8'.setCell ⟨gr, 0, none⟩ (.slice A en0 c)).cell? ⟨gr, 0, none⟩ = some (.slice A (encs ps).length c) := (HBK9.out).cell 0
                        have CX := Lib.hid cx
                        rw [← hen.out] at cx
                        have hgx := (HBK9.out).lt
                        have HGD := Lib.hid HJ9.out.good
                        have hee : ((0 : Int) != 0) = false := by rw [bne_eq_false_iff_eq]
                        have hok := HJ9.out.2.1
                        have HOK := Lib.hid hok.2.2
                        have hszl : (encs ps).length ≤ 16777216 := by rw [encs_len]; exact hok.2.1
                        have hlen := hok.1
                        clear hok
                        go_wp2_with fail
                        have hcall := refrecover_any A (encs ps) c _ HSL9.out.1
                        unfold RcvR at hcall
                        rw [← hen.out, rcv_encs HGD.out.2 HGD.out.1] at hcall
                        refine hcall.mono ?_
                        rintro e w7 ⟨v7, rfl, ⟨u7, rfl, hO7⟩, hB7⟩
                        have hO7 : OwnS w7 _ u7 ps := hO7
                        obtain ⟨A7, c7, rfl, hR7⟩ := hO7.rds (by omega) (fun p hp => by have := HOK.out p hp; omega)
                        have HBW7 := Lib.hid (HBW9.out.trans (hB7.mono HBW9.out.size))
                        have HBK7 := Lib.hid (HBK9.out.below hB7 HBK9.out.lt)
                        have HSL7 := Lib.hid (HSL9.out.below hB7)
                        have HJ7 := Lib.hid (HJ9.out.below hB7)
                        have HR7 := Lib.hid hR7
                        have c7x : w7.cell? ⟨gr, 0, none⟩ = some (.slice A (encs ps).length c) := (HBK7.out).cell 0
                        have C7 := Lib.hid c7x
                        have hg7 := (HBK7.out).lt
                        clear hcall hO7 hR7 hB7 cx CX c7x
                        go_wp2_with fail
                        have hBC : Below w7.heap.size w7 w7.drew := (Below.refl _ _).drew
                        refine wp_region_tree (S := fun w' => Below w7.heap.size w7 w') 13 (.take 0 (.take 3 (.take 4 (.take 5 (.step 1 (.step 2 (.take 6 (.take 7 (.take 8 (.take 10 (.step 9 (.step 11 (.take 12 .done))))))))))))) (by kernel_rfl) rfl (by kernel_rfl) hBC ?_
                        generalize w7.drew = wd at hBC ⊢
                        simp only [Ord.map, List.getD_cons_succ, List.getD_cons_zero, List.drop_succ_cons, List.drop_zero]
                        iterate 4
                          refine wpTree_take (v := ?_) (by rfl) ?_ ?_
                          rotate_left
                          · intro w' hw'
                            have k1 := (hw'.cell (p := ⟨gr, 0, none⟩) hg7).trans C7.out
                            have k2 := run_conv (HSL7.out.1.1.below hw' (Nat.le_refl _)) c
                            rw [← hen.out] at k1 k2
                            rw [← hst.out] at k2
                            clear hw'
                            go_simp
                            try with_reducible rfl
                          simp only [Act.put, List.setIfInBounds_toArray, List.set_cons_zero, List.set_cons_succ]
                        refine wpTree_step fun K hK => ?_
                        go_simp
                        go_at_call 16
                        refine (bytes_any w.heap.size _ ps _ (HJ7.out.below hBC)).mono ?_
                        rintro e w10 ⟨v10, rfl, hO10, hB10⟩
                        obtain ⟨A10, c10, rfl, hr10⟩ := hO10.slice (by omega) HSL7.out.1.1.2.1
                        have hB910 := hBC.trans (hB10.mono hBC.size)
                        have k10 := run_conv hr10 c10
                        rw [← hen.out, ← hst.out] at k10
                        rw [← hen.out]
                        refine hK.out _ _ hB910 ?_
                        clear hK K
                        try simp only [Act.put, List.setIfInBounds_toArray, List.set_cons_zero, List.set_cons_succ]
                        refine wpTree_step fun K hK => ?_
                        go_simp
                        refine hK.out _ _ hB910 ?_
                        clear hK K k10
                        try simp only [Act.put, List.setIfInBounds_toArray, List.set_cons_zero, List.set_cons_succ]
                        iterate 4
                          refine wpTree_take (v := ?_) (by rfl) ?_ ?_
                          rotate_left
                          · intro w' hw'
                            clear hw'
                            go_simp
                            try with_reducible rfl
                          simp only [Act.put, List.setIfInBounds_toArray, List.set_cons_zero, List.set_cons_succ]
                        refine wpTree_step fun K hK => ?_
                        go_simp
                        go_at_call 18
                        refine (records_any w.heap.size _ ps _ (HJ7.out.below hB910)).mono ?_
                        rintro e w11 ⟨v11, rfl, hO11, hB11⟩
                        obtain ⟨A11, c11, rfl, hR11⟩ := hO11.rds (by omega) (fun p hp => by have := HOK.out p hp; omega)
                        have hB911 := hB910.trans (hB11.mono hB910.size)
                        refine hK.out _ _ hB911 ?_
                        clear hK K
                        try simp only [Act.put, List.setIfInBounds_toArray, List.set_cons_zero, List.set_cons_succ]
                        refine wpTree_step fun K hK => ?_
                        go_simp
                        go_at_call 13
                        refine (same_any A11 A7 ps ps c11 c7 w11 hR11 (HR7.out.below hB911 (Nat.le_refl _))).mono ?_
                        rintro e w12 ⟨rfl, hB12⟩
                        rw [show decide (ps = ps) = true from decide_eq_true rfl]
                        have hB912 := hB911.trans (hB12.mono hB911.size)
                        refine hK.out _ _ hB912 ?_
                        clear hK K
                        try simp only [Act.put, List.setIfInBounds_toArray, List.set_cons_zero, List.set_cons_succ]
                        iterate 1
                          refine wpTree_take (v := ?_) (by rfl) ?_ ?_
                          rotate_left
                          · intro w' hw'
                            clear hw'
                            go_simp
                            try with_reducible rfl
                          simp only [Act.put, List.setIfInBounds_toArray, List.set_cons_zero, List.set_cons_succ]
                        refine wpTree_done ?_
                        go_wp2_with fail
                        refine NoPanic.normal ?_
                        go_wp2_with fail
                        go_roundw
                        case rel => exact ⟨i + 1, ps, A, c, 0, g2, by omega, by go_num, rfl, rfl, rfl, HJ7.out.below hB912, by omega, HBK7.out.below hB912 hg7, HSL7.out.below hB912, HBW7.out.trans (hB912.mono HBW7.out.size)⟩
                        case measure => simp [intOf]; omega
                      · have h0' : (kd == 0) = false := by rw [beq_eq_false_iff_ne]; exact hk0
                        have h1' : (kd == 1) = false := by rw [beq_eq_false_iff_ne]; exact hk1
                        have h2' : (kd == 2) = false := by rw [beq_eq_false_iff_ne]; exact hk2
                        have h3' : (kd == 3) = false := by rw [beq_eq_false_iff_ne]; exact hk3
                        clear cgr k1 k2 k3
                        obtain ⟨en, hen⟩ : ∃ en, Hid (en = (encs ps).length) := ⟨_, Lib.hid rfl⟩
                        obtain ⟨st, hst⟩ : ∃ st, Hid (st = strN (encs ps)) := ⟨_, Lib.hid rfl⟩
                        have hstt : (st.toList == st.toList) = true := by rw [beq_iff_eq]
                        have hstn : (st.toList != st.toList) = false := by rw [bne_eq_false_iff_eq]
                        have cx : (wr).cell? ⟨gr, 0, none⟩ = some (.slice A (encs ps).length c) := (HBK.out).cell 0
                        have CX := Lib.hid cx
                        rw [← hen.out] at cx
                        have hgx := (HBK.out).lt
                        have HGD := Lib.hid HJ.out.good
                        have hee : ((er : Int) != er) = false := by rw [bne_eq_false_iff_eq]
                        have hok := HJ.out.2.1
                        have HOK := Lib.hid hok.2.2
                        have hszl : (encs ps).length ≤ 16777216 := by rw [encs_len]; exact hok.2.1
                        have hlen := hok.1
                        clear hok
                        go_wp2_with fail
                        have hcall := refrecover_any A (encs ps) c _ HSL.out.1
                        unfold RcvR at hcall
                        rw [← hen.out, rcv_encs HGD.out.2 HGD.out.1] at hcall
                        refine hcall.mono ?_
                        rintro e w7 ⟨v7, rfl, ⟨u7, rfl, hO7⟩, hB7⟩
                        have hO7 : OwnS w7 _ u7 ps := hO7
                        obtain ⟨A7, c7, rfl, hR7⟩ := hO7.rds (by omega) (fun p hp => by have := HOK.out p hp; omega)
                        have HBW7 := Lib.hid (HBW.out.trans (hB7.mono HBW.out.size))
                        have HBK7 := Lib.hid (HBK.out.below hB7 HBK.out.lt)
                        have HSL7 := Lib.hid (HSL.out.below hB7)
                        have HJ7 := Lib.hid (HJ.out.below hB7)
                        have HR7 := Lib.hid hR7
                        have c7x : w7.cell? ⟨gr, 0, none⟩ = some (.slice A (encs ps).length c) := (HBK7.out).cell 0
                        have C7 := Lib.hid c7x
                        have hg7 := (HBK7.out).lt
                        clear hcall hO7 hR7 hB7 cx CX c7x
                        go_wp2_with fail
                        have hBC : Below w7.heap.size w7 w7.drew := (Below.refl _ _).drew
                        refine wp_region_tree (S := fun w' => Below w7.heap.size w7 w') 13 (.take 0 (.take 3 (.take 4 (.take 5 (.step 1 (.step 2 (.take 6 (.take 7 (.take 8 (.take 10 (.step 9 (.step 11 (.take 12 .done))))))))))))) (by kernel_rfl) rfl (by kernel_rfl) hBC ?_
                        generalize w7.drew = wd at hBC ⊢
                        simp only [Ord.map, List.getD_cons_succ, List.getD_cons_zero, List.drop_succ_cons, List.drop_zero]
                        iterate 4
                          refine wpTree_take (v := ?_) (by rfl) ?_ ?_
                          rotate_left
                          · intro w' hw'
                            have k1 := (hw'.cell (p := ⟨gr, 0, none⟩) hg7).trans C7.out
                            have k2 := run_conv (HSL7.out.1.1.below hw' (Nat.le_refl _)) c
                            rw [← hen.out] at k1 k2
                            rw [← hst.out] at k2
                            clear hw'
                            go_simp
                            try with_reducible rfl
                          simp only [Act.put, List.setIfInBounds_toArray, List.set_cons_zero, List.set_cons_succ]
                        refine wpTree_step fun K hK => ?_
                        go_simp
                        go_at_call 16
                        refine (bytes_any w.heap.size _ ps _ (HJ7.out.below hBC)).mono ?_
                        rintro e w10 ⟨v10, rfl, hO10, hB10⟩
                        obtain ⟨A10, c10, rfl, hr10⟩ := hO10.slice (by omega) HSL7.out.1.1.2.1
                        have hB910 := hBC.trans (hB10.mono hBC.size)
                        have k10 := run_conv hr10 c10
                        rw [← hen.out, ← hst.out] at k10
                        rw [← hen.out]
                        refine hK.out _ _ hB910 ?_
                        clear hK K
                        try simp only [Act.put, List.setIfInBounds_toArray, List.set_cons_zero, List.set_cons_succ]
                        refine wpTree_step fun K hK => ?_
                        go_simp
                        refine hK.out _ _ hB910 ?_
                        clear hK K k10
                        try simp only [Act.put, List.setIfInBounds_toArray, List.set_cons_zero, List.set_cons_succ]
                        iterate 4
                          refine wpTree_take (v := ?_) (by rfl) ?_ ?_
                          rotate_left
                          · intro w' hw'
                            clear hw'
                            go_simp
                            try with_reducible rfl
                          simp only [Act.put, List.setIfInBounds_toArray, List.set_cons_zero, List.set_cons_succ]
                        refine wpTree_step fun K hK => ?_
                        go_simp
                        go_at_call 18
                        refine (records_any w.heap.size _ ps _ (HJ7.out.below hB910)).mono ?_
                        rintro e w11 ⟨v11, rfl, hO11, hB11⟩
                        obtain ⟨A11, c11, rfl, hR11⟩ := hO11.rds (by omega) (fun p hp => by have := HOK.out p hp; omega)
                        have hB911 := hB910.trans (hB11.mono hB910.size)
                        refine hK.out _ _ hB911 ?_
                        clear hK K
                        try simp only [Act.put, List.setIfInBounds_toArray, List.set_cons_zero, List.set_cons_succ]
                        refine wpTree_step fun K hK => ?_
                        go_simp
                        go_at_call 13
                        refine (same_any A11 A7 ps ps c11 c7 w11 hR11 (HR7.out.below hB911 (Nat.le_refl _))).mono ?_
                        rintro e w12 ⟨rfl, hB12⟩
                        rw [show decide (ps = ps) = true from decide_eq_true rfl]
                        have hB912 := hB911.trans (hB12.mono hB911.size)
                        refine hK.out _ _ hB912 ?_
                        clear hK K
                        try simp only [Act.put, List.setIfInBounds_toArray, List.set_cons_zero, List.set_cons_succ]
                        iterate 1
                          refine wpTree_take (v := ?_) (by rfl) ?_ ?_
                          rotate_left
                          · intro w' hw'
                            clear hw'
                            go_simp
                            try with_reducible rfl
                          simp only [Act.put, List.setIfInBounds_toArray, List.set_cons_zero, List.set_cons_succ]
                        refine wpTree_done ?_
                        go_wp2_with fail
                        refine NoPanic.normal ?_
                        go_wp2_with fail
                        go_roundw
                        case rel => exact ⟨i + 1, ps, A, c, er, g, by omega, by go_num, rfl, rfl, rfl, HJ7.out.below hB912, by omega, HBK7.out.below hB912 hg7, HSL7.out.below hB912, HBW7.out.trans (hB912.mono HBW7.out.size)⟩
                        case measure => simp [intOf]; omega
              · have hdd : decide ((i : Int) < (L.length : Int)) = false := decide_eq_false (by omega)
                go_wp2_with fail
                refine (alive_any _).mono ?_
                rintro e w9 ⟨rfl, hB9⟩
                go_wp2_with fail
                go_ret
                exact ⟨rfl, HBW.out.trans (hB9.mono hw0)⟩
set_option maxRecDepth 100000 in
theorem lifted (os : Os) (started : os.Started) (H : Type) (enc : TypeId × Value → H) :
    ReturnsInHanded {} Try.checked os 6 .any (Rows.journalPlaysSpec.pre6 enc Try.prog Try.f6 Rows.journalPlaysRow.domain false) (Rows.journalPlaysSpec.post enc Try.prog Try.f6 false true false false) := by
  refine returnsInHanded_of_change (C := Try.checked) own started (by kernel_rfl) Try.func6
    (ChangeSpec.witness6 (enc := enc) (C := Try.checked) false ⟨#[], #[.slice none 0 0, .slice none 0 0], []⟩ 8 (by kernel_rfl) (by kernel_rfl) (by kernel_rfl) (by kernel_rfl)) ?_
  intro W base args ds gs before hval0 hW hcnd _
  have hval : ∀ (j : Nat) t v, Try.f6.params[j]? = some t → args[j]? = some v → Value.okWide Try.prog W .any base t v := hval0
  have hW' := hW
  obtain ⟨p, q, hA0, hV, rfl, hfz, hnd⟩ := hW
  have hA : DataW.TrodAll enc Try.prog W 0 (fun _ => true) true Try.f6.params.toList args.toList ds p := hA0
  rw [Try.params6] at hA hval
  obtain ⟨v0, vs0, d0, ds0, p0, q0, hargs, rfl, rfl, h0, r0⟩ := trodAll_cons hA
  obtain ⟨v1, vs1, d1, ds1, p1, q1, rfl, rfl, rfl, h1, r1⟩ := trodAll_cons r0
  obtain ⟨rfl, rfl, rfl⟩ := trodAll_nil r1
  obtain rfl : args = #[v0, v1] := by cases args; simp_all
  obtain ⟨rfl, rfl⟩ := trodVars_none hV
  have k0 := h0
  have lt0 : ∀ x ∈ p0, x.block < W.heap.size := by obtain ⟨m, hm⟩ := k0; exact DataW.trod_lt m _ _ _ hm
  obtain ⟨A2, l2, c2, hv, b2⟩ := open_argB (hval 0 22 v0 rfl rfl) h0
  clear h0
  subst hv
  have k1 := h1
  have lt1 : ∀ x ∈ p1, x.block < W.heap.size := by obtain ⟨m, hm⟩ := k1; exact DataW.trod_lt m _ _ _ hm
  obtain ⟨A0, L, c0, hv, hT, hTl⟩ := open_argT (hval 1 43 v1 rfl rfl) h1
  clear h1
  subst hv
  clear hA0 hval0
  refine (walk A2 l2 c2 A0 L c0 W b2 hT hTl).mono fun e W' ⟨he, bel⟩ => ?_
  subst he
  exact ⟨_, rfl, _, _, _, [], _, [], hW', trodAll_mk1 (shut_bool Try.underlying4 _), (trodAll_cons_mk (Below.trod laidOut (by kernel_rfl) (of_decide_eq_true (by kernel_rfl)) k0 bel lt0) (trodAll_cons_mk (Below.trod laidOut (by kernel_rfl) (of_decide_eq_true (by kernel_rfl)) k1 bel lt1) trodAll_mk0)), rfl, bel.frame _, fun h => by cases h⟩
theorem over : Rows.journalPlaysRow.holds Try.pinned (OpenSpec.ofChange Rows.journalPlaysSpec) :=
  OpenClaim.holds_of_wide 6 Try.f6 rfl rfl rfl rfl rfl rfl rfl ⟨rfl, rfl, rfl, rfl, rfl⟩ rfl rfl rfl rfl rfl (by kernel_rfl) Try.func6 (by kernel_rfl)
    (of_decide_eq_true (by kernel_rfl)) (by unfold Func.isWrapper; first | (rw [if_pos (by decide +kernel)]; kernel_rfl) | (rw [if_neg (by decide +kernel)]; exact ⟨rfl, rfl⟩))
    (fun os started H enc _ => lifted os started H enc)
end Go.Proofs.Ytfhigppdgfajoaa.journalPlays
namespace Go.Proofs.Ytfhigppdgfajoaa
theorem journalplays_holds : Rows.JournalPlaysSaid := journalPlays.over
end Go.Proofs.Ytfhigppdgfajoaa
#print axioms Go.Proofs.Ytfhigppdgfajoaa.journalplays_holds
