/- The walk of the reference's Recover. -/
import Derived.Test.YtfhigppdgfajoaaRcv
namespace Go.Proofs.Ytfhigppdgfajoaa
open Go.RowKit
set_option maxRecDepth 100000 in
set_option maxHeartbeats 4000000 in
theorem refrecover_any (A : Option Addr) (p : List Nat) (cap : Nat) (w : World) (hr : Sl w A p cap) :
    Calls Try.prog 12 #[.slice A p.length cap] w fun e w' => ∃ v, e = .returned v ∧ RcvR w' w.heap.size v p ∧ Below w.heap.size w w' := by
  have HR := Lib.hid hr.1
  have hpl := hr.1.1
  obtain ⟨_, hc1, hc2, hA⟩ := hr
  have HA := Lib.hid hA
  clear hA
  go_enter Try.func12, Try.ntmps12
  go_wp2_with fail
  go_loopw [4, 5] (fun vo va wr => ∃ (ps : List (List Nat)) (n : Nat), va = .int .i64 (n : Int) ∧ n ≤ p.length ∧ ps.length ≤ 65536 ∧ rcv p = (ps ++ (rcvF (65536 - ps.length) (p.drop n)).1, n + (rcvF (65536 - ps.length) (p.drop n)).2) ∧ OwnS wr w.heap.size vo ps ∧ Below w.heap.size w wr) (fun _ va _ => p.length - (intOf va).toNat)
  case atStart => exact ⟨[], 0, rfl, Nat.zero_le _, Nat.zero_le _, by simp [rcv], OwnS.nil _ _, Below.refl _ _⟩
  case round =>
    obtain ⟨ps, n, rfl, hn, hps, hrec, hO, hB⟩ := hrel
    have HREC := Lib.hid hrec
    have HB := Lib.hid hB
    have HR2 := Lib.hid (HR.out.below hB (Nat.le_refl _))
    have hw0 := hB.size
    obtain ⟨xs, hxl, hV, hX⟩ := hO
    obtain ⟨Ao, co, rfl⟩ := hV.slice
    rw [hxl] at hV ⊢
    have HV := Lib.hid hV
    have HX := Lib.hid hX
    have HXL := Lib.hid hxl
    clear hrec hB hV hX hxl
    by_cases hfull : ps.length < 65536
    · have hd : decide ((ps.length : Int) < 65536) = true := decide_eq_true (by omega)
      have hd' : decide (ps.length < 65536) = true := decide_eq_true hfull
      obtain ⟨f, hf⟩ : ∃ f, Hid (65536 - ps.length = f + 1) := ⟨65536 - ps.length - 1, Lib.hid (by omega)⟩
      rw [hf.out] at HREC
      by_cases h8 : p.length < n + 8
      · have hg : decide ((8 : Int) ≤ (p.length : Int) - (n : Int)) = false := decide_eq_false (by omega)
        have hdn : dec (p.drop n) = none := by unfold dec; rw [if_pos (.inl (by rw [List.length_drop]; omega))]
        have hrec := HREC.out
        rw [rcvF_none hdn, List.append_nil, Nat.add_zero] at hrec
        have HF := Lib.hid (show RcvR wr w.heap.size (.tuple #[.slice Ao ps.length co, .int .i64 (n : Int)]) p from by unfold RcvR; rw [hrec]; exact ⟨_, rfl, ⟨xs, HXL.out, HV.out, HX.out⟩⟩)
        clear hrec hdn
        go_wp2_with fail
        go_ret2
        exact ⟨_, rfl, HF.out, HB.out⟩
      · have hg : decide ((8 : Int) ≤ (p.length : Int) - (n : Int)) = true := decide_eq_true (by omega)
        obtain ⟨bk, off, rfl⟩ : ∃ bk off, A = some ⟨bk, off, none⟩ := by
          rcases HA.out with ⟨_, h, _⟩ | h
          · rw [h] at h8; simp at h8
          · exact h
        have hn0 : (0 : Int) ≤ (n : Int) := by omega
        have hn1 : (n : Int) ≤ (p.length : Int) := by omega
        have hn2 : (p.length : Int) ≤ (cap : Int) := by omega
        have hn3 : (n : Int) ≤ (cap : Int) := by omega
        have hn4 : n ≤ cap := by omega
        have hce : ¬ cap = n := by omega
        go_wp2_with fail
        have hcall := refnumber_any (some ⟨bk, off + n, none⟩) (p.drop n) (cap - n) wr (HR2.out.drop n) (by rw [List.length_drop]; omega)
        rw [List.length_drop] at hcall
        refine hcall.mono ?_
        clear hcall
        rintro e w2 ⟨rfl, hB2⟩
        have HB2 := Lib.hid (HB.out.trans (hB2.mono hw0))
        have HR3 := Lib.hid (HR2.out.below hB2 (Nat.le_refl _))
        have HOS2 : Hid (OwnS w2 w.heap.size (.slice Ao ps.length co) ps) := Lib.hid (OwnS.below ⟨xs, HXL.out, HV.out, HX.out⟩ hB2)
        have hw2 : w.heap.size ≤ w2.heap.size := HB2.out.size
        clear hB2
        have hxl := num_lt (p := p.drop n) (fun c hc => HR.out.2.1 c (List.mem_of_mem_drop hc))
        obtain ⟨x, hx⟩ : ∃ x, Hid (x = num (p.drop n)) := ⟨_, Lib.hid rfl⟩
        rw [← hx.out] at hxl ⊢
        by_cases hbig : 4194304 < x
        · have ht : decide (4194304 < (x : Int)) = true := decide_eq_true (by omega)
          have ht' : decide (4194304 < x) = true := decide_eq_true hbig
          have hdn : dec (p.drop n) = none := by unfold dec; rw [if_pos (.inr (by rw [← hx.out]; exact hbig))]
          have hrec := HREC.out
          rw [rcvF_none hdn, List.append_nil, Nat.add_zero] at hrec
          have HF := Lib.hid (show RcvR w2 w.heap.size (.tuple #[.slice Ao ps.length co, .int .i64 (n : Int)]) p from by unfold RcvR; rw [hrec]; exact ⟨_, rfl, HOS2.out⟩)
          clear hrec hdn
          go_wp2_with fail
          go_ret2
          exact ⟨_, rfl, HF.out, HB2.out⟩
        · have ht : decide (4194304 < (x : Int)) = false := decide_eq_false (by omega)
          have ht' : decide (4194304 < x) = false := decide_eq_false hbig
          by_cases hlong : p.length < n + (x + 8)
          · have hs : decide ((p.length : Int) - (n : Int) - 8 < (x : Int)) = true := decide_eq_true (by omega)
            have hdn : dec (p.drop n) = none := by unfold dec; rw [← hx.out, if_neg (by rw [List.length_drop]; omega), if_pos (.inl (by rw [List.length_drop]; omega))]
            have hrec := HREC.out
            rw [rcvF_none hdn, List.append_nil, Nat.add_zero] at hrec
            have HF := Lib.hid (show RcvR w2 w.heap.size (.tuple #[.slice Ao ps.length co, .int .i64 (n : Int)]) p from by unfold RcvR; rw [hrec]; exact ⟨_, rfl, HOS2.out⟩)
            clear hrec hdn
            go_wp2_with fail
            go_ret2
            exact ⟨_, rfl, HF.out, HB2.out⟩
          · have hs : decide ((p.length : Int) - (n : Int) - 8 < (x : Int)) = false := decide_eq_false (by omega)
            obtain ⟨n4, h4⟩ : ∃ n4 : Nat, n + 4 = n4 := ⟨n + 4, rfl⟩
            obtain ⟨m, h5⟩ : ∃ m : Nat, n4 + x = m := ⟨n4 + x, rfl⟩
            have hw1 : IntKind.i64.wrap ((n : Int) + 4) = (n4 : Int) := by rw [IntKind.wrap_i64]; omega
            have hw2' : IntKind.i64.wrap ((n4 : Int) + (x : Int)) = (m : Int) := by rw [IntKind.wrap_i64]; omega
            have hm0 : (0 : Int) ≤ (m : Int) := by omega
            have hm1 : (m : Int) ≤ (p.length : Int) := by omega
            have hm2 : (m : Int) ≤ (cap : Int) := by omega
            have hm3 : m ≤ p.length := by omega
            have hm4 : m ≤ cap := by omega
            have hm5 : (n : Int) ≤ (m : Int) := by omega
            have hm6 : n ≤ m := by omega
            have hm7 : ¬ cap = m := by omega
            have hq0 : (n4 : Int) ≤ (m : Int) := by omega
            have hq1 : (0 : Int) ≤ (n4 : Int) := by omega
            have hq2 : (n4 : Int) ≤ (p.length : Int) := by omega
            have hq3 : (n4 : Int) ≤ (cap : Int) := by omega
            have hq4 : n4 ≤ m := by omega
            have hq5 : n4 ≤ cap := by omega
            have hq6 : ¬ cap = n4 := by omega
            have hnm : Hid (m = n + (4 + x)) := Lib.hid (by omega)
            have H4 := Lib.hid h4
            have H5 := Lib.hid h5
            clear h4 h5
            have hy := num_lt (p := p.drop m) (fun c hc => HR.out.2.1 c (List.mem_of_mem_drop hc))
            obtain ⟨y, hye⟩ : ∃ y, Hid (y = num (p.drop m)) := ⟨_, Lib.hid rfl⟩
            rw [← hye.out] at hy
            obtain ⟨c, hce'⟩ : ∃ c, Hid (c = CrcM.crc ((p.drop n).take (m - n))) := ⟨_, Lib.hid rfl⟩
            have hwy : IntKind.u32.wrap (y : Int) = (y : Int) := by rw [IntKind.wrap_u32]; omega
            have HTL := Lib.hid (show ((p.drop n).take (m - n)).length = m - n by rw [List.length_take, List.length_drop]; omega)
            have HD1 := Lib.hid (show (p.drop n).take (4 + x) = (p.drop n).take (m - n) by rw [show m - n = 4 + x by have := hnm.out; omega])
            have HD2 := Lib.hid (show (p.drop n).drop (4 + x) = p.drop m by rw [List.drop_drop, hnm.out])
            by_cases hcy : c = y
            · subst hcy
              have hne : ((c : Int) != (c : Int)) = false := by rw [bne_eq_false_iff_eq]
              have HE := Lib.hid (show dec (p.drop n) = some (((p.drop n).take (m - n)).drop 4) from by
                unfold dec
                rw [← hx.out, if_neg (by rw [List.length_drop]; omega), if_neg (by rw [HD1.out, HD2.out, ← hce'.out, ← hye.out, List.length_drop]; omega), HD1.out])
              go_wp2_with fail
              have hBC : Below w2.heap.size w2 w2.drew := (Below.refl _ _).drew
              refine wp_region_seq (S := fun w' => Below w2.heap.size w2 w') 16 [(0, true), (1, true), (2, true), (3, true), (4, true), (5, true), (8, true), (9, true), (10, true), (11, true), (12, true), (13, true), (14, true), (6, false), (7, true), (15, false)] (by kernel_rfl) rfl (by kernel_rfl) hBC ?_
              generalize w2.drew = wd at hBC ⊢
              simp only [List.map_cons, List.map_nil, List.getD_cons_succ, List.getD_cons_zero, List.drop_succ_cons, List.drop_zero]
              iterate 13
                refine wpSeq_take (v := ?_) (by rfl) ?_ ?_
                rotate_left
                · intro w' hw'
                  clear hw'
                  go_simp
                  try with_reducible rfl
                simp only [Act.put, List.setIfInBounds_toArray, List.set_cons_zero, List.set_cons_succ]
              refine wpSeq_step fun K hK => ?_
              go_simp
              go_at_call 30
              have hcall := refnumber_any (some ⟨bk, off + m, none⟩) (p.drop m) (cap - m) wd ((HR3.out.below hBC (Nat.le_refl _)).drop m) (by rw [List.length_drop]; have := hnm.out; omega)
              rw [List.length_drop] at hcall
              refine hcall.mono ?_
              rintro e w5 ⟨rfl, hB5⟩
              rw [← hye.out]
              have hB35 := hBC.trans (hB5.mono hBC.size)
              refine hK.out _ _ hB35 ?_
              clear hK K hcall
              try simp only [Act.put, List.setIfInBounds_toArray, List.set_cons_zero, List.set_cons_succ]
              iterate 1
                refine wpSeq_take (v := ?_) (by rfl) ?_ ?_
                rotate_left
                · intro w' hw'
                  clear hw'
                  go_simp
                  try with_reducible rfl
                simp only [Act.put, List.setIfInBounds_toArray, List.set_cons_zero, List.set_cons_succ]
              refine wpSeq_step fun K hK => ?_
              go_simp
              go_at_call 28
              have hcall := refcrc_any (some ⟨bk, off + n, none⟩) ((p.drop n).take (m - n)) (cap - n) w5 (((HR3.out.below hB35 (Nat.le_refl _)).drop n).take (m - n))
              rw [HTL.out] at hcall
              refine hcall.mono ?_
              rintro e w6 ⟨rfl, rfl⟩
              rw [← hce'.out]
              refine hK.out _ _ hB35 ?_
              clear hK K hcall
              try simp only [Act.put, List.setIfInBounds_toArray, List.set_cons_zero, List.set_cons_succ]
              refine wpSeq_nil ?_
              go_wp2_with fail
              refine NoPanic.normal ?_
              have HB6 := Lib.hid (HB2.out.trans (hB35.mono hw2))
              have HR6 := Lib.hid (HR3.out.below hB35 (Nat.le_refl _))
              have HOS6 := Lib.hid (HOS2.out.below hB35)
              have hw6 : w.heap.size ≤ w5.heap.size := HB6.out.size
              clear hB35 hB5 hBC
              obtain ⟨q, hq⟩ : ∃ q, Hid (q = ((p.drop n).take (m - n)).drop 4) := ⟨_, Lib.hid rfl⟩
              rw [← hq.out] at HE
              have hql : Hid (q.length = m - n4) := Lib.hid (by rw [hq.out, List.length_drop, HTL.out]; have := H4.out; omega)
              have hqx : Hid (q.length = x) := Lib.hid (by rw [hql.out]; have := H4.out; have := H5.out; omega)
              have HQ4 : Hid (Rd w5 (some ⟨bk, off + n4, none⟩) q) := Lib.hid (by
                have h := ((HR6.out.drop n).take (m - n)).drop 4
                rw [← hq.out, show off + n + 4 = off + n4 by have := H4.out; omega] at h
                exact h)
              have hqb := HQ4.out.2.1
              obtain ⟨ys, hyl, hYV, hYX⟩ := HOS6.out
              have HYL := Lib.hid hyl
              have HYV := Lib.hid hYV
              have HYX := Lib.hid hYX
              clear hyl hYV hYX
              go_wp2_with (first
                | (at_builtin; refine wpList_app rfl _ _ 22 rfl w.heap.size 5 (.int .u8 0) 1 1 Try.underlying22 info5 rfl (by decide) (by decide) (.slice none 0 0) 0 [] rfl (World.ownsRow_nil w5 w.heap.size 5 1) (some ⟨bk, off + n4, none⟩) (m - n4) (cap - n4) (cellsB q) rfl (by rw [← hql.out]; exact HQ4.out.src) (cellsB_one q) (by omega) hw6 ?_; intro v7 w7 hO7 hg7 _; rw [Nat.zero_add, List.nil_append] at hO7; have hO7 : OwnB w7 w.heap.size 5 v7 q := (by unfold OwnB; rw [hql.out]; exact hO7); have hB7 := HB6.out.grown hg7 hw6 (fun z hz => by simp [Value.ownBlock] at hz); have hw7 : w.heap.size ≤ w7.heap.size := hB7.size; have hB67 : Below w5.heap.size w5 w7 := ⟨hg7.os, hg7.tape, hg7.output, hg7.size, fun z hz => hg7.block z hz (by simp [Value.ownBlock])⟩; have hYV7 := OwnV.below HYV.out hB67; have hYX7 : ∀ (j : Nat) (u : Value) (p : List Nat), ys[j]? = some u → ps[j]? = some p → OwnB w7 w.heap.size 5 u p ∧ ∀ c ∈ p, c < 256 := (fun j u p h1 h2 => ⟨(HYX.out j u p h1 h2).1.below hB67, (HYX.out j u p h1 h2).2⟩); obtain ⟨Aq, cq, rfl, _⟩ := hO7.slice (by rw [hqx.out]; omega) hqb)
                | (at_builtin; refine wpList_app1V rfl _ _ 27 rfl w.heap.size 22 (.slice none 0 0) 24 Try.underlying27 info22 rfl (by decide) _ ys rfl hYV7 _ (.slice Aq q.length cq) rfl rfl rfl (by rw [HYL.out]; omega) hw7 ?_; intro v8 w8 hO8 hg8))
              have hOS8 := OwnS.app HYL.out hYV7 hYX7 hO7 hqb hO8 hg8
              have hBw8 := hB7.grown hg8 hw7 (fun z hz => OwnV.base_ hYV7 z hz)
              go_roundw
              case rel =>
                refine ⟨ps ++ [q], n + (x + 8), by go_num, by omega, by rw [List.length_append]; simp; omega, ?_, hOS8, hBw8⟩
                have hrec := HREC.out
                rw [rcvF_some HE.out, List.drop_drop, hqx.out] at hrec
                rw [List.length_append, List.length_singleton, show 65536 - (ps.length + 1) = f by have := hf.out; omega, hrec, List.append_assoc]
                exact Prod.ext rfl (by simp only []; omega)
              case measure => simp [intOf]; omega
            · have hne : ((y : Int) != (c : Int)) = true := by rw [bne_iff_ne]; omega
              have hdn : dec (p.drop n) = none := by
                unfold dec
                rw [← hx.out, if_neg (by rw [List.length_drop]; omega), if_pos (.inr (by rw [HD1.out, HD2.out, ← hce'.out, ← hye.out]; exact hcy))]
              go_wp2_with fail
              have hBC : Below w2.heap.size w2 w2.drew := (Below.refl _ _).drew
              refine wp_region_seq (S := fun w' => Below w2.heap.size w2 w') 16 [(0, true), (1, true), (2, true), (3, true), (4, true), (5, true), (8, true), (9, true), (10, true), (11, true), (12, true), (13, true), (14, true), (6, false), (7, true), (15, false)] (by kernel_rfl) rfl (by kernel_rfl) hBC ?_
              generalize w2.drew = wd at hBC ⊢
              simp only [List.map_cons, List.map_nil, List.getD_cons_succ, List.getD_cons_zero, List.drop_succ_cons, List.drop_zero]
              iterate 13
                refine wpSeq_take (v := ?_) (by rfl) ?_ ?_
                rotate_left
                · intro w' hw'
                  clear hw'
                  go_simp
                  try with_reducible rfl
                simp only [Act.put, List.setIfInBounds_toArray, List.set_cons_zero, List.set_cons_succ]
              refine wpSeq_step fun K hK => ?_
              go_simp
              go_at_call 30
              have hcall := refnumber_any (some ⟨bk, off + m, none⟩) (p.drop m) (cap - m) wd ((HR3.out.below hBC (Nat.le_refl _)).drop m) (by rw [List.length_drop]; have := hnm.out; omega)
              rw [List.length_drop] at hcall
              refine hcall.mono ?_
              rintro e w5 ⟨rfl, hB5⟩
              rw [← hye.out]
              have hB35 := hBC.trans (hB5.mono hBC.size)
              refine hK.out _ _ hB35 ?_
              clear hK K hcall
              try simp only [Act.put, List.setIfInBounds_toArray, List.set_cons_zero, List.set_cons_succ]
              iterate 1
                refine wpSeq_take (v := ?_) (by rfl) ?_ ?_
                rotate_left
                · intro w' hw'
                  clear hw'
                  go_simp
                  try with_reducible rfl
                simp only [Act.put, List.setIfInBounds_toArray, List.set_cons_zero, List.set_cons_succ]
              refine wpSeq_step fun K hK => ?_
              go_simp
              go_at_call 28
              have hcall := refcrc_any (some ⟨bk, off + n, none⟩) ((p.drop n).take (m - n)) (cap - n) w5 (((HR3.out.below hB35 (Nat.le_refl _)).drop n).take (m - n))
              rw [HTL.out] at hcall
              refine hcall.mono ?_
              rintro e w6 ⟨rfl, rfl⟩
              rw [← hce'.out]
              refine hK.out _ _ hB35 ?_
              clear hK K hcall
              try simp only [Act.put, List.setIfInBounds_toArray, List.set_cons_zero, List.set_cons_succ]
              refine wpSeq_nil ?_
              go_wp2_with fail
              refine NoPanic.normal ?_
              have HB6 := Lib.hid (HB2.out.trans (hB35.mono hw2))
              have HR6 := Lib.hid (HR3.out.below hB35 (Nat.le_refl _))
              have HOS6 := Lib.hid (HOS2.out.below hB35)
              have hw6 : w.heap.size ≤ w5.heap.size := HB6.out.size
              clear hB35 hB5 hBC
              have hrec := HREC.out
              rw [rcvF_none hdn, List.append_nil, Nat.add_zero] at hrec
              have HF := Lib.hid (show RcvR w5 w.heap.size (.tuple #[.slice Ao ps.length co, .int .i64 (n : Int)]) p from by unfold RcvR; rw [hrec]; exact ⟨_, rfl, HOS6.out⟩)
              clear hrec hdn
              go_wp2_with fail
              go_ret2
              exact ⟨_, rfl, HF.out, HB6.out⟩
    · have hd : decide ((ps.length : Int) < 65536) = false := decide_eq_false (by omega)
      have hd' : decide (ps.length < 65536) = false := decide_eq_false hfull
      have hf : 65536 - ps.length = 0 := by omega
      have hrec := HREC.out
      rw [hf, show rcvF 0 (p.drop n) = ([], 0) from rfl, List.append_nil, Nat.add_zero] at hrec
      have HF := Lib.hid (show RcvR wr w.heap.size (.tuple #[.slice Ao ps.length co, .int .i64 (n : Int)]) p from by unfold RcvR; rw [hrec]; exact ⟨_, rfl, ⟨xs, HXL.out, HV.out, HX.out⟩⟩)
      clear hrec
      go_wp2_with fail
      go_ret2
      exact ⟨_, rfl, HF.out, HB.out⟩
end Go.Proofs.Ytfhigppdgfajoaa
