/- The walk of the reference's Compact. -/
import Derived.Test.YtfhigppdgfajoaaCpt
import Derived.Test.YtfhigppdgfajoaaTre
namespace Go.Proofs.Ytfhigppdgfajoaa
open Go.RowKit Go.MuLone Go.Deep
theorem wp_new {P : Program} {o : Oper} {a : Act} {K : Act → World → Prop} {Q : Exit → Act → World → Prop} {w : World} (e : TypeId) (ho : o.op = .alloc e) (z : Value) (hz : (P.info? e).bind (·.zero) = some z)
    (h : ∀ w1, Blk w1 w.heap.size e z.cells → Below w.heap.size w w1 → w1.heap.size = w.heap.size + 1 → K (a.put o.dst (.pointer (some ⟨w.heap.size, 0, none⟩))) w1) : Oper.wp P o a w K Q := by
  unfold Oper.wp execOp
  have hr : (Instr.alloc e true (.tuple #[])).run P w = .ok (.pointer (some ⟨w.heap.size, 0, none⟩)) (w.alloc (.cells z.cells e)) := by
    cases hq : P.info? e with
    | none => simp [hq] at hz
    | some i =>
      have hz' : i.zero = some z := by simpa [hq] using hz
      simp [Instr.alloc, zeroValue, typeInfo, hq, hz', newVar, newRow]
  simp only [ho, Sem.run_bind, hr, Result.andThen_ok, Sem.run_pure]
  exact h _ (Blk.new w e z.cells) ((Below.refl _ _).alloc (Nat.le_refl _) _) (by simp)
theorem good_of {qs : List (List Nat)} (hq : sz qs ≤ 3000) (hb : ∀ p ∈ qs, ∀ c ∈ p, c < 256) (i : Nat) : ∀ p ∈ qs.take i, Good p := fun p hp => ⟨by have := sz_mem (List.mem_of_mem_take hp); omega, hb p (List.mem_of_mem_take hp)⟩
set_option maxRecDepth 100000 in
set_option maxHeartbeats 4000000 in
theorem refcompact_any (v0 : Value) (A : Option Addr) (qs : List (List Nat)) (cap : Nat) (w : World) (hr : RdS w A qs) (hq : sz qs ≤ 3000) :
    Calls Try.prog 25 #[.agg #[v0], .slice A qs.length cap] w fun e w' => ∃ v, e = .returned (.tuple #[.agg #[v], .int .i64 0]) ∧ OwnB w' w.heap.size 5 v (encs qs) ∧ Below w.heap.size w w' := by
  have HBY := Lib.hid hr.bytes
  have hql := sz_len qs
  have hql2 : qs.length ≤ 375 := by omega
  have HR := Lib.hid hr
  have HQ := Lib.hid hq
  clear hr hql hq
  go_enter Try.func25, Try.ntmps25
  go_wp2_with (first | (refine wpList_box rfl 47 _ rfl _ rfl ?_; intro w1 hn1 hB1 hz1; have HN1 := Lib.hid hn1; clear hn1 hz1) | (refine wpList_new rfl 47 rfl _ info47 ?_; intro w2 hn2 hB2 hz2; have HN2 := Lib.hid hn2; clear hn2 hz2))
  have HB2 := Lib.hid (hB1.trans (hB2.mono hB1.size))
  have hs1 := hB1.size
  clear hB1 hB2 HN1
  go_loopw [6] (fun vi wr => ∃ i : Nat, vi = .int .i64 (i : Int) ∧ i ≤ qs.length ∧ wr = w2) (fun vi _ => qs.length - (intOf vi).toNat)
  case atStart => exact ⟨0, rfl, Nat.zero_le _, rfl⟩
  case round =>
    obtain ⟨i, rfl, hi, rfl⟩ := hrel
    have R1 := HR.out.below HB2.out (Nat.le_refl _)
    by_cases hd : i < qs.length
    · have hdd : decide ((i : Int) < (qs.length : Int)) = true := decide_eq_true (by omega)
      have hi0 : (0 : Int) ≤ (i : Int) := by omega
      have hi1 : (i : Int) < (qs.length : Int) := by omega
      have hwi : IntKind.i64.wrap ((i : Int) + 1) = ((i + 1 : Nat) : Int) := by rw [IntKind.wrap_i64]; omega
      obtain ⟨bk, of_, Aj, cj, rfl, hbk, hcj, hSj⟩ := R1.at_ hd
      obtain ⟨p, hp⟩ : ∃ p, Hid (p = qs.getD i []) := ⟨_, Lib.hid rfl⟩
      rw [← hp.out] at hcj
      have hpm : p ∈ qs := by rw [hp.out, List.getD_eq_getElem?_getD, List.getElem?_eq_getElem hd]; exact List.getElem_mem hd
      have hp4 : p.length ≤ 3000 := by have := sz_mem hpm; have := HQ.out; omega
      have e1 : decide (4194304 < (p.length : Int)) = false := decide_eq_false (by omega)
      have e2 : decide (4194304 < p.length) = false := decide_eq_false (by omega)
      clear hSj R1
      go_wp2_with fail
      go_roundw
      case rel => exact ⟨i + 1, by go_num, by omega, by first | rfl | trivial⟩
      case measure => simp [intOf]; omega
    · have hdd : decide ((i : Int) < (qs.length : Int)) = false := decide_eq_false (by omega)
      obtain rfl : i = qs.length := by omega
      obtain ⟨w3, hw3⟩ : ∃ w3, w3 = wr := ⟨_, rfl⟩
      subst hw3
      clear R1
      have hw2s := HB2.out.size
      go_wp2_with (first | (refine wpList_new rfl 47 rfl _ info47 ?_; intro w4 hn4 hB4 hz4; have hf4 := hn4.frozen 0; have c4 : w4.cell? ⟨w3.heap.size, 0, none⟩ = some (.slice none 0 0) := hn4.cell 0; have hn4' : Blk (w4.setCell ⟨w3.heap.size, 0, none⟩ (.slice none 0 0)) w3.heap.size 47 #[.slice none 0 0] := hn4.set_ 0 _; have HN4 := Lib.hid hn4'; clear hn4 hn4' hz4))
      have hB4' : Below w3.heap.size w3 (w4.setCell ⟨w3.heap.size, 0, none⟩ (.slice none 0 0)) := hB4.setCell (Nat.le_refl _) _
      have HB4 := Lib.hid hB4'
      have hlt2 := HN2.out.lt
      clear hB4 hB4' hf4 c4
      go_loopw [8] (fun vi wr => ∃ (i : Nat) (v : Value), vi = .int .i64 (i : Int) ∧ i ≤ qs.length ∧ Blk wr w3.heap.size 47 #[v] ∧ OwnB wr w.heap.size 5 v (encs (qs.take i)) ∧ Below w3.heap.size w3 wr) (fun vi _ => qs.length - (intOf vi).toNat)
      case atStart => exact ⟨0, _, rfl, Nat.zero_le _, HN4.out, OwnB.nil _ _ _, HB4.out⟩
      case round =>
        obtain ⟨i, v, rfl, hi, hb7, hO, hB⟩ := hrel
        have HB := Lib.hid hB
        have hw0 := hB.size
        have hzt := sz_take qs i
        have hel : (encs (qs.take i)).length = sz (qs.take i) := encs_len _
        have hq' := HQ.out
        have hbe := encs_bytes (fun p hp => HBY.out p (List.mem_of_mem_take hp)) (ps := qs.take i)
        obtain ⟨Av, cv, rfl, hSl⟩ := hO.sl (by omega) hbe
        have HSL := Lib.hid hSl
        have HO := Lib.hid hO
        have HB7 := Lib.hid hb7
        have R1 := Lib.hid (HR.out.below (HB2.out.trans (hB.mono hw2s)) (Nat.le_refl _))
        obtain ⟨ln, hln⟩ : ∃ ln, Hid (ln = (encs (qs.take i)).length) := ⟨_, Lib.hid rfl⟩
        have hn2 := HN2.out.below hB hlt2
        have f2 := hn2.frozen 0
        have c2 : wr.cell? ⟨w1.heap.size, 0, none⟩ = some (.slice none 0 0) := hn2.cell 0
        have f7 := hb7.frozen 0
        have c7 : wr.cell? ⟨w3.heap.size, 0, none⟩ = some (.slice Av (encs (qs.take i)).length cv) := hb7.cell 0
        rw [← hln.out] at c7
        have HZT := Lib.hid hzt
        have HEL := Lib.hid hel
        have HM2 := Lib.hid hn2
        clear hn2 hB hSl hO hb7 hzt hel hbe hq'
        by_cases hd : i < qs.length
        · have hdd : decide ((i : Int) < (qs.length : Int)) = true := decide_eq_true (by omega)
          have hi0 : (0 : Int) ≤ (i : Int) := by omega
          have hi1 : (i : Int) < (qs.length : Int) := by omega
          have hwi : IntKind.i64.wrap ((i : Int) + 1) = ((i + 1 : Nat) : Int) := by rw [IntKind.wrap_i64]; omega
          obtain ⟨bk, of_, Aj, cj, rfl, hbk, hcj, hSj⟩ := R1.out.at_ hd
          obtain ⟨p, hp⟩ : ∃ p, Hid (p = qs.getD i []) := ⟨_, Lib.hid rfl⟩
          rw [← hp.out] at hcj hSj
          have hpm : p ∈ qs := by rw [hp.out, List.getD_eq_getElem?_getD, List.getElem?_eq_getElem hd]; exact List.getElem_mem hd
          have hp4 : p.length ≤ 3000 := by have := sz_mem hpm; have := HQ.out; omega
          have T1 : Hid (encs (qs.take (i + 1)) = encs (qs.take i) ++ enc p) := Lib.hid (by rw [List.take_add_one, hp.out, List.getD_eq_getElem?_getD, List.getElem?_eq_getElem hd]; exact encs_app _ _)
          have HSJ := Lib.hid hSj
          have HCJ := Lib.hid hcj
          have HRL : Hid ((rcv (encs (qs.take i))).1.length < 65536) := Lib.hid (by rw [rcv_encs (by rw [List.length_take]; omega) (good_of HQ.out HBY.out i)]; show (qs.take i).length < 65536; rw [List.length_take]; omega)
          have HRB : Hid ((encs (qs.take i)).length + p.length + 8 ≤ 16777216) := Lib.hid (by rw [HEL.out]; have := HZT.out; have := HQ.out; omega)
          have HRQ : Hid (p.length ≤ 4194304) := Lib.hid (by omega)
          have C7 := Lib.hid c7
          have h7lt := HB7.out.lt
          have hwr : w.heap.size ≤ wr.heap.size := Nat.le_trans HB2.out.size hw0
          clear hSj hcj c2 f2 c7 f7
          go_wp2_with fail
          have hBC : Below wr.heap.size wr wr.drew := (Below.refl _ _).drew
          refine wp_region_tree (S := fun w' => Below wr.heap.size wr w') 11 (.take 0 (.take 1 (.take 2 (.take 3 (.take 4 (.two 5 9 (.take 6 (.take 7 (.take 8 (.step 9 (.step 10 .done))))) (.step 5 (.take 6 (.take 7 (.take 8 (.step 10 .done))))))))))) (by kernel_rfl) rfl (by kernel_rfl) hBC ?_
          generalize wr.drew = wd at hBC ⊢
          simp only [Ord.map, List.getD_cons_succ, List.getD_cons_zero, List.drop_succ_cons, List.drop_zero]
          iterate 5
            refine wpTree_take (v := ?_) (by rfl) ?_ ?_
            rotate_left
            · intro w' hw'
              have k1 := (hw'.cell (p := ⟨bk, of_ + i, none⟩) hbk).trans HCJ.out
              have k2 := (hw'.cell (p := ⟨w3.heap.size, 0, none⟩) h7lt).trans C7.out
              clear hw'
              go_simp
              try with_reducible rfl
            simp only [Act.put, List.setIfInBounds_toArray, List.set_cons_zero, List.set_cons_succ]
          rw [hln.out]
          refine wpTree_two ?_ ?_
          · refine wpTree_step fun K hK => ?_
            go_simp
            go_at_call 22
            refine (refappend_at Av (encs (qs.take i)) cv Aj p cj _ (HSL.out.below hBC) (HSJ.out.1.below hBC (Nat.le_refl _)) HRL.out HRB.out HRQ.out).mono ?_
            rintro e w5 ⟨v5, rfl, hO5, hB5⟩
            have hB45 := hBC.trans (hB5.mono hBC.size)
            obtain ⟨A5, k5, c5, rfl⟩ := ownsRow_form hO5
            refine hK.out _ _ hB45 ?_
            clear hK K
            try simp only [Act.put, List.setIfInBounds_toArray, List.set_cons_zero, List.set_cons_succ]
            iterate 3
              refine wpTree_take (v := ?_) (by rfl) ?_ ?_
              rotate_left
              · intro w' hw'
                clear hw'
                go_simp
                try with_reducible rfl
              simp only [Act.put, List.setIfInBounds_toArray, List.set_cons_zero, List.set_cons_succ]
            refine wpTree_step fun K hK => ?_
            rw [if_pos (by rfl)]
            refine wp_new 47 rfl _ info47 ?_
            intro w6 hn6 hB6 _
            refine hK.out _ _ (hB45.trans (hB6.mono hB45.size)) ?_
            clear hK K
            try simp only [Act.put, List.setIfInBounds_toArray, List.set_cons_zero, List.set_cons_succ]
            have hB46 := hB45.trans (hB6.mono hB45.size)
            have hO6 := hO5.below hB6
            have hg9 : wr.heap.size ≤ w5.heap.size := hB45.size
            have hO6 := World.ownsRow.mono hO6 (Nat.le_trans hwr hBC.size)
            obtain ⟨g9, hg9e⟩ : ∃ g9, Hid (g9 = w5.heap.size) := ⟨_, Lib.hid rfl⟩
            rw [← hg9e.out] at hn6 hg9 ⊢
            have hg9lt := hn6.lt
            have f9 := hn6.frozen 0
            have c9 : w6.cell? ⟨g9, 0, none⟩ = some (.slice none 0 0) := hn6.cell 0
            refine wpTree_step fun K hK => ?_
            go_simp
            refine hK.out _ _ (hB46.setCell hg9 _) ?_
            clear hK K
            try simp only [Act.put, List.setIfInBounds_toArray, List.set_cons_zero, List.set_cons_succ]
            refine wpTree_done ?_
            have hB9 := hB46.setCell (p := ⟨g9, 0, none⟩) hg9 (.slice A5 k5 c5)
            have hn9 : Blk (w6.setCell ⟨g9, 0, none⟩ (.slice A5 k5 c5)) g9 47 #[.slice A5 k5 c5] := hn6.set_ 0 _
            have hO9 : OwnB (w6.setCell ⟨g9, 0, none⟩ (.slice A5 k5 c5)) w.heap.size 5 (.slice A5 k5 c5) (encs (qs.take i) ++ enc p) := World.ownsRow.kept hO6 (grown_set _ _ 0 _) (ownsRow_ne_blk hO6 hn6 (by decide))
            generalize w6.setCell ⟨g9, 0, none⟩ (.slice A5 k5 c5) = wf at hB9 hn9 hO9 ⊢
            have c9' : wf.cell? ⟨g9, 0, none⟩ = some (.slice A5 k5 c5) := hn9.cell 0
            have hb7 := HB7.out.below hB9 h7lt
            have f7 := hb7.frozen 0
            have c7 : wf.cell? ⟨w3.heap.size, 0, none⟩ = some (.slice Av (encs (qs.take i)).length cv) := hb7.cell 0
            rw [← hln.out] at c7
            clear f9 c9
            go_wp2_with fail
            refine NoPanic.normal ?_
            go_wp2_with fail
            go_roundw
            case rel =>
              refine ⟨i + 1, .slice A5 k5 c5, by go_num, by omega, hb7.set_ 0 _, ?_, (HB.out.trans (hB9.mono hw0)).setCell (Nat.le_refl _) _⟩
              rw [T1.out]
              exact World.ownsRow.kept hO9 (grown_set _ _ 0 _) (ownsRow_ne_blk hO9 hb7 (by decide))
            case measure => simp [intOf]; omega
          · refine wpTree_step fun K hK => ?_
            rw [if_pos (by rfl)]
            refine wp_new 47 rfl _ info47 ?_
            intro w6 hn6 hB6 _
            refine hK.out _ _ (hBC.trans (hB6.mono hBC.size)) ?_
            clear hK K
            try simp only [Act.put, List.setIfInBounds_toArray, List.set_cons_zero, List.set_cons_succ]
            have hB36 := hBC.trans (hB6.mono hBC.size)
            refine wpTree_step fun K hK => ?_
            go_simp
            go_at_call 22
            refine (refappend_at Av (encs (qs.take i)) cv Aj p cj _ (HSL.out.below hB36) (HSJ.out.1.below hB36 (Nat.le_refl _)) HRL.out HRB.out HRQ.out).mono ?_
            rintro e w5 ⟨v5, rfl, hO5, hB5⟩
            have hB45 := hB36.trans (hB5.mono hB36.size)
            obtain ⟨A5, k5, c5, rfl⟩ := ownsRow_form hO5
            refine hK.out _ _ hB45 ?_
            clear hK K
            try simp only [Act.put, List.setIfInBounds_toArray, List.set_cons_zero, List.set_cons_succ]
            iterate 3
              refine wpTree_take (v := ?_) (by rfl) ?_ ?_
              rotate_left
              · intro w' hw'
                clear hw'
                go_simp
                try with_reducible rfl
              simp only [Act.put, List.setIfInBounds_toArray, List.set_cons_zero, List.set_cons_succ]
            have hB46 := hB45
            have hn6 := hn6.below hB5 hn6.lt
            have hO6 := World.ownsRow.mono hO5 (Nat.le_trans hwr hB36.size)
            have hg9 : wr.heap.size ≤ wd.heap.size := hBC.size
            obtain ⟨g9, hg9e⟩ : ∃ g9, Hid (g9 = wd.heap.size) := ⟨_, Lib.hid rfl⟩
            rw [← hg9e.out] at hn6 hg9 ⊢
            have hg9lt := hn6.lt
            have f9 := hn6.frozen 0
            have c9 : w5.cell? ⟨g9, 0, none⟩ = some (.slice none 0 0) := hn6.cell 0
            refine wpTree_step fun K hK => ?_
            go_simp
            refine hK.out _ _ (hB46.setCell hg9 _) ?_
            clear hK K
            try simp only [Act.put, List.setIfInBounds_toArray, List.set_cons_zero, List.set_cons_succ]
            refine wpTree_done ?_
            have hB9 := hB46.setCell (p := ⟨g9, 0, none⟩) hg9 (.slice A5 k5 c5)
            have hn9 : Blk (w5.setCell ⟨g9, 0, none⟩ (.slice A5 k5 c5)) g9 47 #[.slice A5 k5 c5] := hn6.set_ 0 _
            have hO9 : OwnB (w5.setCell ⟨g9, 0, none⟩ (.slice A5 k5 c5)) w.heap.size 5 (.slice A5 k5 c5) (encs (qs.take i) ++ enc p) := World.ownsRow.kept hO6 (grown_set _ _ 0 _) (ownsRow_ne_blk hO6 hn6 (by decide))
            generalize w5.setCell ⟨g9, 0, none⟩ (.slice A5 k5 c5) = wf at hB9 hn9 hO9 ⊢
            have c9' : wf.cell? ⟨g9, 0, none⟩ = some (.slice A5 k5 c5) := hn9.cell 0
            have hb7 := HB7.out.below hB9 h7lt
            have f7 := hb7.frozen 0
            have c7 : wf.cell? ⟨w3.heap.size, 0, none⟩ = some (.slice Av (encs (qs.take i)).length cv) := hb7.cell 0
            rw [← hln.out] at c7
            clear f9 c9
            go_wp2_with fail
            refine NoPanic.normal ?_
            go_wp2_with fail
            go_roundw
            case rel =>
              refine ⟨i + 1, .slice A5 k5 c5, by go_num, by omega, hb7.set_ 0 _, ?_, (HB.out.trans (hB9.mono hw0)).setCell (Nat.le_refl _) _⟩
              rw [T1.out]
              exact World.ownsRow.kept hO9 (grown_set _ _ 0 _) (ownsRow_ne_blk hO9 hb7 (by decide))
            case measure => simp [intOf]; omega
        · have hdd : decide ((i : Int) < (qs.length : Int)) = false := decide_eq_false (by omega)
          obtain rfl : i = qs.length := by omega
          rw [hln.out] at c7
          have hO8 := HO.out
          obtain ⟨l8, hl8⟩ : ∃ l8, Hid (l8 = (encs (qs.take qs.length)).length) := ⟨_, Lib.hid rfl⟩
          rw [← hl8.out] at hO8 c7
          have HO8 := Lib.hid hO8
          have HB8 := Lib.hid (HB2.out.trans (HB.out.mono hw2s))
          clear hO8
          go_wp2_with fail
          have hO9 := HO8.out
          rw [List.take_length] at hO9
          refine bodyPost_ret (results_mat rfl _ _ w1.heap.size 47 #[.slice Av l8 cv] (0, 0) _ rfl (HM2.out.set_ 0 _) Try.underlying47 rfl size47) rfl ?_
          exact ⟨_, rfl, World.ownsRow.kept hO9 (grown_set _ _ 0 _) (ownsRow_ne_blk hO9 HM2.out (by decide)), HB8.out.setCell hs1 _⟩
end Go.Proofs.Ytfhigppdgfajoaa
