/- The walk of decode: the record with which bytes begin. -/
import Derived.Test.YtfhigppdgfajoaaEnc
namespace Go.Proofs.Ytfhigppdgfajoaa
open Go.RowKit
/-- the contents of the record with which bytes begin -/
def dec (p : List Nat) : Option (List Nat) :=
  if p.length < 8 ∨ 4194304 < num p then none
  else if p.length < num p + 8 ∨ CrcM.crc (p.take (4 + num p)) ≠ num (p.drop (4 + num p)) then none
  else some ((p.take (4 + num p)).drop 4)
theorem Rd.take {w : World} {A : Option Addr} {p : List Nat} (h : Rd w A p) (n : Nat) : Rd w A (p.take n) :=
  ⟨by rw [List.length_take]; have := h.1; omega, fun c hc => h.2.1 c (List.mem_of_mem_take hc), fun h0 => by
    rw [List.length_take] at h0
    obtain ⟨ad, e, hl, hc⟩ := h.2.2 (by omega)
    refine ⟨ad, e, hl, fun j hj => ?_⟩
    rw [List.length_take] at hj
    rw [hc j (by omega)]
    simp only [List.getD_eq_getElem?_getD, List.getElem?_take, show j < n by omega, ↓reduceIte]⟩
theorem Rd.drop {w : World} {bk off : Nat} {p : List Nat} (h : Rd w (some ⟨bk, off, none⟩) p) (n : Nat) : Rd w (some ⟨bk, off + n, none⟩) (p.drop n) :=
  ⟨by rw [List.length_drop]; have := h.1; omega, fun c hc => h.2.1 c (List.mem_of_mem_drop hc), fun h0 => by
    rw [List.length_drop] at h0
    obtain ⟨ad, e, hl, hc⟩ := h.2.2 (by omega)
    injection e with e
    subst e
    refine ⟨_, rfl, hl, fun j hj => ?_⟩
    rw [List.length_drop] at hj
    have := hc (n + j) (by omega)
    rw [Addr.add_lit] at this ⊢
    rw [Nat.add_assoc, this]
    simp only [List.getD_eq_getElem?_getD, List.getElem?_drop]⟩
/-- what decode returns -/
def DecR (w : World) (base : Nat) (v : Value) (p : List Nat) : Prop :=
  (dec p = none ∧ v = .tuple #[.slice none 0 0, .bool false]) ∨ ∃ q u, dec p = some q ∧ v = .tuple #[u, .bool true] ∧ OwnB w base 5 u q
set_option maxRecDepth 100000 in
set_option maxHeartbeats 2000000 in
theorem decode_any (A : Option Addr) (p : List Nat) (cap : Nat) (w : World) (hr : Rd w A p) (hc : p.length ≤ cap) :
    Calls Try.prog 29 #[.slice A p.length cap] w fun e w' => ∃ v, e = .returned v ∧ DecR w' w.heap.size v p ∧ Below w.heap.size w w' := by
  have HR := Lib.hid hr
  have hpl := hr.1
  clear hr
  by_cases h8 : p.length < 8
  · have hd : decide ((p.length : Int) < 8) = true := decide_eq_true (by omega)
    have hd' : decide (p.length < 8) = true := decide_eq_true h8
    have HE := Lib.hid (show dec p = none from by unfold dec; rw [if_pos (.inl h8)])
    go_enter Try.func29, Try.ntmps29
    go_wp2_with fail
    go_ret2
    exact ⟨_, rfl, .inl ⟨HE.out, rfl⟩, Below.refl _ _⟩
  · have hd : decide ((p.length : Int) < 8) = false := decide_eq_false (by omega)
    have hd' : decide (p.length < 8) = false := decide_eq_false h8
    obtain ⟨bk, off, rfl, hbk, _⟩ := rd_flat HR.out (by omega)
    have hnl := num_lt HR.out.2.1
    obtain ⟨n, hn⟩ : ∃ n, Hid (n = num p) := ⟨_, Lib.hid rfl⟩
    rw [← hn.out] at hnl
    by_cases hbig : 4194304 < n
    · have ht : decide (4194304 < (n : Int)) = true := decide_eq_true (by omega)
      have ht' : decide (4194304 < n) = true := decide_eq_true hbig
      have HE := Lib.hid (show dec p = none from by unfold dec; rw [if_pos (.inr (by rw [← hn.out]; exact hbig))])
      go_enter Try.func29, Try.ntmps29
      go_wp2_with fail
      refine (number_any _ p cap w HR.out (by omega)).mono ?_
      rintro e w2 ⟨rfl, hB2⟩
      rw [← hn.out]
      go_wp2_with fail
      go_ret2
      exact ⟨_, rfl, .inl ⟨HE.out, rfl⟩, hB2⟩
    · have ht : decide (4194304 < (n : Int)) = false := decide_eq_false (by omega)
      have ht' : decide (4194304 < n) = false := decide_eq_false hbig
      obtain ⟨k, hk⟩ : ∃ k : Nat, (4 : Int) + (n : Int) = (k : Int) := ⟨4 + n, by omega⟩
      obtain ⟨m, hm⟩ : ∃ m : Nat, Hid (m = n + 8) := ⟨_, Lib.hid rfl⟩
      have hw8 : IntKind.i64.wrap ((k : Int) + 4) = (m : Int) := by rw [IntKind.wrap_i64]; have := hm.out; omega
      go_enter Try.func29, Try.ntmps29
      go_wp2_with fail
      refine (number_any _ p cap w HR.out (by omega)).mono ?_
      rintro e w2 ⟨rfl, hB2⟩
      rw [← hn.out]
      have HB2 := Lib.hid hB2
      have HR2 := Lib.hid (HR.out.below hB2 (Nat.le_refl _))
      clear hB2
      go_wp2_with fail
      refine (number_any _ p cap w2 HR2.out (by omega)).mono ?_
      rintro e w3 ⟨rfl, hB3⟩
      rw [← hn.out]
      have HB3 := Lib.hid (HB2.out.trans (hB3.mono HB2.out.size))
      have HR3 := Lib.hid (HR2.out.below hB3 (Nat.le_refl _))
      clear hB3 HB2 HR2
      by_cases hlong : p.length < n + 8
      · have hs : decide ((p.length : Int) < (m : Int)) = true := decide_eq_true (by have := hm.out; omega)
        have hs' : decide (p.length < m) = true := decide_eq_true (by have := hm.out; omega)
        have HE := Lib.hid (show dec p = none from by unfold dec; rw [← hn.out, if_neg (by omega), if_pos (.inl hlong)])
        go_wp2_with fail
        have hBC : Below w3.heap.size w3 w3.drew := (Below.refl _ _).drew
        refine wp_region_seq (S := fun w' => Below w3.heap.size w3 w') 15 [(0, true), (1, true), (2, true), (3, true), (4, true), (5, true), (6, true), (7, true), (8, true), (9, true), (10, true), (11, true), (12, true), (13, true), (14, true)] (by kernel_rfl) rfl (by kernel_rfl) hBC ?_
        generalize w3.drew = wd at hBC ⊢
        simp only [List.map_cons, List.map_nil, List.getD_cons_succ, List.getD_cons_zero, List.drop_succ_cons, List.drop_zero]
        iterate 6
          refine wpSeq_take (v := ?_) (by rfl) ?_ ?_
          rotate_left
          · intro w' hw'
            clear hw'
            go_simp
            try with_reducible rfl
          simp only [Act.put, List.setIfInBounds_toArray, List.set_cons_zero, List.set_cons_succ]
        iterate 9
          refine wpSeq_idle (by rfl) ?_
          simp only [Act.put, List.setIfInBounds_toArray, List.set_cons_zero, List.set_cons_succ]
        refine wpSeq_nil ?_
        go_wp2_with fail
        refine NoPanic.normal ?_
        go_wp2_with fail
        go_ret2
        exact ⟨_, rfl, .inl ⟨HE.out, rfl⟩, HB3.out.trans (hBC.mono HB3.out.size)⟩
      · have hs : decide ((p.length : Int) < (m : Int)) = false := decide_eq_false (by have := hm.out; omega)
        have hs' : decide (p.length < m) = false := decide_eq_false (by have := hm.out; omega)
        have hn1 : (0 : Int) ≤ (k : Int) := by omega
        have hn2 : (k : Int) ≤ (p.length : Int) := by have := hm.out; omega
        have hn3 : (p.length : Int) ≤ (cap : Int) := by omega
        have hn4 : (k : Int) ≤ (cap : Int) := by omega
        have hn5 : k ≤ p.length := by omega
        have hn6 : k ≤ cap := by omega
        have hcne : ¬ cap = k := by have := hm.out; omega
        have hkn : Hid (4 + n = k) := Lib.hid (by omega)
        have HTL := Lib.hid (show (p.take k).length = k by rw [List.length_take]; omega)
        obtain ⟨c, hc⟩ : ∃ c, Hid (c = CrcM.crc (p.take k)) := ⟨_, Lib.hid rfl⟩
        obtain ⟨x, hx⟩ : ∃ x, Hid (x = num (p.drop k)) := ⟨_, Lib.hid rfl⟩
        by_cases hcx : c = x
        · subst hcx
          have hne : ((c : Int) != (c : Int)) = false := by rw [bne_eq_false_iff_eq]
          have HE := Lib.hid (show dec p = some ((p.take k).drop 4) from by unfold dec; rw [← hn.out, hkn.out, if_neg (by omega), if_neg (by rw [← hc.out, ← hx.out]; have := hm.out; omega)])
          go_wp2_with fail
          have hBC : Below w3.heap.size w3 w3.drew := (Below.refl _ _).drew
          refine wp_region_seq (S := fun w' => Below w3.heap.size w3 w') 15 [(0, true), (1, true), (2, true), (3, true), (4, true), (5, true), (6, true), (7, true), (8, true), (10, true), (11, true), (12, true), (9, false), (13, false), (14, true)] (by kernel_rfl) rfl (by kernel_rfl) hBC ?_
          generalize w3.drew = wd at hBC ⊢
          simp only [List.map_cons, List.map_nil, List.getD_cons_succ, List.getD_cons_zero, List.drop_succ_cons, List.drop_zero]
          iterate 12
            refine wpSeq_take (v := ?_) (by rfl) ?_ ?_
            rotate_left
            · intro w' hw'
              clear hw'
              go_simp
              try with_reducible rfl
            simp only [Act.put, List.setIfInBounds_toArray, List.set_cons_zero, List.set_cons_succ]
          refine wpSeq_step fun K hK => ?_
          go_simp
          go_at_call 34
          have hRd : Rd wd (some ⟨bk, off, none⟩) p := HR3.out.below hBC (Nat.le_refl _)
          have hcall := crc_any (some ⟨bk, off, none⟩) (p.take k) cap wd (hRd.take k)
          rw [HTL.out] at hcall
          refine hcall.mono ?_
          rintro e w5 ⟨rfl, hB5⟩
          rw [← hc.out]
          have hB35 := hBC.trans (hB5.mono hBC.size)
          refine hK.out _ _ hB35 ?_
          clear hK K hcall
          try simp only [Act.put, List.setIfInBounds_toArray, List.set_cons_zero, List.set_cons_succ]
          refine wpSeq_step fun K hK => ?_
          go_simp
          go_at_call 36
          have hcall := number_any (some ⟨bk, off + k, none⟩) (p.drop k) (cap - k) w5 ((HR3.out.below hB35 (Nat.le_refl _)).drop k) (by rw [List.length_drop]; have := hm.out; omega)
          rw [List.length_drop] at hcall
          refine hcall.mono ?_
          rintro e w6 ⟨rfl, hB6⟩
          rw [← hx.out]
          have hB36 := hB35.trans (hB6.mono hB35.size)
          refine hK.out _ _ hB36 ?_
          clear hK K hcall
          try simp only [Act.put, List.setIfInBounds_toArray, List.set_cons_zero, List.set_cons_succ]
          iterate 1
            refine wpSeq_take (v := ?_) (by rfl) ?_ ?_
            rotate_left
            · intro w' hw'
              clear hw'
              go_simp
              try with_reducible rfl
            simp only [Act.put, List.setIfInBounds_toArray, List.set_cons_zero, List.set_cons_succ]
          refine wpSeq_nil ?_
          go_wp2_with fail
          refine NoPanic.normal ?_
          have HB6 := Lib.hid (HB3.out.trans (hB36.mono HB3.out.size))
          have HR6 := Lib.hid (HR3.out.below hB36 (Nat.le_refl _))
          clear hB36 hB6 hB35 hB5 hBC hRd
          have hq1 : (4 : Int) ≤ (k : Int) := by omega
          have hq2 : 4 ≤ k := by omega
          have hq3 : ¬ cap = 4 := by have := hm.out; omega
          have hq4 : (0 : Int) ≤ 4 := by omega
          obtain ⟨q, hq⟩ : ∃ q, Hid (q = (p.take k).drop 4) := ⟨_, Lib.hid rfl⟩
          have hql : q.length = k - 4 := by rw [hq.out, List.length_drop, List.length_take]; omega
          have HQL := Lib.hid hql
          rw [← hq.out] at HE
          have HRq : Hid (Rd w6 (some ⟨bk, off + 4, none⟩) q) := Lib.hid (by rw [hq.out]; exact (HR6.out.take k).drop 4)
          clear hql
          have hs6 : w.heap.size ≤ w6.heap.size := HB6.out.size
          go_wp2_with (at_builtin; refine wpList_app (w := w6.alloc (.cells #[] 5)) rfl _ _ 22 rfl w.heap.size 5 (.int .u8 0) 1 1 Try.underlying22 info5 rfl (by decide) (by decide) (.slice (some ⟨w6.heap.size, 0, none⟩) 0 0) 0 [] rfl ⟨rfl, .inr ⟨w6.heap.size, 0, #[], rfl, hs6, heap_alloc_new _ _, Nat.le_refl _, by decide, rfl, rfl⟩⟩ (some ⟨bk, off + 4, none⟩) (k - 4) (cap - 4) (cellsB q) rfl (by rw [← HQL.out]; exact (HRq.out.below ((Below.refl _ _).alloc (Nat.le_refl _) _) (Nat.le_refl _)).src) (cellsB_one q) (by omega) (by simp; omega) ?_; intro v7 w7 hO7 hg7 _)
          go_ret2
          refine ⟨_, rfl, .inr ⟨q, v7, HE.out, rfl, ?_⟩, (HB6.out.alloc hs6 _).grown hg7 (by simp; omega) (fun z hz => by simp [Value.ownBlock] at hz; omega)⟩
          unfold OwnB
          rw [HQL.out]
          rw [Nat.zero_add, List.nil_append] at hO7
          exact hO7

        · have hne : ((c : Int) != (x : Int)) = true := by rw [bne_iff_ne]; omega
          have HE := Lib.hid (show dec p = none from by unfold dec; rw [← hn.out, hkn.out, if_neg (by omega), if_pos (.inr (by rw [← hc.out, ← hx.out]; exact hcx))])
          go_wp2_with fail
          have hBC : Below w3.heap.size w3 w3.drew := (Below.refl _ _).drew
          refine wp_region_seq (S := fun w' => Below w3.heap.size w3 w') 15 [(0, true), (1, true), (2, true), (3, true), (4, true), (5, true), (6, true), (7, true), (8, true), (10, true), (11, true), (12, true), (9, false), (13, false), (14, true)] (by kernel_rfl) rfl (by kernel_rfl) hBC ?_
          generalize w3.drew = wd at hBC ⊢
          simp only [List.map_cons, List.map_nil, List.getD_cons_succ, List.getD_cons_zero, List.drop_succ_cons, List.drop_zero]
          iterate 12
            refine wpSeq_take (v := ?_) (by rfl) ?_ ?_
            rotate_left
            · intro w' hw'
              clear hw'
              go_simp
              try with_reducible rfl
            simp only [Act.put, List.setIfInBounds_toArray, List.set_cons_zero, List.set_cons_succ]
          refine wpSeq_step fun K hK => ?_
          go_simp
          go_at_call 34
          have hRd : Rd wd (some ⟨bk, off, none⟩) p := HR3.out.below hBC (Nat.le_refl _)
          have hcall := crc_any (some ⟨bk, off, none⟩) (p.take k) cap wd (hRd.take k)
          rw [HTL.out] at hcall
          refine hcall.mono ?_
          rintro e w5 ⟨rfl, hB5⟩
          rw [← hc.out]
          have hB35 := hBC.trans (hB5.mono hBC.size)
          refine hK.out _ _ hB35 ?_
          clear hK K hcall
          try simp only [Act.put, List.setIfInBounds_toArray, List.set_cons_zero, List.set_cons_succ]
          refine wpSeq_step fun K hK => ?_
          go_simp
          go_at_call 36
          have hcall := number_any (some ⟨bk, off + k, none⟩) (p.drop k) (cap - k) w5 ((HR3.out.below hB35 (Nat.le_refl _)).drop k) (by rw [List.length_drop]; have := hm.out; omega)
          rw [List.length_drop] at hcall
          refine hcall.mono ?_
          rintro e w6 ⟨rfl, hB6⟩
          rw [← hx.out]
          have hB36 := hB35.trans (hB6.mono hB35.size)
          refine hK.out _ _ hB36 ?_
          clear hK K hcall
          try simp only [Act.put, List.setIfInBounds_toArray, List.set_cons_zero, List.set_cons_succ]
          iterate 1
            refine wpSeq_take (v := ?_) (by rfl) ?_ ?_
            rotate_left
            · intro w' hw'
              clear hw'
              go_simp
              try with_reducible rfl
            simp only [Act.put, List.setIfInBounds_toArray, List.set_cons_zero, List.set_cons_succ]
          refine wpSeq_nil ?_
          go_wp2_with fail
          refine NoPanic.normal ?_
          have HB6 := Lib.hid (HB3.out.trans (hB36.mono HB3.out.size))
          have HR6 := Lib.hid (HR3.out.below hB36 (Nat.le_refl _))
          clear hB36 hB6 hB35 hB5 hBC hRd
          go_wp2_with fail
          go_ret2
          exact ⟨_, rfl, .inl ⟨HE.out, rfl⟩, HB6.out⟩
end Go.Proofs.Ytfhigppdgfajoaa
