/- The walks of the reference's Open, Truncate and Append at a journal's bytes. -/
import Derived.Test.YtfhigppdgfajoaaWri
namespace Go.Proofs.Ytfhigppdgfajoaa
open Go.RowKit
set_option maxRecDepth 100000 in
set_option maxHeartbeats 1000000 in
theorem refopen_at (A : Option Addr) (p : List Nat) (cap : Nat) (w : World) (hr : Sl w A p cap) (hl : p.length ≤ 16777216) :
    Calls Try.prog 20 #[.slice A p.length cap] w fun e w' => e = .returned (.tuple #[.agg #[.slice A (rcv p).2 cap], .int .i64 0]) ∧ Below w.heap.size w w' := by
  have HR := Lib.hid hr
  clear hr
  have hd : decide (16777216 < (p.length : Int)) = false := decide_eq_false (by omega)
  have hd' : decide (16777216 < p.length) = false := decide_eq_false (by omega)
  obtain ⟨n, hn⟩ : ∃ n, Hid (n = (rcv p).2) := ⟨_, Lib.hid rfl⟩
  rw [← hn.out]
  go_enter Try.func20, Try.ntmps20
  go_wp2_with (first | (refine wpList_new rfl 47 rfl _ info47 ?_; intro w1 hn1 hB1 hz1))
  refine (refrecover_any A p cap _ (HR.out.below hB1)).mono ?_
  rintro e w2 ⟨v1, rfl, ⟨u, rfl, hO⟩, hB⟩
  have hw1 := hB.size
  obtain ⟨k1, k2, k3, k4⟩ := rcv_ok p
  rw [← hn.out] at k2 ⊢
  have hc := HR.out.2.1
  have hc2 := HR.out.2.2.1
  have hn0 : (0 : Int) ≤ (n : Int) := by omega
  have hn1' : (n : Int) ≤ (p.length : Int) := by omega
  have hn2 : (n : Int) ≤ (cap : Int) := by omega
  have hn3 : n ≤ cap := by omega
  have HN := Lib.hid (hn1.below hB (by omega))
  have hf1 := HN.out.frozen 0
  have hcell := HN.out.cell 0
  have hcell : w2.cell? ⟨w.heap.size, 0, none⟩ = some (.slice none 0 0) := hcell
  have HB := Lib.hid (hB1.trans (hB.mono hB1.size))
  clear hO k1 k3 k4
  have hspot := HR.out.2.2.2
  clear HR
  rcases hspot with ⟨rfl, rfl, rfl⟩ | ⟨bk, off, rfl⟩
  · obtain rfl : n = 0 := by simp at k2; exact k2
    go_wp2_with fail
    refine bodyPost_ret (results_mat rfl _ _ w.heap.size 47 #[.slice none 0 0] (0, 0) _ rfl (HN.out.set_ 0 _) Try.underlying47 rfl size47) rfl ?_
    exact ⟨rfl, HB.out.setCell (Nat.le_refl _) _⟩
  · go_wp2_with fail
    refine bodyPost_ret (results_mat rfl _ _ w.heap.size 47 #[.slice (some ⟨bk, off, none⟩) n cap] (0, 0) _ rfl (HN.out.set_ 0 _) Try.underlying47 rfl size47) rfl ?_
    exact ⟨rfl, HB.out.setCell (Nat.le_refl _) _⟩
theorem ownsRow_form {w : World} {base : Nat} {e : TypeId} {size n : Nat} {v : Value} {xs : List Value} (h : w.ownsRow base e size v n xs) : ∃ A k c, v = .slice A k c := by
  rcases h.2 with ⟨rfl, _⟩ | ⟨g, cap, cur, rfl, _⟩
  · exact ⟨_, _, _, rfl⟩
  · exact ⟨_, _, _, rfl⟩
/-- what the reference's Truncate answers -/
def rtE (p : List Nat) (n : Int) : Nat := if n < 0 ∨ (p.length : Int) < n then 3 else 0
def rtN (p : List Nat) (n : Int) : Nat := if n < 0 ∨ (p.length : Int) < n then p.length else (rcv (p.take (p.length - n.toNat))).2
set_option maxRecDepth 100000 in
set_option maxHeartbeats 1000000 in
theorem reftruncate_at (A : Option Addr) (p : List Nat) (cap : Nat) (n : Int) (w : World) (hr : Sl w A p cap) (hl : p.length ≤ 16777216) :
    Calls Try.prog 23 #[.agg #[.slice A p.length cap], .int .i64 n] w fun e w' => e = .returned (.tuple #[.agg #[.slice A (rtN p n) cap], .int .i64 ((rtE p n : Nat) : Int)]) ∧ Below w.heap.size w w' := by
  have HR := Lib.hid hr
  unfold rtE rtN
  clear hr
  by_cases hneg : n < 0
  · have hd : decide (n < 0) = true := decide_eq_true hneg
    rw [if_pos (.inl hneg), if_pos (.inl hneg)]
    go_enter Try.func23, Try.ntmps23
    go_wp2_with (first | (refine wpList_box rfl 47 _ rfl _ rfl ?_; intro w1 hn1 hB1 hz1; have hlt1 := hn1.lt; have HN1 := Lib.hid hn1; clear hn1 hz1) | (refine wpList_new rfl 47 rfl _ info47 ?_; intro w2 hn2 hB2 hz2; have hn1 := HN1.out.below hB2 hlt1; have f1 := hn1.frozen 0; have f2 := hn2.frozen 0; have c1 : w2.cell? ⟨w.heap.size, 0, none⟩ = some (.slice A p.length cap) := hn1.cell 0; have c2 : w2.cell? ⟨w1.heap.size, 0, none⟩ = some (.slice none 0 0) := hn2.cell 0; have HN2 := Lib.hid hn2; clear hn1 hn2 hz2))
    refine bodyPost_ret (results_mat rfl _ _ w1.heap.size 47 #[.slice A p.length cap] (0, 0) _ rfl (HN2.out.set_ 0 _) Try.underlying47 rfl size47) rfl ?_
    exact ⟨rfl, (hB1.trans (hB2.mono hB1.size)).setCell hB1.size _⟩
  · have hd : decide (n < 0) = false := decide_eq_false hneg
    by_cases hbig : (p.length : Int) < n
    · have hd2 : decide ((p.length : Int) < n) = true := decide_eq_true hbig
      rw [if_pos (.inr hbig), if_pos (.inr hbig)]
      go_enter Try.func23, Try.ntmps23
      go_wp2_with (first | (refine wpList_box rfl 47 _ rfl _ rfl ?_; intro w1 hn1 hB1 hz1; have hlt1 := hn1.lt; have HN1 := Lib.hid hn1; clear hn1 hz1) | (refine wpList_new rfl 47 rfl _ info47 ?_; intro w2 hn2 hB2 hz2; have hn1 := HN1.out.below hB2 hlt1; have f1 := hn1.frozen 0; have f2 := hn2.frozen 0; have c1 : w2.cell? ⟨w.heap.size, 0, none⟩ = some (.slice A p.length cap) := hn1.cell 0; have c2 : w2.cell? ⟨w1.heap.size, 0, none⟩ = some (.slice none 0 0) := hn2.cell 0; have HN2 := Lib.hid hn2; clear hn1 hn2 hz2))
      refine bodyPost_ret (results_mat rfl _ _ w1.heap.size 47 #[.slice A p.length cap] (0, 0) _ rfl (HN2.out.set_ 0 _) Try.underlying47 rfl size47) rfl ?_
      exact ⟨rfl, (hB1.trans (hB2.mono hB1.size)).setCell hB1.size _⟩
    · have hd2 : decide ((p.length : Int) < n) = false := decide_eq_false hbig
      rw [if_neg (by omega), if_neg (by omega)]
      obtain ⟨m, hm⟩ : ∃ m, Hid (m = p.length - n.toNat) := ⟨_, Lib.hid rfl⟩
      rw [← hm.out]
      have hw1 : IntKind.i64.wrap ((p.length : Int) - n) = (m : Int) := by rw [IntKind.wrap_i64]; have := hm.out; omega
      have hmp : m ≤ p.length := by have := hm.out; omega
      have hc := HR.out.2.1
      have hc2 := HR.out.2.2.1
      have hn0 : (0 : Int) ≤ (m : Int) := by omega
      have hn2 : (m : Int) ≤ (cap : Int) := by omega
      have hn3 : m ≤ cap := by omega
      have htl : (p.take m).length = m := by rw [List.length_take]; omega
      have HTL := Lib.hid htl
      clear htl
      have hspot := HR.out.2.2.2
      go_enter Try.func23, Try.ntmps23
      rcases hspot with ⟨rfl, rfl, rfl⟩ | ⟨bk, off, rfl⟩
      · obtain rfl : m = 0 := by simp at hmp; exact hmp
        obtain rfl : n = 0 := by simp at hbig; omega
        go_wp2_with (first | (refine wpList_box rfl 47 _ rfl _ rfl ?_; intro w1 hn1 hB1 hz1; have hlt1 := hn1.lt; have HN1 := Lib.hid hn1; clear hn1 hz1) | (refine wpList_new rfl 47 rfl _ info47 ?_; intro w2 hn2 hB2 hz2; have hn1 := HN1.out.below hB2 hlt1; have f1 := hn1.frozen 0; have f2 := hn2.frozen 0; have c1 : w2.cell? ⟨w.heap.size, 0, none⟩ = some (.slice none ([] : List Nat).length 0) := hn1.cell 0; have c2 : w2.cell? ⟨w1.heap.size, 0, none⟩ = some (.slice none 0 0) := hn2.cell 0; have HN2 := Lib.hid hn2; clear hn1 hn2 hz2))
        have hB12 := hB1.trans (hB2.mono hB1.size)
        have hcall := refopen_at none (([] : List Nat).take 0) 0 w2 ((HR.out.below hB12).take 0) (by rw [HTL.out]; omega)
        rw [HTL.out] at hcall
        refine hcall.mono ?_
        rintro e w3 ⟨rfl, hB3⟩
        obtain ⟨q, hq⟩ : ∃ q, Hid (q = (rcv (([] : List Nat).take 0)).2) := ⟨_, Lib.hid rfl⟩
        rw [← hq.out]
        have hn3 := HN2.out.below hB3 HN2.out.lt
        have f3 := hn3.frozen 0
        have c3 : w3.cell? ⟨w1.heap.size, 0, none⟩ = some (.slice none 0 0) := hn3.cell 0
        have HN3 := Lib.hid hn3
        clear hn3 hcall f1 f2 c1 c2
        go_wp2_with fail
        refine bodyPost_ret (results_mat rfl _ _ w1.heap.size 47 #[.slice none q 0] (0, 0) _ rfl (HN3.out.set_ 0 _) Try.underlying47 rfl size47) rfl ?_
        exact ⟨by rw [hq.out]; rfl, (hB12.trans (hB3.mono hB12.size)).setCell hB1.size _⟩
      · go_wp2_with (first | (refine wpList_box rfl 47 _ rfl _ rfl ?_; intro w1 hn1 hB1 hz1; have hlt1 := hn1.lt; have HN1 := Lib.hid hn1; clear hn1 hz1) | (refine wpList_new rfl 47 rfl _ info47 ?_; intro w2 hn2 hB2 hz2; have hn1 := HN1.out.below hB2 hlt1; have f1 := hn1.frozen 0; have f2 := hn2.frozen 0; have c1 : w2.cell? ⟨w.heap.size, 0, none⟩ = some (.slice (some ⟨bk, off, none⟩) p.length cap) := hn1.cell 0; have c2 : w2.cell? ⟨w1.heap.size, 0, none⟩ = some (.slice none 0 0) := hn2.cell 0; have HN2 := Lib.hid hn2; clear hn1 hn2 hz2))
        have hB12 := hB1.trans (hB2.mono hB1.size)
        have hcall := refopen_at (some ⟨bk, off, none⟩) (p.take m) cap w2 ((HR.out.below hB12).take m) (by rw [HTL.out]; omega)
        rw [HTL.out] at hcall
        refine hcall.mono ?_
        rintro e w3 ⟨rfl, hB3⟩
        obtain ⟨q, hq⟩ : ∃ q, Hid (q = (rcv (p.take m)).2) := ⟨_, Lib.hid rfl⟩
        rw [← hq.out]
        have hn3 := HN2.out.below hB3 HN2.out.lt
        have f3 := hn3.frozen 0
        have c3 : w3.cell? ⟨w1.heap.size, 0, none⟩ = some (.slice none 0 0) := hn3.cell 0
        have HN3 := Lib.hid hn3
        clear hn3 hcall f1 f2 c1 c2
        go_wp2_with fail
        refine bodyPost_ret (results_mat rfl _ _ w1.heap.size 47 #[.slice (some ⟨bk, off, none⟩) q cap] (0, 0) _ rfl (HN3.out.set_ 0 _) Try.underlying47 rfl size47) rfl ?_
        exact ⟨by rw [hq.out]; rfl, (hB12.trans (hB3.mono hB12.size)).setCell hB1.size _⟩
set_option maxRecDepth 100000 in
set_option maxHeartbeats 2000000 in
theorem refappend_at (A : Option Addr) (p : List Nat) (cap : Nat) (B : Option Addr) (q : List Nat) (c : Nat) (w : World) (hr : Sl w A p cap) (hq : Rd w B q) (hl : (rcv p).1.length < 65536) (hb : p.length + q.length + 8 ≤ 16777216) (hql : q.length ≤ 4194304) :
    Calls Try.prog 22 #[.agg #[.slice A p.length cap], .slice B q.length c] w fun e w' => ∃ v, e = .returned (.tuple #[.agg #[v], .int .i64 0]) ∧ OwnB w' w.heap.size 5 v (p ++ enc q) ∧ Below w.heap.size w w' := by
  have HR := Lib.hid hr
  have HQ := Lib.hid hq
  have HRL := Lib.hid hl
  clear hr hq hl
  go_enter Try.func22, Try.ntmps22
  go_wp2_with (first | (refine wpList_box rfl 47 _ rfl _ rfl ?_; intro w1 hn1 hB1 hz1; have hlt1 := hn1.lt; have HN1 := Lib.hid hn1; clear hn1 hz1) | (refine wpList_new rfl 47 rfl _ info47 ?_; intro w2 hn2 hB2 hz2; have hn1 := HN1.out.below hB2 hlt1; have f1 := hn1.frozen 0; have f2 := hn2.frozen 0; have c1 : w2.cell? ⟨w.heap.size, 0, none⟩ = some (.slice A p.length cap) := hn1.cell 0; have c2 : w2.cell? ⟨w1.heap.size, 0, none⟩ = some (.slice none 0 0) := hn2.cell 0; have HN1' := Lib.hid hn1; have HN2 := Lib.hid hn2; clear hn1 hn2 hz2))
  have HB2 := Lib.hid (hB1.trans (hB2.mono hB1.size))
  have hs1 := hB1.size
  clear hB1 hB2 HN1
  refine (refrecord_any B q c w2 (HQ.out.below HB2.out (Nat.le_refl _))).mono ?_
  rintro e w3 ⟨v3, rfl, hR3, hB3⟩
  have hO3 : ∃ u, v3 = .tuple #[u, .int .i64 0] ∧ OwnB w3 w2.heap.size 5 u (enc q) := by
    rcases hR3 with ⟨h, _⟩ | ⟨_, u, e, h⟩
    · omega
    · exact ⟨u, e, h⟩
  obtain ⟨u, rfl, hO3⟩ := hO3
  obtain ⟨Ae, ce, rfl, hRe⟩ := hO3.slice (by rw [enc_len]; omega) (enc_bytes HQ.out.2.1)
  have hel := enc_len q
  have HEL := Lib.hid hel
  obtain ⟨el, hel2⟩ : ∃ el, Hid (el = (enc q).length) := ⟨_, Lib.hid rfl⟩
  rw [← hel2.out] at hel ⊢
  have HEL2 := Lib.hid hel
  clear hel
  have hn1 := HN1'.out.below hB3 HN1'.out.lt
  have hn2 := HN2.out.below hB3 HN2.out.lt
  have g1 := hn1.frozen 0
  have g2 := hn2.frozen 0
  have d1 : w3.cell? ⟨w.heap.size, 0, none⟩ = some (.slice A p.length cap) := hn1.cell 0
  have d2 : w3.cell? ⟨w1.heap.size, 0, none⟩ = some (.slice none 0 0) := hn2.cell 0
  have HM1 := Lib.hid hn1
  have HM2 := Lib.hid hn2
  have HRE := Lib.hid hRe
  have HB3 := Lib.hid (HB2.out.trans (hB3.mono HB2.out.size))
  have hw3 := HB3.out.size
  clear hR3 hO3 hRe hn1 hn2 hB3 f1 f2 c1 c2 HN1' HN2
  go_wp2_with fail
  refine (refrecover_any A p cap _ (HR.out.below HB3.out)).mono ?_
  rintro e w4 ⟨v4, rfl, ⟨ul, rfl, hO4⟩, hB4⟩
  have hO4 : OwnS w4 _ ul (rcv p).1 := hO4
  obtain ⟨Al, cl, rfl⟩ := hO4.slice
  obtain ⟨rl, hrl⟩ : ∃ rl, Hid (rl = (rcv p).1.length) := ⟨_, Lib.hid rfl⟩
  rw [← hrl.out]
  have hrl1 : rl < 65536 := by rw [hrl.out]; exact HRL.out
  have e1 : decide (65536 ≤ (rl : Int)) = false := decide_eq_false (by omega)
  have e2 : decide (65536 ≤ rl) = false := decide_eq_false (by omega)
  obtain ⟨t, ht⟩ : ∃ t : Nat, Hid (t = p.length + el) := ⟨_, Lib.hid rfl⟩
  have hw1 : IntKind.i64.wrap ((p.length : Int) + (el : Int)) = (t : Int) := by rw [IntKind.wrap_i64]; have := ht.out; have := HEL2.out; omega
  have e3 : decide (16777216 < (t : Int)) = false := decide_eq_false (by have := ht.out; have := HEL2.out; omega)
  have e4 : decide (16777216 < t) = false := decide_eq_false (by have := ht.out; have := HEL2.out; omega)
  have hn1 := HM1.out.below hB4 HM1.out.lt
  have hn2 := HM2.out.below hB4 HM2.out.lt
  have f1 := hn1.frozen 0
  have f2 := hn2.frozen 0
  have c1 : w4.cell? ⟨w.heap.size, 0, none⟩ = some (.slice A p.length cap) := hn1.cell 0
  have c2 : w4.cell? ⟨w1.heap.size, 0, none⟩ = some (.slice none 0 0) := hn2.cell 0
  have HN1 := Lib.hid hn1
  have HN2 := Lib.hid hn2
  have HB4 := Lib.hid (HB3.out.trans (hB4.mono hw3))
  have hw4 := HB4.out.size
  have HRE4 := Lib.hid (HRE.out.below hB4 (Nat.le_refl _))
  have HRP4 := Lib.hid (HR.out.below HB4.out).1
  clear hO4 hB4 hn1 hn2 d1 d2 g1 g2 HM1 HM2
  have hlp := HRP4.out.1
  have hpl : p.length ≤ 16777216 := by omega
  go_wp2_with (first
    | (at_builtin; refine wpList_app_bytes rfl _ _ 22 rfl w.heap.size 5 Try.underlying22 info5 (.slice none 0 0) [] rfl (OwnB.nil _ _ _) A cap p rfl HRP4.out (by simp; omega) hw4 ?_; intro v5 w5 hO5 hg5 _; rw [List.nil_append] at hO5; have hB5 : Below w.heap.size w w5 := HB4.out.grown hg5 hw4 (fun z hz => by simp [Value.ownBlock] at hz); have hw5 : w.heap.size ≤ w5.heap.size := hB5.size; have hB45 : Below w4.heap.size w4 w5 := ⟨hg5.os, hg5.tape, hg5.output, hg5.size, fun z hz => hg5.block z hz (by simp [Value.ownBlock])⟩; have hRE5 := HRE4.out.below hB45 (Nat.le_refl _); have hn1 := HN1.out.below hB45 HN1.out.lt; have hn2 := HN2.out.below hB45 HN2.out.lt)
    | (at_builtin; refine wpList_app rfl _ _ 22 rfl w.heap.size 5 (.int .u8 0) 1 1 Try.underlying22 info5 rfl (by decide) (by decide) _ p.length (cellsB p) rfl hO5 Ae el ce (cellsB (enc q)) rfl (by rw [hel2.out]; exact hRE5.src) (cellsB_one _) (by have := HEL2.out; omega) hw5 ?_; intro v6 w6 hO6 hg6 _; obtain ⟨A6, k6, c6, rfl⟩ := ownsRow_form hO6; have hn1 := Blk.grown_ hn1 hg6 (row_ne_blk hO5 hn1 (by decide)); have hn2 := Blk.grown_ hn2 hg6 (row_ne_blk hO5 hn2 (by decide)); have g1 := hn1.frozen 0; have g2 := hn2.frozen 0; have d1 : w6.cell? ⟨w.heap.size, 0, none⟩ = some (.slice A p.length cap) := hn1.cell 0; have d2 : w6.cell? ⟨w1.heap.size, 0, none⟩ = some (.slice none 0 0) := hn2.cell 0))
  have hO6' : OwnB w6 w.heap.size 5 (.slice A6 k6 c6) (p ++ enc q) := by
    unfold OwnB
    rw [List.length_append, ← hel2.out, cellsB_app]
    exact hO6
  have hB6 : Below w.heap.size w w6 := below_grown hB5 hw5 hO5 hg6
  refine bodyPost_ret (results_mat rfl _ _ w1.heap.size 47 #[(.slice A6 k6 c6)] (0, 0) _ rfl (hn2.set_ 0 _) Try.underlying47 rfl size47) rfl ?_
  have hfin1 : OwnB (w6.setCell ⟨w1.heap.size, 0, none⟩ (.slice A6 k6 c6)) w.heap.size 5 (.slice A6 k6 c6) (p ++ enc q) := World.ownsRow.kept hO6' (grown_set w6 _ 0 _) (ownsRow_ne_blk hO6' hn2 (by decide))
  exact ⟨.slice A6 k6 c6, rfl, hfin1, hB6.setCell hs1 _⟩
end Go.Proofs.Ytfhigppdgfajoaa
