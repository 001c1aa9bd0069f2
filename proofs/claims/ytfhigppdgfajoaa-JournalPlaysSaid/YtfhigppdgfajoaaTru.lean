/- The walk of Truncate. -/
import Derived.Test.YtfhigppdgfajoaaApd
import Derived.Deep.LoopGhost
namespace Go.Proofs.Ytfhigppdgfajoaa
open Go.RowKit Go.MuLone Go.Deep
/-- the records that lie whole in the first m bytes -/
def keep : Nat → List (List Nat) → List (List Nat)
  | _, [] => []
  | m, p :: ps => if p.length + 8 ≤ m then p :: keep (m - (p.length + 8)) ps else []
theorem keep_take : ∀ (ps : List (List Nat)) (m i : Nat), i ≤ ps.length → sz (ps.take i) ≤ m → (i = ps.length ∨ m < sz (ps.take (i + 1))) → ps.take i = keep m ps
  | [], m, i, _, _, _ => by simp [keep]
  | p :: ps, m, 0, _, _, h => by
    rw [keep, if_neg]
    · rfl
    · rcases h with h | h
      · simp at h
      · simp [sz] at h; omega
  | p :: ps, m, i + 1, hi, h1, h2 => by
    simp only [List.take_succ_cons, sz, List.length_cons] at hi h1 h2
    rw [keep, if_pos (by omega), List.take_succ_cons, keep_take ps (m - (p.length + 8)) i (by omega) (by omega) (by omega)]
theorem below_grownBy {w w' : World} (h : Below w.heap.size w w') (r : Option Nat) : w.grownBy w' r := ⟨h.os, h.tape, h.output, h.size, fun k hk _ => h.block k hk⟩
theorem grown_trans {a b c : World} {r : Option Nat} (h : a.grownBy b r) (k : b.grownBy c r) : a.grownBy c r := ⟨k.os.trans h.os, k.tape.trans h.tape, k.output.trans h.output, Nat.le_trans h.size k.size, fun i hi hne => (k.block i (Nat.lt_of_lt_of_le hi h.size) hne).trans (h.block i hi hne)⟩
theorem OwnS.take {w : World} {base : Nat} {A : Option Addr} {n c : Nat} {ps : List (List Nat)} (h : OwnS w base (.slice A n c) ps) (i : Nat) (hi : i ≤ ps.length) : OwnS w base (.slice A i c) (ps.take i) := by
  obtain ⟨xs, hl, hv, hx⟩ := h
  refine ⟨xs.take i, by rw [List.length_take, List.length_take]; omega, ?_, fun j u p h1 h2 => ?_⟩
  · rcases hv.2 with ⟨e, h0⟩ | ⟨g, cap, cur, e, h1, h2, h3, h4, h5, h6⟩
    · injection e with e1 e2 e3
      subst e1 e2 e3
      obtain rfl : i = 0 := by omega
      exact OwnV.nil _ _ _
    · injection e with e1 e2 e3
      subst e1 e2 e3
      have hxi : (xs.take i).length = i := by rw [List.length_take]; omega
      refine ⟨by rw [Nat.mul_one], .inr ⟨g, c, cur, by rw [hxi], h1, h2, by omega, h4, h5, ?_⟩⟩
      rw [hxi, Nat.mul_one]
      rw [Nat.mul_one] at h6
      rw [← h6, List.take_take]
      congr 1
      omega
  · rw [List.getElem?_take] at h1 h2
    split at h1
    · rename_i hj
      rw [if_pos hj] at h2
      exact hx j u p h1 h2
    · cases h1
theorem OwnS.cap {w : World} {base : Nat} {A : Option Addr} {n c : Nat} {ps : List (List Nat)} (h : OwnS w base (.slice A n c) ps) : ps.length ≤ c ∧ c ≤ 9223372036854775807 := by
  obtain ⟨xs, hl, hv, hx⟩ := h
  rcases hv.2 with ⟨e, h0⟩ | ⟨g, cap, cur, e, h1, h2, h3, h4, h5, h6⟩
  · injection e with e1 e2 e3; omega
  · injection e with e1 e2 e3
    subst e3
    unfold maxLen at h4
    omega
/-- the error of Truncate, the records behind it -/
def trE (ps : List (List Nat)) (n : Int) : Nat := if n < 0 ∨ (sz ps : Int) < n then 3 else 0
def trS (ps : List (List Nat)) (n : Int) : List (List Nat) := if n < 0 ∨ (sz ps : Int) < n then ps else keep (sz ps - n.toNat) ps
set_option maxRecDepth 100000 in
set_option maxHeartbeats 4000000 in
theorem truncate_any (base g : Nat) (ps : List (List Nat)) (n : Int) (w : World) (hj : Jr w base g ps) :
    Calls Try.prog 17 #[.pointer (some ⟨g, 0, none⟩), .int .i64 n] w fun e w' => e = .returned (.int .i64 ((trE ps n : Nat) : Int)) ∧ Jr w' base g (trS ps n) ∧ w.grownBy w' (some g) := by
  have HJ := Lib.hid hj
  obtain ⟨hbg, ⟨hp1, hp2, hp3⟩, v, hb, hO⟩ := hj
  have HP3 := Lib.hid hp3
  have hO1 : OwnS (w.setCell ⟨g, 0, none⟩ (.int .i32 1)) base v ps := hO.kept64 hb (grown_lock _ _ _)
  obtain ⟨Ao, co, rfl⟩ := hO1.slice
  have hb1 : Blk (w.setCell ⟨g, 0, none⟩ (.int .i32 1)) g 64 (jrA 1 (.slice Ao ps.length co) (sz ps)) := hb.set_ 0 _
  obtain ⟨c0, c2, c3, c4, cf⟩ := jr_cells hb
  have C0 := Lib.hid c0
  have CF := Lib.hid cf
  have HB := Lib.hid hb
  obtain ⟨s, hs⟩ : ∃ s, Hid (s = sz ps) := ⟨_, Lib.hid rfl⟩
  obtain ⟨hcap, hcap2⟩ := hO.cap
  unfold trE trS
  rw [← hs.out] at hp2 hb1 HB ⊢
  clear hO hb c0 c2 c3 c4 cf hp3
  go_enter_defers Try.func17, Try.ntmps17
  by_cases hneg : n < 0
  · have hd : decide (n < 0) = true := decide_eq_true hneg
    rw [if_pos (.inl hneg), if_pos (.inl hneg)]
    go_wp2_with (go_at_call 31; refine (lock_free muLib ⟨g, 0, none⟩ _ C0.out (CF.out 0)).mono ?_; rintro e w1 ⟨rfl, h31⟩; rw [← h31] at hO1 hb1; have H31 := Lib.hid h31; clear h31; obtain ⟨_, d2, d3, d4, df⟩ := jr_cells hb1)
    refine leaves_cons (f := 32) (args := #[.pointer (some ⟨g, 0, none⟩)]) (by simp) (by simp [go_sem]) ?_
    refine (unlock_deferred muLib ⟨g, 0, none⟩ .returning _ (jr_cells hb1).1 ((hb1).frozen 0)).mono ?_
    rintro e u' w'' ⟨rfl, rfl, rfl⟩
    refine ⟨_, results_tmp rfl _ _ _, ?_⟩
    have hln := lock_none HJ.out
    rw [← H31.out] at hln
    exact ⟨rfl, hln.1, below_grownBy hln.2 _⟩
  · have hd : decide (n < 0) = false := decide_eq_false hneg
    by_cases hbig : (s : Int) < n
    · have hd2 : decide ((s : Int) < n) = true := decide_eq_true hbig
      rw [if_pos (.inr hbig), if_pos (.inr hbig)]
      go_wp2_with (go_at_call 31; refine (lock_free muLib ⟨g, 0, none⟩ _ C0.out (CF.out 0)).mono ?_; rintro e w1 ⟨rfl, h31⟩; rw [← h31] at hO1 hb1; have H31 := Lib.hid h31; clear h31; obtain ⟨_, d2, d3, d4, df⟩ := jr_cells hb1)
      refine leaves_cons (f := 32) (args := #[.pointer (some ⟨g, 0, none⟩)]) (by simp) (by simp [go_sem]) ?_
      refine (unlock_deferred muLib ⟨g, 0, none⟩ .returning _ (jr_cells hb1).1 ((hb1).frozen 0)).mono ?_
      rintro e u' w'' ⟨rfl, rfl, rfl⟩
      refine ⟨_, results_tmp rfl _ _ _, ?_⟩
      have hln := lock_none HJ.out
      rw [← H31.out] at hln
      exact ⟨rfl, hln.1, below_grownBy hln.2 _⟩
    · have hd2 : decide ((s : Int) < n) = false := decide_eq_false hbig
      rw [if_neg (by omega), if_neg (by omega)]
      obtain ⟨k, hk⟩ : ∃ k : Nat, Hid (k = s - n.toNat) := ⟨_, Lib.hid rfl⟩
      rw [← hk.out]
      have hw1 : IntKind.i64.wrap ((s : Int) - n) = (k : Int) := by rw [IntKind.wrap_i64]; have := hk.out; omega
      go_wp2_with (go_at_call 31; refine (lock_free muLib ⟨g, 0, none⟩ _ C0.out (CF.out 0)).mono ?_; rintro e w1 ⟨rfl, h31⟩; rw [← h31] at hO1 hb1; have H31 := Lib.hid h31; clear h31; obtain ⟨_, d2, d3, d4, df⟩ := jr_cells hb1)
      have HOS1 := Lib.hid hO1
      have HB1 := Lib.hid hb1
      clear d2 d3 d4 df hO1 hb1
      go_loopg [6] ps.length (fun i s6 wr => i ≤ ps.length ∧ (i = ps.length ∨ k < sz (ps.take (i + 1))) ∧ Blk wr g 64 (jrA 1 (.slice Ao i co) (sz (ps.take i))) ∧ w1.grownBy wr (some g))
      case atStart => exact ⟨Nat.le_refl _, .inl rfl, by rw [List.take_length, ← hs.out]; exact HB1.out, below_grownBy (Below.refl _ _) _⟩
      case round =>
        obtain ⟨hi, hor, hbr, hgr⟩ := hrel
        obtain ⟨i, hgk⟩ : ∃ i, i = gk := ⟨_, rfl⟩
        subst hgk
        have HOR := Lib.hid hor
        have HG := Lib.hid hgr
        have HBR := Lib.hid hbr
        have hos : OwnS wr base (.slice Ao ps.length co) ps := HOS1.out.kept64 HB1.out hgr
        have hzt := sz_take ps i
        rw [← hs.out] at hzt
        obtain ⟨z, hz⟩ : ∃ z, Hid (z = sz (ps.take i)) := ⟨_, Lib.hid rfl⟩
        rw [← hz.out] at hbr hzt HBR
        obtain ⟨_, d2, d3, d4, df⟩ := jr_cells hbr
        clear hor hgr hbr
        by_cases hmore : k < z
        · have hm : decide ((k : Int) < (z : Int)) = true := decide_eq_true (by omega)
          have hm' : decide (k < z) = true := decide_eq_true hmore
          have hipos : 0 < i := by
            rcases Nat.eq_zero_or_pos i with h0 | h0
            · subst h0
              have := hz.out
              simp [sz] at this
              omega
            · exact h0
          obtain ⟨j, hij⟩ : ∃ j, Hid (i = j + 1) := ⟨i - 1, Lib.hid (by omega)⟩
          have hjl : j < ps.length := by have := hij.out; omega
          have hwj : IntKind.i64.wrap ((i : Int) - 1) = (j : Int) := by rw [IntKind.wrap_i64]; have := hij.out; omega
          obtain ⟨A2, c2, e2, hRS⟩ := hos.rds (by omega) (fun p hp => by have := HP3.out p hp; omega)
          injection e2 with e2 _ e3
          subst e2 e3
          obtain ⟨bk, of_, Aj, cj, rfl, hbk, hcj, hSj⟩ := hRS.at_ hjl
          obtain ⟨p, hp⟩ : ∃ p, Hid (p = ps.getD j []) := ⟨_, Lib.hid rfl⟩
          rw [← hp.out] at hcj hSj
          have T1 : ps.take i = ps.take j ++ [p] := by rw [hij.out, List.take_add_one, hp.out, List.getD_eq_getElem?_getD, List.getElem?_eq_getElem hjl]; rfl
          have hzz : Hid (z = sz (ps.take j) + (p.length + 8)) := Lib.hid (by rw [hz.out, T1, sz_app]; simp [sz])
          obtain ⟨y, hy⟩ : ∃ y, Hid (y = sz (ps.take j)) := ⟨_, Lib.hid rfl⟩
          rw [← hy.out] at hzz
          obtain ⟨l, hl⟩ : ∃ l : Nat, Hid (l = p.length + 8) := ⟨_, Lib.hid rfl⟩
          have hw3 : IntKind.i64.wrap ((p.length : Int) + 8) = (l : Int) := by rw [IntKind.wrap_i64]; have := hl.out; have := hzz.out; omega
          have hw4 : IntKind.i64.wrap ((z : Int) - (l : Int)) = (y : Int) := by rw [IntKind.wrap_i64]; have := hl.out; have := hzz.out; omega
          have hj0 : (0 : Int) ≤ (j : Int) := by omega
          have hj1 : (j : Int) < (i : Int) := by have := hij.out; omega
          have hj2 : (j : Int) ≤ (co : Int) := by omega
          have hj3 : j ≤ co := by omega
          have hj4 : j < i := by have := hij.out; omega
          have HCJ := Lib.hid hcj
          have HZ := Lib.hid (show True from trivial)
          clear hos hRS hSj hcj T1
          go_wp2_with fail
          have hBC : Below wr.heap.size wr wr.drew := (Below.refl _ _).drew
          refine wp_region_seq (S := fun w' => Below wr.heap.size wr w') 14 [(0, true), (1, true), (2, true), (3, true), (4, true), (5, true), (6, true), (7, true), (8, true), (9, true), (10, true), (11, true), (12, true), (13, true)] (by kernel_rfl) rfl (by kernel_rfl) hBC ?_
          generalize wr.drew = wd at hBC ⊢
          simp only [List.map_cons, List.map_nil, List.getD_cons_succ, List.getD_cons_zero, List.drop_succ_cons, List.drop_zero]
          clear d2 d3 d4 df
          have hblt := HBR.out.lt
          iterate 14
            refine wpSeq_take (v := ?_) (by rfl) ?_ ?_
            rotate_left
            · intro w' hw'
              obtain ⟨_, _, k3, k4, _⟩ := jr_cells (HBR.out.below hw' hblt)
              have k5 := (hw'.cell (p := ⟨bk, of_ + j, none⟩) hbk).trans HCJ.out
              clear hw'
              go_simp
              try with_reducible rfl
            simp only [Act.put, List.setIfInBounds_toArray, List.set_cons_zero, List.set_cons_succ]
          refine wpSeq_nil ?_
          have hbd := HBR.out.below hBC hblt
          have HBD := Lib.hid hbd
          have hf4 := hbd.frozen 4
          have k4 : wd.cell? ⟨g, 4, none⟩ = some (.int .i64 (z : Int)) := hbd.cell 4
          clear hbd
          go_wp2_with fail
          refine NoPanic.normal ?_
          have hb6 : Blk (wd.setCell ⟨g, 4, none⟩ (.int .i64 (y : Int))) g 64 (jrA 1 (.slice (some ⟨bk, of_, none⟩) i co) y) := HBD.out.set_ 4 _
          clear hf4 k4
          obtain ⟨w6, h6⟩ : ∃ w6, Hid (w6 = wd.setCell ⟨g, 4, none⟩ (.int .i64 (y : Int))) := ⟨_, Lib.hid rfl⟩
          rw [← h6.out] at hb6 ⊢
          obtain ⟨_, k2, k3, k4, kf⟩ := jr_cells hb6
          have HB6 := Lib.hid hb6
          clear hb6
          go_wp2_with fail
          have hb7 : Blk (w6.setCell ⟨g, 3, none⟩ (.slice (some ⟨bk, of_, none⟩) j co)) g 64 (jrA 1 (.slice (some ⟨bk, of_, none⟩) j co) y) := HB6.out.set_ 3 _
          have g6 : w1.grownBy w6 (some g) := by rw [h6.out]; exact grown_trans HG.out (grown_trans (below_grownBy hBC _) (grown_set wd g 4 _))
          have g7 := grown_trans g6 (grown_set w6 g 3 (.slice (some ⟨bk, of_, none⟩) j co))
          go_roundg j
          case rel => exact ⟨by omega, .inr (by rw [← hij.out]; have := hz.out; omega), by rw [← hy.out]; exact hb7, g7⟩
          case measure => have := hij.out; omega
        · have hm : decide ((k : Int) < (z : Int)) = false := decide_eq_false (by omega)
          have hm' : decide (k < z) = false := decide_eq_false hmore
          go_wp2_with fail
          refine leaves_cons (f := 32) (args := #[.pointer (some ⟨g, 0, none⟩)]) (by simp) (by simp [go_sem]) ?_
          refine (unlock_deferred muLib ⟨g, 0, none⟩ .returning _ (jr_cells HBR.out).1 ((HBR.out).frozen 0)).mono ?_
          rintro e u' w'' ⟨rfl, rfl, rfl⟩
          refine ⟨_, results_tmp rfl _ _ _, ?_⟩
          have h31 := H31.out
          have g1 : w.grownBy w1 (some g) := by rw [h31]; exact grown_lock w g _
          have g9 := grown_trans (grown_trans g1 HG.out) (grown_lock wr g (.int .i32 0))
          have hke : ps.take i = keep k ps := keep_take ps k i hi (by have := hz.out; omega) HOR.out
          rw [← hke]
          have o9 := (hos.take i hi).kept64 HBR.out (grown_lock wr g (.int .i32 0))
          refine ⟨rfl, ⟨hbg, ⟨by rw [List.length_take]; omega, by have := hz.out; omega, fun q hq => HP3.out q (List.mem_of_mem_take hq)⟩, _, ?_, o9⟩, g9⟩
          rw [← hz.out]
          exact HBR.out.set_ 0 _
end Go.Proofs.Ytfhigppdgfajoaa
