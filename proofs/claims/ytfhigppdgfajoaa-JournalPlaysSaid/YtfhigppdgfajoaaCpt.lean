/- The walk of Compact. -/
import Derived.Test.YtfhigppdgfajoaaRfj
namespace Go.Proofs.Ytfhigppdgfajoaa
open Go.RowKit Go.MuLone Go.Deep
set_option maxRecDepth 100000 in
set_option maxHeartbeats 4000000 in
theorem compact_any (base g : Nat) (ps : List (List Nat)) (A : Option Addr) (qs : List (List Nat)) (cap : Nat) (w : World) (hj : Jr w base g ps) (hr : RdS w A qs) (hq : sz qs ≤ 3000) (hgs : RdS (w.setCell ⟨g, 0, none⟩ (.int .i32 1)) A qs) (hbw : base ≤ w.heap.size) :
    Calls Try.prog 24 #[.pointer (some ⟨g, 0, none⟩), .slice A qs.length cap] w fun e w' => e = .returned (.int .i64 0) ∧ Jr w' base g qs ∧ w.grownBy w' (some g) := by
  have HJ := Lib.hid hj
  obtain ⟨hbg, ⟨hp1, hp2, hp3⟩, v, hb, hO⟩ := hj
  have HBY := Lib.hid hr.bytes
  have hql := sz_len qs
  have hql2 : qs.length ≤ 375 := by omega
  have hb1 : Blk (w.setCell ⟨g, 0, none⟩ (.int .i32 1)) g 64 (jrA 1 v (sz ps)) := hb.set_ 0 _
  obtain ⟨c0, c2, c3, c4, cf⟩ := jr_cells hb
  have C0 := Lib.hid c0
  have CF := Lib.hid cf
  have HB := Lib.hid hb
  have HQ := Lib.hid hq
  obtain ⟨s, hs⟩ : ∃ s, Hid (s = sz ps) := ⟨_, Lib.hid rfl⟩
  rw [← hs.out] at hp2 hb1 HB
  have hR := hgs
  clear hO hb c0 c2 c3 c4 cf hp3 hr hgs hql
  go_enter_defers Try.func24, Try.ntmps24
  go_wp2_with (go_at_call 31; refine (lock_free muLib ⟨g, 0, none⟩ _ C0.out (CF.out 0)).mono ?_; rintro e w1 ⟨rfl, h31⟩; rw [← h31] at hR hb1; have H31 := Lib.hid h31; clear h31; obtain ⟨_, d2, d3, d4, df⟩ := jr_cells hb1)
  have HR1 := Lib.hid hR
  have HB1 := Lib.hid hb1
  have hlt := hb1.lt
  clear d2 d3 d4 df hR hb1
  go_loopw [27] (fun vi wr => ∃ i : Nat, vi = .int .i64 (i : Int) ∧ i ≤ qs.length ∧ Below w1.heap.size w1 wr) (fun vi _ => qs.length - (intOf vi).toNat)
  case atStart => exact ⟨0, rfl, Nat.zero_le _, Below.refl _ _⟩
  case round =>
    obtain ⟨i, rfl, hi, hB⟩ := hrel
    have HBE := Lib.hid hB
    have R1 := HR1.out.below hB (Nat.le_refl _)
    clear hB
    by_cases hd : i < qs.length
    · have hdd : decide ((i : Int) < (qs.length : Int)) = true := decide_eq_true (by omega)
      have hi0 : (0 : Int) ≤ (i : Int) := by omega
      have hi1 : (i : Int) < (qs.length : Int) := by omega
      have hwi : IntKind.i64.wrap ((i : Int) + 1) = ((i + 1 : Nat) : Int) := by rw [IntKind.wrap_i64]; omega
      obtain ⟨bk, of_, Aj, cj, rfl, hbk, hcj, hSj⟩ := R1.at_ hd
      obtain ⟨p, hp⟩ : ∃ p, Hid (p = qs.getD i []) := ⟨_, Lib.hid rfl⟩
      rw [← hp.out] at hcj
      have hpm : p ∈ qs := by rw [hp.out, List.getD_eq_getElem?_getD, List.getElem?_eq_getElem hd]; exact List.getElem_mem hd
      have hp4 : p.length ≤ 3000 := by have := sz_mem hpm; have := HQ.out; omega
      have e1 : decide (4194304 < (p.length : Int)) = false := decide_eq_false (by omega)
      have e2 : decide (4194304 < p.length) = false := decide_eq_false (by omega)
      clear hSj R1
      go_wp2_with fail
      go_roundw
      case rel => exact ⟨i + 1, by go_num, by omega, HBE.out⟩
      case measure => simp [intOf]; omega
    · have hdd : decide ((i : Int) < (qs.length : Int)) = false := decide_eq_false (by omega)
      have e1 : decide (65536 < (qs.length : Int)) = false := decide_eq_false (by omega)
      have e2 : decide (65536 < qs.length) = false := decide_eq_false (by omega)
      obtain rfl : i = qs.length := by omega
      obtain ⟨w2, hw2⟩ : ∃ w2, w2 = wr := ⟨_, rfl⟩
      subst hw2
      have HR2 := Lib.hid R1
      have HB2 := Lib.hid (HB1.out.below HBE.out hlt)
      clear R1
      go_wp2_with fail
      go_loopw [7, 8, 40] (fun vs vo vi wr => ∃ (i : Nat), vi = .int .i64 (i : Int) ∧ i ≤ qs.length ∧ vs = .int .i64 ((sz (qs.take i) : Nat) : Int) ∧ OwnS wr w2.heap.size vo (qs.take i) ∧ Below w2.heap.size w2 wr) (fun _ _ vi _ => qs.length - (intOf vi).toNat)
      case atStart => exact ⟨0, rfl, Nat.zero_le _, rfl, OwnS.nil _ _, Below.refl _ _⟩
      case round =>
        obtain ⟨i, rfl, hi, rfl, hOw, hB⟩ := hrel
        have HBF := Lib.hid hB
        have hw0 := hB.size
        have R1 := Lib.hid (HR2.out.below hB (Nat.le_refl _))
        clear hB
        have hzt := sz_take qs i
        obtain ⟨z, hz⟩ : ∃ z, Hid (z = sz (qs.take i)) := ⟨_, Lib.hid rfl⟩
        rw [← hz.out] at hzt ⊢
        by_cases hd : i < qs.length
        · have hdd : decide ((i : Int) < (qs.length : Int)) = true := decide_eq_true (by omega)
          have hi0 : (0 : Int) ≤ (i : Int) := by omega
          have hi1 : (i : Int) < (qs.length : Int) := by omega
          have hwi : IntKind.i64.wrap ((i : Int) + 1) = ((i + 1 : Nat) : Int) := by rw [IntKind.wrap_i64]; omega
          obtain ⟨bk, of_, Aj, cj, rfl, hbk, hcj, hSj⟩ := R1.out.at_ hd
          obtain ⟨p, hp⟩ : ∃ p, Hid (p = qs.getD i []) := ⟨_, Lib.hid rfl⟩
          rw [← hp.out] at hcj hSj
          have hpm : p ∈ qs := by rw [hp.out, List.getD_eq_getElem?_getD, List.getElem?_eq_getElem hd]; exact List.getElem_mem hd
          have hp4 : p.length ≤ 3000 := by have := sz_mem hpm; have := HQ.out; omega
          have T1 : qs.take (i + 1) = qs.take i ++ [p] := by rw [List.take_add_one, hp.out, List.getD_eq_getElem?_getD, List.getElem?_eq_getElem hd]; rfl
          have hzq := sz_take qs (i + 1)
          have hzz : Hid (sz (qs.take (i + 1)) = z + (p.length + 8)) := Lib.hid (by rw [T1, sz_app, hz.out]; simp [sz])
          rw [hzz.out] at hzq
          have T1 := Lib.hid T1
          obtain ⟨l, hl⟩ : ∃ l : Nat, Hid (l = p.length + 8) := ⟨_, Lib.hid rfl⟩
          obtain ⟨m, hm⟩ : ∃ m : Nat, Hid (m = z + l) := ⟨_, Lib.hid rfl⟩
          have hw3 : IntKind.i64.wrap ((p.length : Int) + 8) = (l : Int) := by rw [IntKind.wrap_i64]; have := hl.out; omega
          have hw4 : IntKind.i64.wrap ((z : Int) + (l : Int)) = (m : Int) := by rw [IntKind.wrap_i64]; have := hl.out; have := hm.out; have := HQ.out; omega
          have e3 : decide (16777216 < (m : Int)) = false := decide_eq_false (by have := hl.out; have := hm.out; have := HQ.out; omega)
          have e4 : decide (16777216 < m) = false := decide_eq_false (by have := hl.out; have := hm.out; have := HQ.out; omega)
          clear hzq hzt
          obtain ⟨xs, hxl, hV, hX⟩ := hOw
          obtain ⟨Ao, co, rfl⟩ := hV.slice
          have hxl2 : xs.length ≤ 375 := by rw [hxl, List.length_take]; omega
          obtain ⟨x, hx⟩ : ∃ x, Hid (x = xs.length) := ⟨_, Lib.hid rfl⟩
          rw [← hx.out] at hV
          rw [← hx.out]
          have HV := Lib.hid hV
          have HX := Lib.hid hX
          have HXL := Lib.hid hxl
          have HSJ := Lib.hid hSj
          clear hV hX hxl hSj
          go_wp2_with (first
            | (at_builtin; refine wpList_fresh rfl _ _ rfl w2.heap.size rfl Aj cj p rfl HSJ.out.1 hw0 ?_; intro v3 w3 hO3 hB3; have hV3 := OwnV.below HV.out hB3; have hX3 : ∀ (j : Nat) (u : Value) (p : List Nat), xs[j]? = some u → (qs.take i)[j]? = some p → OwnB w3 w2.heap.size 5 u p ∧ ∀ c ∈ p, c < 256 := (fun j u p h1 h2 => ⟨(HX.out j u p h1 h2).1.below hB3, (HX.out j u p h1 h2).2⟩); have hBw3 := HBF.out.trans (hB3.mono hw0); have hs3 : w2.heap.size ≤ w3.heap.size := hBw3.size; obtain ⟨A3, c3, rfl, _⟩ := hO3.slice (by omega) HSJ.out.1.2.1)
            | (at_builtin; refine wpList_app1V rfl _ _ 27 rfl w2.heap.size 22 (.slice none 0 0) 24 Try.underlying27 info22 rfl (by decide) _ xs rfl hV3 _ (.slice A3 p.length c3) rfl rfl rfl (by omega) hs3 ?_; intro v4 w4 hO4 hg4))
          have hOS4 := OwnS.app HXL.out hV3 hX3 hO3 HSJ.out.1.2.1 hO4 hg4
          have hBw4 := hBw3.grown hg4 hs3 (fun z hz => OwnV.base_ hV3 z hz)
          go_roundw
          case rel => exact ⟨i + 1, by go_num, by omega, by rw [hzz.out]; have := hl.out; have := hm.out; exact val_int (by omega), by rw [T1.out]; exact hOS4, hBw4⟩
          case measure => simp [intOf]; omega
        · have hdd : decide ((i : Int) < (qs.length : Int)) = false := decide_eq_false (by omega)
          obtain rfl : i = qs.length := by omega
          rw [List.take_length] at hOw
          have hz2 : Hid (z = sz qs) := Lib.hid (by have := hz.out; rwa [List.take_length] at this)
          obtain ⟨Ao, co, rfl⟩ := hOw.slice
          have HOW := Lib.hid hOw
          have hb5 := HB2.out.below HBF.out HB2.out.lt
          have HB5 := Lib.hid hb5
          have f3 := hb5.frozen 3
          obtain ⟨_, _, c3, _, _⟩ := jr_cells hb5
          have hb6 : Blk (wr.setCell ⟨g, 3, none⟩ (.slice Ao qs.length co)) g 64 (jrA 1 (.slice Ao qs.length co) s) := hb5.set_ 3 _
          have f4 := hb6.frozen 4
          obtain ⟨_, _, _, c4, _⟩ := jr_cells hb6
          have HB6 := Lib.hid hb6
          clear hb5 hb6 hOw hzt
          go_wp2_with fail
          have HB7 : Hid (Blk ((wr.setCell ⟨g, 3, none⟩ (.slice Ao qs.length co)).setCell ⟨g, 4, none⟩ (.int .i64 (z : Int))) g 64 (jrA 1 (.slice Ao qs.length co) z)) := Lib.hid (HB6.out.set_ 4 _)
          refine leaves_cons (f := 32) (args := #[.pointer (some ⟨g, 0, none⟩)]) (by simp) (by simp [go_sem]) ?_
          refine (unlock_deferred muLib ⟨g, 0, none⟩ .returning _ (jr_cells HB7.out).1 ((HB7.out).frozen 0)).mono ?_
          rintro e u' w'' ⟨rfl, rfl, rfl⟩
          refine ⟨_, results_tmp rfl _ _ _, ?_⟩
          have h31 := H31.out
          have g1 : w.grownBy w1 (some g) := by rw [h31]; exact grown_lock w g _
          have g2 := grown_trans g1 (grown_trans (below_grownBy HBE.out (some g)) (below_grownBy HBF.out (some g)))
          have g3 := grown_trans g2 (grown_set wr g 3 (.slice Ao qs.length co))
          have g4 := grown_trans g3 (grown_set _ g 4 (.int .i64 (z : Int)))
          have g5 := grown_trans g4 (grown_lock _ g (.int .i32 0))
          have hs2 : base ≤ w2.heap.size := by
            have h1 := g1.size
            have h2 := HBE.out.size
            have h3 := hbw
            omega
          have o1 := HOW.out.kept64 HB5.out (grown_set wr g 3 (.slice Ao qs.length co))
          have o2 := o1.kept64 HB6.out (grown_set _ g 4 (.int .i64 (z : Int)))
          have o3 := (o2.kept64 HB7.out (grown_lock _ g (.int .i32 0))).mono hs2
          have hq' := HQ.out
          refine ⟨rfl, ⟨hbg, ⟨by omega, by omega, fun p hp => by have := sz_mem hp; omega⟩, _, ?_, o3⟩, g5⟩
          rw [← hz2.out]
          exact HB7.out.set_ 0 _
end Go.Proofs.Ytfhigppdgfajoaa
