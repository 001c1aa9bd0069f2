/- Slices of slices of bytes that are read; the walk of the reference's Same. -/
import Derived.Test.YtfhigppdgfajoaaRrc
import Derived.Laws.IdiomStrings
import Derived.Laws.Strings
import Derived.Lib.BufferRead
namespace Go.Proofs.Ytfhigppdgfajoaa
open Go.RowKit
/-- the string of bytes -/
def strN (p : List Nat) : ByteArray := ⟨(p.map UInt8.ofNat).toArray⟩
theorem strN_inj {p q : List Nat} (hp : ∀ c ∈ p, c < 256) (hq : ∀ c ∈ q, c < 256) : (strN p).toList = (strN q).toList ↔ p = q := by
  unfold strN
  rw [ByteArray.toList_mk, ByteArray.toList_mk]
  constructor
  · intro h
    have h2 := congrArg (List.map UInt8.toNat) h
    rw [List.map_map, List.map_map] at h2
    have key : ∀ l : List Nat, (∀ c ∈ l, c < 256) → l.map (UInt8.toNat ∘ UInt8.ofNat) = l := by
      intro l hl
      conv => rhs; rw [← List.map_id l]
      refine List.map_congr_left fun c hc => ?_
      have := hl c hc
      simp [Function.comp, UInt8.toNat_ofNat']
      omega
    rwa [key p hp, key q hq] at h2
  · rintro rfl; rfl
theorem run_conv {w : World} {A : Option Addr} {p : List Nat} (h : Rd w A p) (cap : Nat) : (convert 22 9 (.slice A p.length cap)).run Try.prog w = .ok (.string (strN p)) w := by
  have hs : Try.prog.underlying 22 = some (.slice 5) := by kernel_rfl
  have he : Try.prog.underlying 5 = some (.int .u8) := by kernel_rfl
  have hd : Try.prog.underlying 9 = some .string := by kernel_rfl
  cases A with
  | none =>
    have h0 : p = [] := by
      rcases Nat.eq_zero_or_pos p.length with h0 | h0
      · exact List.length_eq_zero_iff.1 h0
      · obtain ⟨ad, e, _⟩ := h.2.2 h0
        cases e
    subst h0
    exact Go.Lib.run_convert_nil_bytes w 22 9 5 cap hs he hd
  | some a =>
    have := run_convert_bytes_back (P := Try.prog) w 22 9 5 a cap (p.map UInt8.ofNat) hs he hd ?_
    · rw [List.length_map] at this
      exact this
    · intro j hj
      rw [List.length_map] at hj
      obtain ⟨ad, e, hc, hb⟩ := h.at_ hj
      injection e with e
      subst e
      rw [hc, List.getElem_map]
      have hb' : p[j] < 256 := h.2.1 _ (List.getElem_mem hj)
      rw [List.getD_eq_getElem?_getD, List.getElem?_eq_getElem hj, Option.getD_some, UInt8.toNat_ofNat', Nat.mod_eq_of_lt hb']
/-- A slice of slices of bytes that is read. -/
def RdS (w : World) (A : Option Addr) (ps : List (List Nat)) : Prop :=
  ps.length ≤ 140737488351232 ∧ ∀ (j : Nat) (p : List Nat), ps[j]? = some p → ∃ bk off Aj cj, A = some ⟨bk, off, none⟩ ∧ bk < w.heap.size ∧ w.cell? ⟨bk, off + j, none⟩ = some (.slice Aj p.length cj) ∧ Rd w Aj p ∧ p.length ≤ cj
theorem RdS.below {w w1 : World} {A : Option Addr} {ps : List (List Nat)} {B : Nat} (h : RdS w A ps) (hb : Below B w w1) (hB : w.heap.size ≤ B) : RdS w1 A ps :=
  ⟨h.1, fun j p hp => by
    obtain ⟨bk, off, Aj, cj, e, hl, hc, hs⟩ := h.2 j p hp
    have := hb.size
    exact ⟨bk, off, Aj, cj, e, by omega, (hb.cell (by show bk < B; omega)).trans hc, ⟨hs.1.below hb hB, hs.2⟩⟩⟩
theorem RdS.nil (w : World) (A : Option Addr) : RdS w A [] := ⟨by simp, fun j p h => by simp at h⟩
theorem OwnB.sl {w : World} {base : Nat} {v : Value} {p : List Nat} (h : OwnB w base 5 v p) (hp : p.length ≤ 140737488351232) (hb : ∀ c ∈ p, c < 256) : ∃ A c, v = .slice A p.length c ∧ Sl w A p c := by
  have h' := h
  obtain ⟨A, c, rfl, hr⟩ := h.slice hp hb
  refine ⟨A, c, rfl, hr, ?_⟩
  rcases h'.2 with ⟨e, h0⟩ | ⟨g, cap, cur, e, _, _, h1, h2, _⟩
  · injection e with e1 e2 e3
    subst e1 e3
    have : p = [] := List.length_eq_zero_iff.1 h0
    subst this
    exact ⟨by simp, by simp, .inl ⟨rfl, rfl, rfl⟩⟩
  · injection e with e1 e2 e3
    subst e1 e3
    exact ⟨h1, by unfold maxLen at h2; omega, .inr ⟨g, 0, rfl⟩⟩
theorem OwnS.rds {w : World} {base : Nat} {v : Value} {ps : List (List Nat)} (h : OwnS w base v ps) (hn : ps.length ≤ 140737488351232) (hp : ∀ p ∈ ps, p.length ≤ 140737488351232) : ∃ A c, v = .slice A ps.length c ∧ RdS w A ps := by
  obtain ⟨xs, hl, hv, hx⟩ := h
  rcases hv.2 with ⟨rfl, h0⟩ | ⟨g, cap, cur, rfl, _, hg, h1, h2, hs, ht⟩
  · have : ps = [] := List.length_eq_zero_iff.1 (by omega)
    subst this
    exact ⟨none, 0, rfl, RdS.nil _ _⟩
  · rw [Nat.mul_one] at hs ht
    refine ⟨_, cap, by rw [hl], hn, fun j p hj => ?_⟩
    have hjl : j < ps.length := by
      rcases Nat.lt_or_ge j ps.length with h | h
      · exact h
      · rw [List.getElem?_eq_none h] at hj; cases hj
    have hu : xs[j]? = some (xs[j]'(by omega)) := List.getElem?_eq_getElem (by omega)
    obtain ⟨hO, hb⟩ := hx j _ p hu hj
    obtain ⟨A, c, e, hS⟩ := hO.sl (hp p (List.mem_of_getElem? hj)) hb
    rw [e] at hu
    have hb' : Blk w g 22 cur := hg
    refine ⟨g, 0, A, c, rfl, hb'.lt, ?_, hS.1, hS.2.1⟩
    rw [Nat.zero_add, hb'.cell j]
    rw [← ht, List.getElem?_take] at hu
    split at hu
    · simpa using hu
    · cases hu
theorem RdS.bytes {w : World} {A : Option Addr} {ps : List (List Nat)} (h : RdS w A ps) : ∀ p ∈ ps, ∀ c ∈ p, c < 256 := by
  intro p hp c hc
  obtain ⟨j, hj⟩ := List.getElem?_of_mem hp
  obtain ⟨_, _, _, _, _, _, _, hS⟩ := h.2 j p hj
  exact hS.1.2.1 c hc
theorem RdS.at_ {w : World} {A : Option Addr} {ps : List (List Nat)} (h : RdS w A ps) {j : Nat} (hj : j < ps.length) : ∃ bk off Aj cj, A = some ⟨bk, off, none⟩ ∧ bk < w.heap.size ∧ w.cell? ⟨bk, off + j, none⟩ = some (.slice Aj (ps.getD j []).length cj) ∧ Rd w Aj (ps.getD j []) ∧ (ps.getD j []).length ≤ cj := by
  have h1 : ps[j]? = some (ps.getD j []) := by rw [List.getD_eq_getElem?_getD, List.getElem?_eq_getElem hj]; rfl
  exact h.2 j _ h1
set_option maxRecDepth 100000 in
set_option maxHeartbeats 2000000 in
theorem same_any (A B : Option Addr) (ps qs : List (List Nat)) (c d : Nat) (w : World) (h1 : RdS w A ps) (h2 : RdS w B qs) :
    Calls Try.prog 13 #[.slice A ps.length c, .slice B qs.length d] w fun e w' => e = .returned (.bool (decide (ps = qs))) ∧ Below w.heap.size w w' := by
  have H1 := Lib.hid h1
  have H2 := Lib.hid h2
  have hl1 := h1.1
  have hl2 := h2.1
  clear h1 h2
  by_cases hlen : ps.length = qs.length
  · have hne : ((ps.length : Int) != (qs.length : Int)) = false := by rw [bne_eq_false_iff_eq]; omega
    have HL := Lib.hid hlen
    clear hlen
    go_enter Try.func13, Try.ntmps13
    go_wp2_with fail
    go_loopw [5] (fun va wr => ∃ (i : Nat), va = .int .i64 (i : Int) ∧ i ≤ ps.length ∧ ps.take i = qs.take i ∧ Below w.heap.size w wr) (fun va _ => ps.length - (intOf va).toNat)
    case atStart => exact ⟨0, rfl, Nat.zero_le _, rfl, Below.refl _ _⟩
    case round =>
      obtain ⟨i, rfl, hi, heq, hB⟩ := hrel
      have HEQ := Lib.hid heq
      have HB := Lib.hid hB
      have hw0 := hB.size
      have R1 := Lib.hid (H1.out.below hB (Nat.le_refl _))
      have R2 := Lib.hid (H2.out.below hB (Nat.le_refl _))
      clear hB heq
      by_cases hd : i < ps.length
      · have hdd : decide ((i : Int) < (ps.length : Int)) = true := decide_eq_true (by omega)
        have hi0 : (0 : Int) ≤ (i : Int) := by omega
        have hi1 : (i : Int) < (ps.length : Int) := by omega
        have hi2 : (i : Int) < (qs.length : Int) := by have := HL.out; omega
        have hi3 : i < qs.length := by have := HL.out; omega
        obtain ⟨b1, o1, A1, c1, rfl, hb1, hc1, hS1⟩ := R1.out.at_ hd
        obtain ⟨b2, o2, A2, c2, rfl, hb2, hc2, hS2⟩ := R2.out.at_ hi3
        obtain ⟨p, hp⟩ : ∃ p, Hid (p = ps.getD i []) := ⟨_, Lib.hid rfl⟩
        obtain ⟨q, hq⟩ : ∃ q, Hid (q = qs.getD i []) := ⟨_, Lib.hid rfl⟩
        rw [← hp.out] at hc1 hS1
        rw [← hq.out] at hc2 hS2
        have S1 := Lib.hid hS1
        have S2 := Lib.hid hS2
        have C1 := Lib.hid hc1
        have C2 := Lib.hid hc2
        clear hS1 hS2 hc1 hc2
        have hinj := strN_inj S1.out.1.2.1 S2.out.1.2.1
        have hwi : IntKind.i64.wrap ((i : Int) + 1) = ((i + 1 : Nat) : Int) := by rw [IntKind.wrap_i64]; omega
        have T1 : ps.take (i + 1) = ps.take i ++ [p] := by rw [List.take_add_one, hp.out, List.getD_eq_getElem?_getD, List.getElem?_eq_getElem hd]; rfl
        have T2 : qs.take (i + 1) = qs.take i ++ [q] := by rw [List.take_add_one, hq.out, List.getD_eq_getElem?_getD, List.getElem?_eq_getElem hi3]; rfl
        have T1 := Lib.hid T1
        have T2 := Lib.hid T2
        obtain ⟨sp, hsp⟩ : ∃ sp, Hid (sp = strN p) := ⟨_, Lib.hid rfl⟩
        obtain ⟨sq, hsq⟩ : ∃ sq, Hid (sq = strN q) := ⟨_, Lib.hid rfl⟩
        rw [← hsp.out, ← hsq.out] at hinj
        have HI := Lib.hid hinj
        clear hinj
        go_wp2_with fail
        have hBC : Below wr.heap.size wr wr.drew := (Below.refl _ _).drew
        refine wp_region_seq (S := fun w' => Below wr.heap.size wr w') 10 [(0, true), (1, true), (2, true), (3, true), (4, true), (5, true), (6, true), (7, true), (8, true), (9, true)] (by kernel_rfl) rfl (by kernel_rfl) hBC ?_
        generalize wr.drew = wd at hBC ⊢
        simp only [List.map_cons, List.map_nil, List.getD_cons_succ, List.getD_cons_zero, List.drop_succ_cons, List.drop_zero]
        iterate 10
          refine wpSeq_take (v := ?_) (by rfl) ?_ ?_
          rotate_left
          · intro w' hw'
            have k1 := (hw'.cell (p := ⟨b1, o1 + i, none⟩) hb1).trans C1.out
            have k2 := (hw'.cell (p := ⟨b2, o2 + i, none⟩) hb2).trans C2.out
            have k3 := run_conv (S1.out.1.below hw' (Nat.le_refl _)) c1
            have k4 := run_conv (S2.out.1.below hw' (Nat.le_refl _)) c2
            rw [← hsp.out] at k3
            rw [← hsq.out] at k4
            clear hw'
            go_simp
            try with_reducible rfl
          simp only [Act.put, List.setIfInBounds_toArray, List.set_cons_zero, List.set_cons_succ]
        refine wpSeq_nil ?_
        have HB2 := Lib.hid (HB.out.trans (hBC.mono hw0))
        clear hBC
        by_cases hpq : p = q
        · have hss : (sp.toList == sq.toList) = true := by rw [beq_iff_eq]; exact HI.out.2 hpq
          go_wp2_with fail
          refine NoPanic.normal ?_
          go_wp2_with fail
          go_roundw
          case rel =>
            exact ⟨i + 1, by go_num, by omega, by rw [T1.out, T2.out, HEQ.out, hpq], HB2.out⟩
          case measure => simp [intOf]; omega
        · have hss : (sp.toList == sq.toList) = false := by rw [beq_eq_false_iff_ne]; exact fun h => hpq (HI.out.1 h)
          go_wp2_with fail
          refine NoPanic.normal ?_
          have hnn : ps ≠ qs := by
            intro h
            apply hpq
            rw [hp.out, hq.out, h]
          go_wp2_with fail
          go_ret
          exact ⟨by rw [decide_eq_false hnn]; rfl, HB2.out⟩
      · have hdd : decide ((i : Int) < (ps.length : Int)) = false := decide_eq_false (by omega)
        have hpp : ps = qs := by
          have := HEQ.out
          have h3 := HL.out
          rwa [List.take_of_length_le (by omega), List.take_of_length_le (by omega)] at this
        have HPP := Lib.hid hpp
        clear hpp
        go_wp2_with fail
        go_ret
        exact ⟨by rw [decide_eq_true HPP.out]; rfl, HB.out⟩
  · have hne : ((ps.length : Int) != (qs.length : Int)) = true := by rw [bne_iff_ne]; omega
    have hnn : ps ≠ qs := fun h => hlen (by rw [h])
    go_enter Try.func13, Try.ntmps13
    go_wp2_with fail
    go_ret
    exact ⟨by rw [decide_eq_false hnn]; rfl, Below.refl _ _⟩
end Go.Proofs.Ytfhigppdgfajoaa
