/- An argument that is a slice of slices of bytes; the walks of size and written. -/
import Derived.Test.YtfhigppdgfajoaaNob
namespace Go.Proofs.Ytfhigppdgfajoaa
open Go.RowKit Go.ChangeShapes Go.WideShapes Go.ChangeAt
structure ElT where
  B : Option Addr
  len : Nat
  cap : Nat
/-- a slice of slices of bytes as it comes in -/
def ArgL (w : World) (A : Option Addr) (L : List ElT) : Prop :=
  ∀ (j : Nat) (o : ElT), L[j]? = some o → ∃ bk off, A = some ⟨bk, off, none⟩ ∧ bk < w.heap.size ∧ w.cell? ⟨bk, off + j, none⟩ = some (.slice o.B o.len o.cap) ∧ ElmB w o.B o.len o.cap
theorem ArgL.below {w w1 : World} {A : Option Addr} {L : List ElT} (h : ArgL w A L) (hb : Below w.heap.size w w1) : ArgL w1 A L := fun j o ho => by
  obtain ⟨bk, off, e, hl, hc, hE⟩ := h j o ho
  have := hb.size
  exact ⟨bk, off, e, by omega, (hb.cell (by exact hl)).trans hc, hE.below hb⟩
theorem open_argL {H : Type} {enc : TypeId × Value → H} {W : World} {fuel : Nat} {cs : List Value} {x : DataW H × List MemPlace} (h : DataW.trod enc Try.prog W 0 (fun _ => true) true fuel 27 cs = some x) :
    ∃ A L c, cs = [.slice A (L : List ElT).length c] ∧ ArgL W A L ∧ L.length ≤ c ∧ c ≤ 9223372036854775807 := by
  have hc22 : Try.prog.cellsOf 22 = 1 := by kernel_rfl
  rcases Go.Deep.open_slice1 Try.underlying27 hc22 h with ⟨e, _⟩ | ⟨a, len, cap, m, n, V, D, Pl, e, _, hl, hm, hmm, _, hx⟩
  · exact ⟨none, [], 0, e, fun j o ho => by simp at ho, by simp, by simp⟩
  · simp only [if_true] at hmm
    subst hmm
    have hall : ∀ i, i < len → ∃ o : ElT, W.cell? (a.add i) = some (.slice o.B o.len o.cap) ∧ ElmB W o.B o.len o.cap := fun i hi => by
      obtain ⟨h1, h2⟩ := hx i (by omega)
      obtain ⟨B, l, c, e2, hE⟩ := open_elm h2
      injection e2 with e2
      rw [e2] at h1
      exact ⟨⟨B, l, c⟩, h1, hE⟩
    obtain ⟨f, hf⟩ : ∃ f : Nat → ElT, ∀ i, i < len → W.cell? (a.add i) = some (.slice (f i).B (f i).len (f i).cap) ∧ ElmB W (f i).B (f i).len (f i).cap := by
      refine ⟨fun i => if h : i < len then (hall i h).choose else ⟨none, 0, 0⟩, fun i hi => ?_⟩
      simp only [hi, ↓reduceDIte]
      exact (hall i hi).choose_spec
    have hlen : ((List.range len).map f).length = len := by simp
    refine ⟨some a, (List.range len).map f, m, by rw [hlen]; exact e, fun j o ho => ?_, by omega, by unfold maxLen at hm; omega⟩
    have hj : j < len := by
      rcases Nat.lt_or_ge j len with h | h
      · exact h
      · rw [List.getElem?_eq_none (by rw [hlen]; exact h)] at ho; cases ho
    have ho' : f j = o := by
      rw [List.getElem?_map, List.getElem?_range hj] at ho
      simpa using ho
    subst ho'
    obtain ⟨h1, h2⟩ := hf j hj
    obtain ⟨bk, off, spot⟩ := a
    have hspot : spot = none := by
      have := World.cell?_spot (hf 0 (by omega)).1
      simpa [Addr.add] using this
    subst hspot
    rw [Addr.add_lit] at h1
    exact ⟨bk, off, rfl, block_lt_of_cell h1, h1, h2⟩
/-- the bytes of contents, and 8 for each -/
def sumL : List ElT → Nat
  | [] => 0
  | o :: L => o.len + 8 + sumL L
theorem sumL_mem {L : List ElT} {o : ElT} (h : o ∈ L) : o.len ≤ sumL L := by
  induction L with
  | nil => cases h
  | cons a L ih =>
    rw [sumL]
    rcases List.mem_cons.1 h with rfl | h
    · omega
    · have := ih h; omega
theorem sumL_take (L : List ElT) (j : Nat) (o : ElT) (h : L[j]? = some o) : sumL (L.take (j + 1)) = sumL (L.take j) + (o.len + 8) := by
  induction L generalizing j with
  | nil => simp at h
  | cons a L ih =>
    cases j with
    | zero => simp at h; subst h; simp [sumL]
    | succ j =>
      simp at h
      rw [List.take_succ_cons, List.take_succ_cons, sumL, sumL, ih j h]
      omega
theorem argL_rds {w : World} {A : Option Addr} {L : List ElT} (h : ArgL w A L) (hn : L.length ≤ 140737488351232) (hl : ∀ o ∈ L, o.len ≤ 140737488351232) :
    ∃ ps : List (List Nat), ps.length = L.length ∧ RdS w A ps ∧ sz ps = sumL L ∧ ∀ j, (ps.getD j []).length = (L.getD j ⟨none, 0, 0⟩).len := by
  have hall : ∀ i, i < L.length → ∃ p : List Nat, p.length = (L.getD i ⟨none, 0, 0⟩).len ∧ Rd w (L.getD i ⟨none, 0, 0⟩).B p := fun i hi => by
    have ho : L[i]? = some (L.getD i ⟨none, 0, 0⟩) := by rw [List.getD_eq_getElem?_getD, List.getElem?_eq_getElem hi]; rfl
    obtain ⟨bk, off, e, hb, hc, hE⟩ := h i _ ho
    exact hE.2.2 (hl _ (List.mem_of_getElem? ho))
  obtain ⟨f, hf⟩ : ∃ f : Nat → List Nat, ∀ i, i < L.length → (f i).length = (L.getD i ⟨none, 0, 0⟩).len ∧ Rd w (L.getD i ⟨none, 0, 0⟩).B (f i) := by
    refine ⟨fun i => if h : i < L.length then (hall i h).choose else [], fun i hi => ?_⟩
    simp only [hi, ↓reduceDIte]
    exact (hall i hi).choose_spec
  have hlen : ((List.range L.length).map f).length = L.length := by simp
  have hget : ∀ j, j < L.length → ((List.range L.length).map f).getD j [] = f j := fun j hj => by
    simp [List.getD_eq_getElem?_getD, List.getElem?_range hj]
  have hlens : ∀ j, (((List.range L.length).map f).getD j []).length = (L.getD j ⟨none, 0, 0⟩).len := fun j => by
    rcases Nat.lt_or_ge j L.length with hj | hj
    · rw [hget j hj]; exact (hf j hj).1
    · rw [List.getD_eq_getElem?_getD, List.getElem?_eq_none (by rw [hlen]; exact hj), List.getD_eq_getElem?_getD, List.getElem?_eq_none hj]; rfl
  refine ⟨(List.range L.length).map f, hlen, ⟨by rw [hlen]; exact hn, fun j p hp => ?_⟩, ?_, hlens⟩
  · have hj : j < L.length := by
      rcases Nat.lt_or_ge j L.length with h | h
      · exact h
      · rw [List.getElem?_eq_none (by rw [hlen]; exact h)] at hp; cases hp
    have hp' : f j = p := by
      rw [List.getElem?_map, List.getElem?_range hj] at hp
      simpa using hp
    subst hp'
    have ho : L[j]? = some (L.getD j ⟨none, 0, 0⟩) := by rw [List.getD_eq_getElem?_getD, List.getElem?_eq_getElem hj]; rfl
    obtain ⟨bk, off, e, hb, hc, hE⟩ := h j _ ho
    exact ⟨bk, off, _, _, e, hb, by rw [(hf j hj).1]; exact hc, (hf j hj).2, by rw [(hf j hj).1]; exact hE.1⟩
  · have key : ∀ (ps : List (List Nat)) (L : List ElT), ps.length = L.length → (∀ j, (ps.getD j []).length = (L.getD j ⟨none, 0, 0⟩).len) → sz ps = sumL L := by
      intro ps
      induction ps with
      | nil =>
        intro L hl _
        cases L with
        | nil => rfl
        | cons => simp at hl
      | cons p ps ih =>
        intro L hl hj
        cases L with
        | nil => simp at hl
        | cons o L =>
          have h0 := hj 0
          simp only [List.getD_cons_zero] at h0
          rw [sz, sumL, h0, ih L (by simpa using hl) (fun j => by have := hj (j + 1); simpa only [List.getD_cons_succ] using this)]
    exact key _ _ hlen hlens
set_option maxRecDepth 100000 in
set_option maxHeartbeats 2000000 in
theorem size_any (A : Option Addr) (L : List ElT) (c : Nat) (w : World) (h : ArgL w A L) (hc : L.length ≤ 9223372036854775807) :
    Calls Try.prog 14 #[.slice A L.length c] w fun e w' => e = .returned (.int .i64 ((min (sumL L) 1048576 : Nat) : Int)) ∧ Below w.heap.size w w' := by
  have HA := Lib.hid h
  clear h
  go_enter Try.func14, Try.ntmps14
  go_wp2_with fail
  go_loopw [3, 7] (fun vn vi wr => ∃ i : Nat, i ≤ L.length ∧ vi = .int .i64 (i : Int) ∧ vn = .int .i64 ((min (sumL (L.take i)) 1048576 : Nat) : Int) ∧ Below w.heap.size w wr) (fun _ vi _ => L.length - (intOf vi).toNat)
  case atStart => exact ⟨0, Nat.zero_le _, rfl, by simp [sumL], Below.refl _ _⟩
  case round =>
    obtain ⟨i, hi, rfl, rfl, hB⟩ := hrel
    have HB := Lib.hid hB
    have HA2 := Lib.hid (HA.out.below hB)
    clear hB
    obtain ⟨n, hn⟩ : ∃ n, Hid (n = min (sumL (L.take i)) 1048576) := ⟨_, Lib.hid rfl⟩
    rw [← hn.out]
    have hn1 : n ≤ 1048576 := by have := hn.out; omega
    by_cases hd : i < L.length
    · have hdd : decide ((i : Int) < (L.length : Int)) = true := decide_eq_true (by omega)
      have hi0 : (0 : Int) ≤ (i : Int) := by omega
      have hi1 : (i : Int) < (L.length : Int) := by omega
      have hwi : IntKind.i64.wrap ((i : Int) + 1) = ((i + 1 : Nat) : Int) := by rw [IntKind.wrap_i64]; omega
      have ho : L[i]? = some (L.getD i ⟨none, 0, 0⟩) := by rw [List.getD_eq_getElem?_getD, List.getElem?_eq_getElem hd]; rfl
      have hst := sumL_take L i _ ho
      obtain ⟨bk, off, rfl, hb, hcl, hE⟩ := HA2.out i _ ho
      generalize L.getD i ⟨none, 0, 0⟩ = o at *
      obtain ⟨B, l, cp⟩ := o
      obtain ⟨he1, he2, _⟩ := hE
      simp only at hcl he1 he2 hst
      have HST := Lib.hid hst
      have hw1 : IntKind.i64.wrap ((n : Int) + 8) = ((n + 8 : Nat) : Int) := by rw [IntKind.wrap_i64]; omega
      obtain ⟨n8, hn8⟩ : ∃ n8 : Nat, Hid (n8 = n + 8) := ⟨_, Lib.hid rfl⟩
      rw [← hn8.out] at hw1
      clear hst ho
      by_cases hlb : (1048576 : Int) < (l : Int)
      · obtain ⟨t, ht⟩ : ∃ t : Nat, Hid (t = n8 + 1048576) := ⟨_, Lib.hid rfl⟩
        have hw2 : IntKind.i64.wrap ((n8 : Int) + 1048576) = (t : Int) := by rw [IntKind.wrap_i64]; have := ht.out; have := hn8.out; omega
        by_cases htb : (1048576 : Int) < (t : Int)
        · go_wp2_with fail
          go_roundw
          case rel => exact ⟨i + 1, by omega, by go_num, by rw [HST.out, Nat.min_eq_right (by have := ht.out; have := hn8.out; have := hn.out; omega)]; simp, HB.out⟩
          case measure => simp [intOf]; omega
        · go_wp2_with fail
          go_roundw
          case rel => exact ⟨i + 1, by omega, by go_num, by rw [HST.out, show min (sumL (L.take i) + (l + 8)) 1048576 = t from (Nat.min_eq_left (by have := ht.out; have := hn8.out; have := hn.out; omega)).trans (by have := ht.out; have := hn8.out; have := hn.out; omega)], HB.out⟩
          case measure => simp [intOf]; omega
      · obtain ⟨t, ht⟩ : ∃ t : Nat, Hid (t = n8 + l) := ⟨_, Lib.hid rfl⟩
        have hw2 : IntKind.i64.wrap ((n8 : Int) + (l : Int)) = (t : Int) := by rw [IntKind.wrap_i64]; have := ht.out; have := hn8.out; omega
        by_cases htb : (1048576 : Int) < (t : Int)
        · go_wp2_with fail
          go_roundw
          case rel => exact ⟨i + 1, by omega, by go_num, by rw [HST.out, Nat.min_eq_right (by have := ht.out; have := hn8.out; have := hn.out; omega)]; simp, HB.out⟩
          case measure => simp [intOf]; omega
        · go_wp2_with fail
          go_roundw
          case rel => exact ⟨i + 1, by omega, by go_num, by rw [HST.out, show min (sumL (L.take i) + (l + 8)) 1048576 = t from (Nat.min_eq_left (by have := ht.out; have := hn8.out; have := hn.out; omega)).trans (by have := ht.out; have := hn8.out; have := hn.out; omega)], HB.out⟩
          case measure => simp [intOf]; omega
    · have hdd : decide ((i : Int) < (L.length : Int)) = false := decide_eq_false (by omega)
      obtain rfl : i = L.length := by omega
      go_wp2_with fail
      go_ret
      exact ⟨by have := hn.out; rw [List.take_length] at this; rw [this]; rfl, HB.out⟩
end Go.Proofs.Ytfhigppdgfajoaa
