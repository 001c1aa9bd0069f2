/- A list of calls of a journal: how it comes in. -/
import Derived.Test.YtfhigppdgfajoaaRcp
namespace Go.Proofs.Ytfhigppdgfajoaa
open Go.RowKit Go.ChangeShapes Go.WideShapes Go.ChangeAt
structure ActT where
  kind : Int
  n : Int
  P : ElT
  A : Option Addr
  L : List ElT
  c : Nat
/-- a call in a world -/
def RdT (w : World) (bk off : Nat) (o : ActT) : Prop :=
  bk < w.heap.size ∧ w.cell? ⟨bk, off, none⟩ = some (.int .i64 o.kind) ∧ w.cell? ⟨bk, off + 1, none⟩ = some (.int .i64 o.n) ∧ w.cell? ⟨bk, off + 2, none⟩ = some (.slice o.P.B o.P.len o.P.cap) ∧
    w.cell? ⟨bk, off + 3, none⟩ = some (.slice o.A o.L.length o.c) ∧ ElmB w o.P.B o.P.len o.P.cap ∧ ArgL w o.A o.L ∧ o.L.length ≤ o.c ∧ o.c ≤ 9223372036854775807
theorem RdT.below {w w1 : World} {bk off : Nat} {o : ActT} (h : RdT w bk off o) (hb : Below w.heap.size w w1) : RdT w1 bk off o := by
  obtain ⟨h1, h2, h3, h4, h5, h6, h7, h8⟩ := h
  have := hb.size
  exact ⟨by omega, (hb.cell (by exact h1)).trans h2, (hb.cell (by exact h1)).trans h3, (hb.cell (by exact h1)).trans h4, (hb.cell (by exact h1)).trans h5, h6.below hb, h7.below hb, h8⟩
/-- a slice of calls as it comes in -/
def ArgT (w : World) (A : Option Addr) (L : List ActT) : Prop := ∀ (j : Nat) (o : ActT), L[j]? = some o → ∃ bk off, A = some ⟨bk, off, none⟩ ∧ RdT w bk (off + j * 4) o
theorem ArgT.below {w w1 : World} {A : Option Addr} {L : List ActT} (h : ArgT w A L) (hb : Below w.heap.size w w1) : ArgT w1 A L := fun j o ho => by
  obtain ⟨bk, off, e, hr⟩ := h j o ho
  exact ⟨bk, off, e, hr.below hb⟩
theorem open_argT {H : Type} {enc : TypeId × Value → H} {W : World} {base : Nat} {v : Value} {d : DataW H} {p : List MemPlace} (hv : Value.okWide Try.prog W .any base 43 v) (h : DataW.Trod enc Try.prog W 0 (fun _ => true) true 43 v d p) :
    ∃ (A : Option Addr) (L : List ActT) (c : Nat), v = .slice A L.length c ∧ ArgT W A L ∧ L.length ≤ 9223372036854775807 := by
  obtain ⟨a1, l1, c1, rfl⟩ := okWide_slice Try.underlying43 hv
  obtain ⟨fuel, hf⟩ := h
  have hc45 : Try.prog.cellsOf 45 = 4 := by kernel_rfl
  rcases Go.Deep.open_slice Try.underlying43 hf with ⟨e2, _⟩ | ⟨a, len, cap, m, n, D, Pl, e2, _, hl, hm, hmm, _, hx⟩
  · simp [Value.cells] at e2
    obtain ⟨rfl, rfl, rfl⟩ := e2
    exact ⟨none, [], 0, rfl, fun j o h0 => by simp at h0, by simp⟩
  · simp [Value.cells] at e2
    obtain ⟨rfl, rfl, rfl⟩ := e2
    simp only [if_true] at hmm
    subst hmm
    rw [hc45] at hx
    have hall : ∀ i, i < l1 → ∃ o : ActT, W.cell? (a.add (i * 4)) = some (.int .i64 o.kind) ∧ W.cell? (a.add (i * 4 + 1)) = some (.int .i64 o.n) ∧ W.cell? (a.add (i * 4 + 2)) = some (.slice o.P.B o.P.len o.P.cap) ∧
        W.cell? (a.add (i * 4 + 3)) = some (.slice o.A o.L.length o.c) ∧ ElmB W o.P.B o.P.len o.P.cap ∧ ArgL W o.A o.L ∧ o.L.length ≤ o.c ∧ o.c ≤ 9223372036854775807 := fun i hi => by
      obtain ⟨cs, hcs, htr⟩ := hx i (by omega)
      obtain ⟨_, hlen, hcell⟩ := World.cells?_some hcs
      obtain ⟨x0, x1, x2, x3, rfl⟩ : ∃ x0 x1 x2 x3, cs = [x0, x1, x2, x3] := by
        match cs, hlen with
        | [x0, x1, x2, x3], _ => exact ⟨x0, x1, x2, x3, rfl⟩
      have e0 := hcell 0 (by omega)
      have e1 := hcell 1 (by omega)
      have e2 := hcell 2 (by omega)
      have e3 := hcell 3 (by omega)
      rw [Go.Deep.add_add] at e0 e1 e2 e3
      obtain ⟨y0, y1, y2, y3, n', _, _, h0, h1, h2, h3⟩ := Go.Joins.trod_struct4 Try.underlying45 htr
      have hc3 : Try.prog.cellsOf 3 = 1 := by kernel_rfl
      have hc22 : Try.prog.cellsOf 22 = 1 := by kernel_rfl
      have hc27 : Try.prog.cellsOf 27 = 1 := by kernel_rfl
      simp only [hc3, hc22, hc27, List.drop_zero, List.drop_succ_cons, List.take_succ_cons, List.take_zero] at h0 h1 h2 h3
      obtain ⟨z0, q0, _, w0⟩ := DataW.trod_int Try.underlying3 h0
      obtain ⟨z1, q1, _, w1⟩ := DataW.trod_int Try.underlying3 h1
      injection q0 with q0
      injection q1 with q1
      subst q0 q1
      obtain ⟨B, l, c, q2, hE⟩ := open_elm h2
      injection q2 with q2
      obtain ⟨A3, L3, c3, q3, hL3, hk1, hk2⟩ := open_argL h3
      injection q3 with q3
      subst q2 q3
      exact ⟨⟨z0, z1, ⟨B, l, c⟩, A3, L3, c3⟩, e0, e1, e2, e3, hE, hL3, hk1, hk2⟩
    obtain ⟨f, hfo⟩ : ∃ f : Nat → ActT, ∀ i, i < l1 → W.cell? (a.add (i * 4)) = some (.int .i64 (f i).kind) ∧ W.cell? (a.add (i * 4 + 1)) = some (.int .i64 (f i).n) ∧ W.cell? (a.add (i * 4 + 2)) = some (.slice (f i).P.B (f i).P.len (f i).P.cap) ∧
        W.cell? (a.add (i * 4 + 3)) = some (.slice (f i).A (f i).L.length (f i).c) ∧ ElmB W (f i).P.B (f i).P.len (f i).P.cap ∧ ArgL W (f i).A (f i).L ∧ (f i).L.length ≤ (f i).c ∧ (f i).c ≤ 9223372036854775807 := by
      refine ⟨fun i => if h : i < l1 then (hall i h).choose else ⟨0, 0, ⟨none, 0, 0⟩, none, [], 0⟩, fun i hi => ?_⟩
      simp only [hi, ↓reduceDIte]
      exact (hall i hi).choose_spec
    have hlen : ((List.range l1).map f).length = l1 := by simp
    refine ⟨some a, (List.range l1).map f, _, by rw [hlen], fun j o ho => ?_, by rw [hlen]; unfold maxLen at hm; omega⟩
    obtain ⟨bk, off, spot⟩ := a
    have hj : j < l1 := by
      rcases Nat.lt_or_ge j l1 with h | h
      · exact h
      · rw [List.getElem?_eq_none (by rw [hlen]; exact h)] at ho; cases ho
    have hspot : spot = none := by
      have := World.cell?_spot (hfo 0 (by omega)).1
      rw [Nat.zero_mul] at this
      simpa [Addr.add] using this
    subst hspot
    have ho' : f j = o := by
      rw [List.getElem?_map, List.getElem?_range hj] at ho
      simpa using ho
    subst ho'
    have hf := hfo j hj
    simp only [Addr.add_lit] at hf
    exact ⟨bk, off, rfl, block_lt_of_cell hf.1, hf⟩
/-- the numbers that the totals add up -/
def totT (o : ActT) : Nat := min (sumL o.L) 1048576 + min o.P.len 1048576
def totL : List ActT → Nat
  | [] => 0
  | o :: L => totT o + totL L
theorem totL_take (L : List ActT) (j : Nat) (o : ActT) (h : L[j]? = some o) : totL (L.take (j + 1)) = totL (L.take j) + totT o := by
  induction L generalizing j with
  | nil => simp at h
  | cons a L ih =>
    cases j with
    | zero => simp at h; subst h; simp [totL]
    | succ j =>
      simp at h
      rw [List.take_succ_cons, List.take_succ_cons, totL, totL, ih j h]
      omega
theorem totL_mem {L : List ActT} {o : ActT} (h : o ∈ L) : totT o ≤ totL L := by
  induction L with
  | nil => cases h
  | cons a L ih =>
    rw [totL]
    rcases List.mem_cons.1 h with rfl | h
    · omega
    · have := ih h; omega
/-- a slice of bytes whose block no journal writes to -/
def SlB (w : World) (base : Nat) (A : Option Addr) (p : List Nat) (c : Nat) : Prop := Sl w A p c ∧ ∀ bk off, A = some ⟨bk, off, none⟩ → p = [] ∨ (bk < w.heap.size ∧ (bk < base ∨ ∃ cs, Blk w bk 5 cs))
theorem SlB.frame {w w' : World} {base : Nat} {A : Option Addr} {p : List Nat} {c : Nat} (h : SlB w base A p c) (hs : w.heap.size ≤ w'.heap.size) (key : ∀ bk, bk < w.heap.size → (bk < base ∨ ∃ cs, Blk w bk 5 cs) → w'.heap[bk]? = w.heap[bk]?) : SlB w' base A p c := by
  obtain ⟨⟨hr, hc1, hc2, hsp⟩, hk⟩ := h
  refine ⟨⟨⟨hr.1, hr.2.1, fun h0 => ?_⟩, hc1, hc2, hsp⟩, fun bk off e => ?_⟩
  · obtain ⟨ad, e, hl, hcell⟩ := hr.2.2 h0
    have hb2 : ∃ bk off, ad = ⟨bk, off, none⟩ := by
      rcases hsp with ⟨e1, _⟩ | ⟨bk, off, e1⟩
      · rw [e1] at e; cases e
      · rw [e] at e1; injection e1 with e1; exact ⟨bk, off, e1⟩
    obtain ⟨bk, off, rfl⟩ := hb2
    have hkk := (hk bk off e).resolve_left (fun h => by rw [h] at h0; simp at h0)
    refine ⟨_, e, by omega, fun j hj => ?_⟩
    rw [← hcell j hj]
    have hblk : ((⟨bk, off, none⟩ : Addr).add j).block = bk := by unfold Addr.add; split <;> rfl
    unfold World.cell?
    rw [hblk, key bk hkk.1 hkk.2]
  · rcases hk bk off e with h | h
    · exact .inl h
    · refine .inr ⟨by omega, ?_⟩
      rcases h.2 with h2 | ⟨cs, h2⟩
      · exact .inl h2
      · exact .inr ⟨cs, (key bk h.1 h.2).trans h2⟩
theorem SlB.bt {w w' : World} {base : Nat} {A : Option Addr} {p : List Nat} {c : Nat} (h : SlB w base A p c) (hb : Bt base w w') : SlB w' base A p c :=
  h.frame hb.2.2.2.1 fun bk h1 h2 => hb.2.2.2.2 bk h1 (by
    rcases h2 with h | ⟨cs, h⟩
    · exact .inl h
    · exact .inr ⟨5, cs, h, by decide, by decide⟩)
theorem SlB.set47 {w : World} {base gr : Nat} {A : Option Addr} {p : List Nat} {c : Nat} {cs : Array Value} (h : SlB w base A p c) (hb : Blk w gr 47 cs) (hg : base ≤ gr) (u : Value) : SlB (w.setCell ⟨gr, 0, none⟩ u) base A p c :=
  h.frame (grown_set w gr 0 u).size fun bk h1 h2 => (grown_set w gr 0 u).block bk h1 (by
    intro e
    injection e with e
    subst e
    rcases h2 with h2 | ⟨cs2, h2⟩
    · omega
    · unfold Blk at hb h2
      rw [hb] at h2
      injection h2 with h2
      injection h2 with _ h2 _
      exact absurd h2 (by decide))
theorem Jr.set47 {w : World} {base gr g : Nat} {ps : List (List Nat)} {cs : Array Value} (h : Jr w base g ps) (hb : Blk w gr 47 cs) (u : Value) : Jr (w.setCell ⟨gr, 0, none⟩ u) base g ps := by
  obtain ⟨h1, h2, v, h3, xs, hl, hv, hx⟩ := h
  refine ⟨h1, h2, v, h3.grown_ (grown_set w gr 0 u) ?_, xs, hl, World.ownsRow.kept hv (grown_set w gr 0 u) (ownsRow_ne_blk hv hb (by decide)), fun j u' p k1 k2 => ⟨World.ownsRow.kept (hx j u' p k1 k2).1 (grown_set w gr 0 u) (ownsRow_ne_blk (hx j u' p k1 k2).1 hb (by decide)), (hx j u' p k1 k2).2⟩⟩
  intro e
  injection e with e
  subst e
  unfold Blk at hb h3
  rw [hb] at h3
  injection h3 with h3
  injection h3 with _ h3 _
  exact absurd h3 (by decide)
theorem Jr.bt {w w' : World} {base g : Nat} {ps : List (List Nat)} (h : Jr w base g ps) (hg : w.grownBy w' (some g)) : Bt base w w' := by
  obtain ⟨h1, h2, v, h3, _⟩ := h
  exact Bt.of_grown hg h3 (.inl rfl) h1
theorem Jr.good {w : World} {base g : Nat} {ps : List (List Nat)} (h : Jr w base g ps) : (∀ p ∈ ps, Good p) ∧ ps.length ≤ 65536 := by
  obtain ⟨h1, ⟨h2, h3, h4⟩, v, hb, hO⟩ := h
  obtain ⟨A, c, _, hr⟩ := hO.rds (by omega) (fun p hp => by have := h4 p hp; omega)
  exact ⟨fun p hp => ⟨h4 p hp, hr.bytes p hp⟩, h2⟩
theorem SlB.below {w w' : World} {base : Nat} {A : Option Addr} {p : List Nat} {c : Nat} (h : SlB w base A p c) (hb : Below w.heap.size w w') : SlB w' base A p c := h.bt (Bt.of_below base hb)
theorem SlB.take {w : World} {base : Nat} {A : Option Addr} {p : List Nat} {c : Nat} (h : SlB w base A p c) (n : Nat) : SlB w base A (p.take n) c :=
  ⟨h.1.take n, fun bk off e => by
    rcases h.2 bk off e with h | h
    · exact .inl (by rw [h, List.take_nil])
    · exact .inr h⟩
theorem Sl.slB {w : World} {base : Nat} {A : Option Addr} {p : List Nat} {c : Nat} (h : Sl w A p c) (hb : w.heap.size ≤ base) : SlB w base A p c :=
  ⟨h, fun bk off e => by
    rcases Nat.eq_zero_or_pos p.length with h0 | h0
    · exact .inl (List.eq_nil_of_length_eq_zero h0)
    · obtain ⟨ad, e1, hl, _⟩ := h.1.2.2 h0
      rw [e] at e1
      injection e1 with e1
      subst e1
      have hl : bk < w.heap.size := hl
      exact .inr ⟨hl, .inl (by omega)⟩⟩
theorem OwnB.slB {w : World} {base b : Nat} {v : Value} {p : List Nat} (h : OwnB w b 5 v p) (hp : p.length ≤ 140737488351232) (hb : ∀ c ∈ p, c < 256) : ∃ A c, v = .slice A p.length c ∧ SlB w base A p c := by
  obtain ⟨A, c, e, hs⟩ := h.sl hp hb
  refine ⟨A, c, e, hs, fun bk off e1 => ?_⟩
  rcases h.2 with ⟨e2, h0⟩ | ⟨g, cap, cur, e2, hg, hcur, _⟩
  · exact .inl (List.eq_nil_of_length_eq_zero h0)
  · rw [e] at e2
    injection e2 with e2
    rw [e1] at e2
    injection e2 with e2
    injection e2 with e2
    subst e2
    have hB : Blk w bk 5 cur := hcur
    exact .inr ⟨hB.lt, .inr ⟨cur, hB⟩⟩
/-- what the reference answers, in the journal's own words -/
theorem rt_tr {ps : List (List Nat)} (hg : ∀ p ∈ ps, Good p) (hl : ps.length ≤ 65536) (n : Int) : rtE (encs ps) n = trE ps n ∧ rtN (encs ps) n = (encs (trS ps n)).length ∧ (encs ps).take (rtN (encs ps) n) = encs (trS ps n) := by
  unfold rtE rtN trE trS
  rw [encs_len]
  refine ⟨rfl, ?_⟩
  by_cases h : n < 0 ∨ (sz ps : Int) < n
  · rw [if_pos h, if_pos h, encs_len]
    exact ⟨rfl, by rw [← encs_len, List.take_length]⟩
  · rw [if_neg h, if_neg h, rcv_cut hl hg, encs_len]
    exact ⟨rfl, encs_keep _ _⟩
theorem tr_mem {ps : List (List Nat)} {n : Int} : ∀ p ∈ trS ps n, p ∈ ps := fun p hp => by
  unfold trS at hp
  split at hp
  · exact hp
  · exact keep_mem p hp
theorem keep_le : ∀ (ps : List (List Nat)) (m : Nat), sz (keep m ps) ≤ sz ps
  | [], m => by simp [keep, sz]
  | p :: ps, m => by
    rw [keep]
    split
    · have := keep_le ps (m - (p.length + 8)); simp only [sz]; omega
    · simp [sz]
theorem tr_sz (ps : List (List Nat)) (n : Int) : sz (trS ps n) ≤ sz ps := by
  unfold trS
  split
  · exact Nat.le_refl _
  · exact keep_le _ _
end Go.Proofs.Ytfhigppdgfajoaa
