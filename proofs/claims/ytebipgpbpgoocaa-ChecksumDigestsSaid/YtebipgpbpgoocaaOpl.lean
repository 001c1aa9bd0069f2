/- A list of calls: how it comes in, and the walk of light. -/
import Derived.Test.YtebipgpbpgoocaaArg
import Derived.Lib.SmallJoins
import Derived.Deep.Slices
import Derived.OpenShut
namespace Go.Proofs.Ytebipgpbpgoocaa
open Go.RowKit Go.ChangeShapes Go.WideShapes Go.ChangeAt
def IsRow (k : IntKind) (w : World) (a : Option Addr) (len cap : Nat) (zs : List Int) : Prop :=
  (a = none ∧ len = 0 ∧ cap = 0 ∧ zs = []) ∨
  ∃ x : Addr, a = some x ∧ len ≤ cap ∧ cap ≤ maxLen ∧ zs.length = cap ∧ (∀ i, i < zs.length → w.cell? (x.add i) = some (.int k (zs.getD i 0))) ∧ ∀ n ∈ zs, (Lit.int k n).wf = true
structure OpT where
  kind : Nat
  on : Nat
  B : Option Addr
  len : Nat
  cap : Nat
  zs : List Int
/-- a slice of calls in a world -/
def RdO (w : World) (A : Option Addr) (L : List OpT) : Prop :=
  0 < L.length → ∃ bk off : Nat, A = some ⟨bk, off, none⟩ ∧ bk < w.heap.size ∧ ∀ j o, L[j]? = some o →
    w.cell? ⟨bk, off + j * 3, none⟩ = some (.int .u8 (o.kind : Int)) ∧ w.cell? ⟨bk, off + j * 3 + 1, none⟩ = some (.int .u8 (o.on : Int)) ∧ w.cell? ⟨bk, off + j * 3 + 2, none⟩ = some (.slice o.B o.len o.cap) ∧
    IsRow .u8 w o.B o.len o.cap o.zs ∧ o.kind < 256 ∧ o.on < 256
theorem u8_nat {n : Int} (h : (Lit.int .u8 n).wf = true) : ∃ m : Nat, n = m ∧ m < 256 := by
  simp [Lit.wf, IntKind.min, IntKind.max, IntKind.signed, IntKind.bits] at h
  exact ⟨n.toNat, by omega, by omega⟩
theorem open_ops {H : Type} {enc : TypeId × Value → H} {W : World} {base : Nat} {v : Value} {d : DataW H} {p : List MemPlace} (hv : Value.okWide Try.prog W .any base 40 v) (h : DataW.Trod enc Try.prog W 0 (fun _ => true) true 40 v d p) :
    ∃ (A : Option Addr) (L : List OpT) (c : Nat), v = .slice A L.length c ∧ RdO W A L ∧ L.length ≤ 9223372036854775807 := by
  obtain ⟨a1, l1, c1, rfl⟩ := okWide_slice Try.underlying40 hv
  obtain ⟨fuel, hf⟩ := h
  have hc47 : Try.prog.cellsOf 47 = 3 := by kernel_rfl
  rcases Go.Deep.open_slice Try.underlying40 hf with ⟨e2, _⟩ | ⟨a, len, cap, m, n, D, Pl, e2, _, hl, hm, hmm, _, hx⟩
  · simp [Value.cells] at e2
    obtain ⟨rfl, rfl, rfl⟩ := e2
    exact ⟨none, [], 0, rfl, fun h0 => absurd h0 (Nat.not_lt_zero _), by simp⟩
  · simp [Value.cells] at e2
    obtain ⟨rfl, rfl, rfl⟩ := e2
    simp only [if_true] at hmm
    subst hmm
    rw [hc47] at hx
    have hall : ∀ i, i < l1 → ∃ o : OpT, W.cell? (a.add (i * 3)) = some (.int .u8 (o.kind : Int)) ∧ W.cell? (a.add (i * 3 + 1)) = some (.int .u8 (o.on : Int)) ∧ W.cell? (a.add (i * 3 + 2)) = some (.slice o.B o.len o.cap) ∧
        IsRow .u8 W o.B o.len o.cap o.zs ∧ o.kind < 256 ∧ o.on < 256 := fun i hi => by
      obtain ⟨cs, hcs, htr⟩ := hx i (by omega)
      obtain ⟨_, hlen, hcell⟩ := World.cells?_some hcs
      obtain ⟨x0, x1, x2, rfl⟩ : ∃ x0 x1 x2, cs = [x0, x1, x2] := by
        match cs, hlen with
        | [x0, x1, x2], _ => exact ⟨x0, x1, x2, rfl⟩
      have e0 := hcell 0 (by omega)
      have e1 := hcell 1 (by omega)
      have e2 := hcell 2 (by omega)
      rw [Go.Deep.add_add] at e0 e1 e2
      obtain ⟨y0, y1, y2, n', _, _, h0, h1, h2⟩ := Go.Deep.trod_struct3 Try.underlying47 htr
      have hc5 : Try.prog.cellsOf 5 = 1 := by kernel_rfl
      have hc22 : Try.prog.cellsOf 22 = 1 := by kernel_rfl
      simp only [hc5, hc22, List.drop_zero, List.drop_succ_cons, List.take_succ_cons, List.take_zero] at h0 h1 h2
      obtain ⟨z0, q0, _, w0⟩ := DataW.trod_int Try.underlying5 h0
      obtain ⟨z1, q1, _, w1⟩ := DataW.trod_int Try.underlying5 h1
      injection q0 with q0
      injection q1 with q1
      subst q0 q1
      obtain ⟨m0, rfl, b0⟩ := u8_nat w0
      obtain ⟨m1, rfl, b1⟩ := u8_nat w1
      rcases open_ints Try.underlying22 Try.underlying5 hc5 h2 with ⟨hcs2, _⟩ | ⟨x, l, c, zs, hcs2, _, hl2, hm2, hz2, _, hcell2, hwz2⟩
      · injection hcs2 with hcs2
        subst hcs2
        exact ⟨⟨m0, m1, none, 0, 0, []⟩, e0, e1, e2, .inl ⟨rfl, rfl, rfl, rfl⟩, b0, b1⟩
      · injection hcs2 with hcs2
        subst hcs2
        exact ⟨⟨m0, m1, some x, l, c, zs⟩, e0, e1, e2, .inr ⟨x, rfl, hl2, hm2, by simpa using hz2, hcell2, hwz2⟩, b0, b1⟩
    obtain ⟨f, hfo⟩ : ∃ f : Nat → OpT, ∀ i, i < l1 → W.cell? (a.add (i * 3)) = some (.int .u8 ((f i).kind : Int)) ∧ W.cell? (a.add (i * 3 + 1)) = some (.int .u8 ((f i).on : Int)) ∧ W.cell? (a.add (i * 3 + 2)) = some (.slice (f i).B (f i).len (f i).cap) ∧
        IsRow .u8 W (f i).B (f i).len (f i).cap (f i).zs ∧ (f i).kind < 256 ∧ (f i).on < 256 := by
      refine ⟨fun i => if h : i < l1 then (hall i h).choose else ⟨0, 0, none, 0, 0, []⟩, fun i hi => ?_⟩
      simp only [hi, ↓reduceDIte]
      exact (hall i hi).choose_spec
    have hlen : ((List.range l1).map f).length = l1 := by simp
    refine ⟨some a, (List.range l1).map f, _, by rw [hlen], fun h0 => ?_, by rw [hlen]; unfold maxLen at hm; omega⟩
    rw [hlen] at h0
    obtain ⟨bk, off, spot⟩ := a
    have hspot : spot = none := by
      have := World.cell?_spot (hfo 0 h0).1
      rw [Nat.zero_mul] at this
      simpa [Addr.add] using this
    subst hspot
    refine ⟨bk, off, rfl, ?_, fun j o ho => ?_⟩
    · have hblk : ∀ j, ((⟨bk, off, none⟩ : Addr).add j).block = bk := fun j => by unfold Addr.add; split <;> rfl
      have := block_lt_of_cell (hfo 0 h0).1
      rwa [hblk] at this
    · have hj : j < l1 := by
        rcases Nat.lt_or_ge j l1 with h | h
        · exact h
        · rw [List.getElem?_eq_none (by rw [hlen]; exact h)] at ho; cases ho
      rw [List.getElem?_map, List.getElem?_range hj] at ho
      injection ho with ho
      subst ho
      have := hfo j hj
      simp only [Addr.add_lit] at this
      exact this
/-- what light asks -/
def lightB (L : List OpT) : Bool := decide (L.length ≤ 30) && L.all fun o => decide (o.len ≤ 100)
theorem light_all {L : List OpT} (h : lightB L = true) : L.length ≤ 30 ∧ ∀ (j : Nat) (o : OpT), L[j]? = some o → o.len ≤ 100 := by
  unfold lightB at h
  rw [Bool.and_eq_true, decide_eq_true_eq, List.all_eq_true] at h
  exact ⟨h.1, fun j o ho => of_decide_eq_true (h.2 o (List.mem_of_getElem? ho))⟩
theorem light_any (A : Option Addr) (L : List OpT) (c : Nat) (w : World) (hr : RdO w A L) (hl : L.length ≤ 9223372036854775807) :
    Calls Try.prog 24 #[.slice A L.length c] w fun e w' => e = .returned (.bool (lightB L)) ∧ w = w' := by
  have HR := Lib.hid hr
  clear hr
  by_cases hb : 30 < L.length
  · have hd : decide (30 < (L.length : Int)) = true := decide_eq_true (by omega)
    have hd' : decide (30 < L.length) = true := decide_eq_true hb
    have HE := Lib.hid (show lightB L = false from by unfold lightB; rw [decide_eq_false (by omega), Bool.false_and])
    rw [HE.out]
    go_enter Try.func24, Try.ntmps24
    go_wp2
    go_ret
    exact ⟨rfl, rfl⟩
  · have hd : decide (30 < (L.length : Int)) = false := decide_eq_false (by omega)
    have hd' : decide (30 < L.length) = false := decide_eq_false hb
    go_enter Try.func24, Try.ntmps24
    go_wp2_with fail
    go_loopw [3] (fun vi wr => ∃ k : Nat, k ≤ L.length ∧ vi = .int .i64 (k : Int) ∧ (∀ j o, j < k → L[j]? = some o → o.len ≤ 100) ∧ wr = w) (fun vi _ => L.length - (intOf vi).toNat)
    case atStart => exact ⟨0, Nat.zero_le _, rfl, fun j o hj => absurd hj (Nat.not_lt_zero _), rfl⟩
    case round =>
      obtain ⟨k, hk, rfl, hall, rfl⟩ := hrel
      have HA := Lib.hid hall
      clear hall
      by_cases hlt : k < L.length
      · have hdk : decide ((k : Int) < (L.length : Int)) = true := decide_eq_true (by omega)
        obtain ⟨bk, off, rfl, had, hc⟩ := HR.out (by omega)
        obtain ⟨o, ho⟩ : ∃ o, L[k]? = some o := ⟨_, List.getElem?_eq_getElem hlt⟩
        obtain ⟨k0, k1, k2, hrow, _, _⟩ := hc k o ho
        have HO := Lib.hid ho
        have hol : o.len ≤ 9223372036854775807 := by
          rcases hrow with ⟨_, h, _⟩ | ⟨x, _, h1, h2, _⟩
          · omega
          · unfold maxLen at h2; omega
        clear hc ho hrow
        by_cases h100 : 100 < o.len
        · have hx : decide (100 < (o.len : Int)) = true := decide_eq_true (by omega)
          have hx' : decide (100 < o.len) = true := decide_eq_true h100
          have HE := Lib.hid (show lightB L = false from by
            cases hb : lightB L
            · rfl
            · have := (light_all hb).2 k o HO.out; omega)
          go_wp2_with fail
          go_ret
          exact ⟨by rw [HE.out]; rfl, rfl⟩
        · have hx : decide (100 < (o.len : Int)) = false := decide_eq_false (by omega)
          have hx' : decide (100 < o.len) = false := decide_eq_false h100
          go_wp2_with fail
          go_roundw
          case rel => exact ⟨k + 1, by omega, by go_num, fun j o' hj ho' => by
            by_cases hjk : j = k
            · subst hjk
              have := ho'.symm.trans HO.out
              injection this with this
              subst this; omega
            · exact HA.out j o' (by omega) ho', trivial⟩
          case measure => simp [intOf]; omega
      · have hdk : decide ((k : Int) < (L.length : Int)) = false := decide_eq_false (by omega)
        have HE := Lib.hid (show lightB L = true from by
          unfold lightB
          rw [decide_eq_true (by omega), Bool.true_and, List.all_eq_true]
          intro o ho
          obtain ⟨j, hj, e⟩ := List.mem_iff_getElem.1 ho
          exact decide_eq_true (HA.out j o (by omega) (by rw [List.getElem?_eq_getElem hj, e])))
        go_wp2_with fail
        go_ret
        exact ⟨by rw [HE.out]; rfl, rfl⟩
end Go.Proofs.Ytebipgpbpgoocaa
