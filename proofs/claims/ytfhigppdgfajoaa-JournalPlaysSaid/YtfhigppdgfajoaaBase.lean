/- Small laws for the walks of this seat: a whole array in a block, a slice of bytes that is read. -/
import Derived.Below
import Derived.Deep.Draws
import Derived.OwnWalk
import Derived.Tactics
import Derived.WalkKit
import Derived.KernelRfl
import Derived.Laws.Rows
import Derived.Laws.AppendOwn
import Derived.Deep.OwnRows
namespace Go.Proofs.Ytfhigppdgfajoaa
open Go.RowKit

theorem ret_int {k : IntKind} {a b : Int} (h : a = b) : Ending.returned (.int k a) = .returned (.int k b) := by rw [h]
theorem val_int {k : IntKind} {a b : Int} (h : a = b) : Value.int k a = .int k b := by rw [h]

/-- A block known whole: cells of type t, none frozen. -/
def Blk (w : World) (g : Nat) (t : TypeId) (cs : Array Value) : Prop := w.heap[g]? = some (.cells cs t (0, 0))
section
variable {w w' : World} {g : Nat} {t : TypeId} {cs : Array Value}
theorem Blk.lt (h : Blk w g t cs) : g < w.heap.size := by
  rcases Nat.lt_or_ge g w.heap.size with hlt | hge
  · exact hlt
  · unfold Blk at h; rw [Array.getElem?_eq_none hge] at h; cases h
theorem Blk.cell (h : Blk w g t cs) (i : Nat) : w.cell? ⟨g, i, none⟩ = cs[i]? := cell_of_row w g i cs t (0, 0) h
theorem Blk.frozen (h : Blk w g t cs) (i : Nat) : w.frozen? ⟨g, i, none⟩ = false := by
  unfold Blk at h
  simp [World.frozen?, h]
theorem Blk.drewN (h : Blk w g t cs) (n : Nat) : Blk (w.drewN n) g t cs := h
theorem Blk.alloc (h : Blk w g t cs) (o : Obj) : Blk (w.alloc o) g t cs := (Below.heap_alloc w o g h.lt).trans h
theorem Blk.set_ (h : Blk w g t cs) (i : Nat) (u : Value) : Blk (w.setCell ⟨g, i, none⟩ u) g t (cs.setIfInBounds i u) := by
  unfold Blk at h ⊢
  simp [World.setCell, Array.getElem?_modify, h]
theorem Blk.far (h : Blk w g t cs) {p : Addr} (hp : g ≠ p.block) (u : Value) : Blk (w.setCell p u) g t cs := (Below.heap_setCell w p u g hp).trans h
theorem Blk.below {B : Nat} (h : Blk w g t cs) (hb : Below B w w') (hg : g < B) : Blk w' g t cs := (hb.block g hg).trans h
theorem Blk.new (w : World) (t : TypeId) (cs : Array Value) : Blk (w.alloc (.cells cs t)) w.heap.size t cs := heap_alloc_new w _
theorem Blk.setRow (h : Blk w g t cs) (cs' : Array Value) : Blk (w.setRow g cs') g t cs' := setRow_heap w g cs cs' t (0, 0) h
theorem Blk.setRow_far (h : Blk w g t cs) {k : Nat} (hk : g ≠ k) (cs' : Array Value) : Blk (w.setRow k cs') g t cs := (setRow_other w k g cs' hk).trans h
theorem below_setRow {B : Nat} {a w : World} (h : Below B a w) {k : Nat} (hk : B ≤ k) (cs : Array Value) : Below B a (w.setRow k cs) :=
  h.trans ⟨by simp, by simp, by simp, by simp, fun i hi => setRow_other w k i cs (by omega)⟩
theorem below_drewN {B : Nat} {w W : World} (h : Below B w W) (n : Nat) : Below B w (W.drewN n) := ⟨h.os, h.tape, h.output, h.size, h.block⟩
theorem below_of {w w1 w2 : World} {B : Nat} (h : Below B w w1) (hB : B ≤ w1.heap.size) (k : Below w1.heap.size w1 w2) : Below B w w2 :=
  h.trans (k.mono hB)
end

section
variable {P : Program} {ops : Array Oper} {rest : List Oper} {o : Oper} {a : Act} {Q : Exit → Act → World → Prop} {w : World}
/-- A new variable of whatever type: the world behind it is left open. -/
theorem wpList_new (hgd : o.guard = none) (e : TypeId) (ho : o.op = .alloc e) (z : Value) (hz : (P.info? e).bind (·.zero) = some z)
    (h : ∀ w1, Blk w1 w.heap.size e z.cells → Below w.heap.size w w1 → w1.heap.size = w.heap.size + 1 → wpList P ops Q rest (a.put o.dst (.pointer (some ⟨w.heap.size, 0, none⟩))) w1) :
    wpList P ops Q (o :: rest) a w := by
  refine wpList_plain hgd fun K hK => ?_
  unfold Oper.wp execOp
  have hr : (Instr.alloc e true (.tuple #[])).run P w = .ok (.pointer (some ⟨w.heap.size, 0, none⟩)) (w.alloc (.cells z.cells e)) := by
    cases hq : P.info? e with
    | none => simp [hq] at hz
    | some i =>
      have hz' : i.zero = some z := by simpa [hq] using hz
      simp [Instr.alloc, zeroValue, typeInfo, hq, hz', newVar, newRow]
  simp only [ho, Sem.run_bind, hr, Result.andThen_ok, Sem.run_pure]
  exact hK _ _ (h _ (Blk.new w e z.cells) ((Below.refl _ _).alloc (Nat.le_refl _) _) (by simp))
end

/-- A slice value reads as the bytes p. -/
def Rd (w : World) (A : Option Addr) (p : List Nat) : Prop :=
  p.length ≤ 140737488351232 ∧ (∀ c ∈ p, c < 256) ∧ (0 < p.length → ∃ ad : Addr, A = some ad ∧ ad.block < w.heap.size ∧ ∀ j, j < p.length → w.cell? (ad.add j) = some (.int .u8 ((p.getD j 0 : Nat) : Int)))
theorem Rd.below {w w1 : World} {A : Option Addr} {p : List Nat} {B : Nat} (h : Rd w A p) (hb : Below B w w1) (hB : w.heap.size ≤ B) : Rd w1 A p :=
  ⟨h.1, h.2.1, fun h0 => by
    obtain ⟨ad, e, hl, hc⟩ := h.2.2 h0
    have := hb.size
    refine ⟨ad, e, by omega, fun j hj => ?_⟩
    have hbl : (ad.add j).block = ad.block := by unfold Addr.add; split <;> rfl
    exact (hb.cell (by rw [hbl]; omega)).trans (hc j hj)⟩
theorem Rd.at_ {w : World} {A : Option Addr} {p : List Nat} (h : Rd w A p) {j : Nat} (hj : j < p.length) : ∃ ad : Addr, A = some ad ∧ w.cell? (ad.add j) = some (.int .u8 ((p.getD j 0 : Nat) : Int)) ∧ p.getD j 0 < 256 := by
  obtain ⟨ad, e, _, hc⟩ := h.2.2 (by omega)
  refine ⟨ad, e, hc j hj, h.2.1 _ ?_⟩
  rw [List.getD_eq_getElem?_getD, List.getElem?_eq_getElem hj]
  exact List.getElem_mem hj
end Go.Proofs.Ytfhigppdgfajoaa
