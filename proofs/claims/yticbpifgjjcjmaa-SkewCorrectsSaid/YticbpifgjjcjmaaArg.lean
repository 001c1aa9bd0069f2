/- An argument that is a bitmap: its numbers and its pixels. -/
import Derived.Test.YticbpifgjjcjmaaShf
import Derived.Lib.SmallJoins
import Derived.Deep.Grids
import Derived.ProofKit
import Derived.OpenShut
namespace Go.Proofs.Yticbpifgjjcjmaa
open Go.RowKit Go.ChangeShapes Go.WideShapes Go.ChangeAt
theorem rdB_of {w : World} {A : Addr} {len cap : Nat} {B : Nat → Bool} (hl : len ≤ cap) (h : ∀ i, i < cap → w.cell? (A.add i) = some (.bool (B i))) : RdB w (some A) ((List.range len).map B) := fun h0 => by
  have hblk : ∀ j, (A.add j).block = A.block := fun j => by unfold Addr.add; split <;> rfl
  have hlen : ((List.range len).map B).length = len := by simp
  rw [hlen] at h0
  refine ⟨A, rfl, ?_, fun j hj => ?_⟩
  · have := block_lt_of_cell (h 0 (by omega))
    rwa [hblk] at this
  · rw [hlen] at hj
    rw [h j (by omega)]
    have e : ((List.range len).map B).getD j false = B j := by simp [List.getD_eq_getElem?_getD, List.getElem?_range hj]
    rw [e]
theorem open_mat {H : Type} {enc : TypeId × Value → H} {W : World} {base : Nat} {v : Value} {d : DataW H} {p : List MemPlace} (hv : Value.okWide Try.prog W .any base 24 v) (h : DataW.Trod enc Try.prog W 0 (fun _ => true) true 24 v d p) :
    ∃ (x0 x1 : Int) (A : Option Addr) (D : List Bool) (c : Nat), v = .agg (matA x0 x1 A D.length c) ∧ (Lit.int .i64 x0).wf = true ∧ (Lit.int .i64 x1).wf = true ∧ RdB W A D ∧ D.length ≤ 9223372036854775807 := by
  obtain ⟨v0, v1, v2, y0, y1, y2, n, rfl, _, _, h0, h1, h2⟩ := Joins.open_agg3 Try.underlying24 (by kernel_rfl) (by kernel_rfl) hv h
  obtain ⟨x0, e0, _, w0⟩ := DataW.trod_int Try.underlying3 h0
  obtain ⟨x1, e1, _, w1⟩ := DataW.trod_int Try.underlying3 h1
  injection e0 with e0
  injection e1 with e1
  subst e0 e1
  rcases Go.Deep.open_bools Try.underlying22 Try.underlying4 (by kernel_rfl) h2 with ⟨e2, _⟩ | ⟨a, len, cap, B, e2, _, hl, hm, _, hc⟩
  · injection e2 with e2
    subst e2
    exact ⟨x0, x1, none, [], 0, rfl, w0, w1, fun h0 => absurd h0 (Nat.not_lt_zero _), by simp⟩
  · injection e2 with e2
    subst e2
    have hlen : ((List.range len).map B).length = len := by simp
    refine ⟨x0, x1, some a, (List.range len).map B, cap, ?_, w0, w1, rdB_of hl hc, by rw [hlen]; unfold maxLen at hm; omega⟩
    rw [hlen]; rfl
end Go.Proofs.Yticbpifgjjcjmaa
