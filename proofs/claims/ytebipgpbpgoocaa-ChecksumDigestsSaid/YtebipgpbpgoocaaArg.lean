/- An argument that is a slice of bytes reads as a list of numbers below 256. -/
import Derived.Test.YtebipgpbpgoocaaDig
import Derived.Test.YtebipgpbpgoocaaApp
import Derived.ProofKit
namespace Go.Proofs.Ytebipgpbpgoocaa
open Go.RowKit
theorem Rd.drew {w : World} {A : Option Addr} {p : List Nat} (h : Rd w A p) : Rd w.drew A p := h
theorem info5 : (Try.prog.info? 5).map (fun i => (i.zero, i.size, i.bytes)) = some (some (.int .u8 0), 1, 1) := by kernel_rfl
theorem rd_of_row {w : World} {a : Option Addr} {len cap : Nat} {zs : List Int}
    (h : (a = none ∧ len = 0 ∧ cap = 0 ∧ zs = []) ∨ ∃ x : Addr, a = some x ∧ len ≤ cap ∧ cap ≤ maxLen ∧ zs.length = cap ∧ (∀ i, i < zs.length → w.cell? (x.add i) = some (.int .u8 (zs.getD i 0))) ∧ ∀ n ∈ zs, (Lit.int .u8 n).wf = true)
    (hl : len ≤ 140737488351232) : ∃ p : List Nat, p.length = len ∧ Rd w a p := by
  rcases h with ⟨rfl, rfl, rfl, rfl⟩ | ⟨x, rfl, h1, h2, h3, h4, h5⟩
  · exact ⟨[], rfl, Rd.nil _ _⟩
  · have hb : ∀ n ∈ zs, 0 ≤ n ∧ n < 256 := fun n hn => by
      have := h5 n hn
      simp [Lit.wf, IntKind.min, IntKind.max, IntKind.signed, IntKind.bits] at this
      omega
    refine ⟨(zs.take len).map Int.toNat, by simp; omega, by simp; omega, ?_, fun h0 => ?_⟩
    · intro c hc
      obtain ⟨n, hn, rfl⟩ := List.mem_map.1 hc
      have := hb n (List.mem_of_mem_take hn)
      omega
    · have hlen : ((zs.take len).map Int.toNat).length = len := by simp; omega
      rw [hlen] at h0 ⊢
      have hblk : ∀ j, (x.add j).block = x.block := fun j => by unfold Addr.add; split <;> rfl
      refine ⟨x, rfl, ?_, fun j hj => ?_⟩
      · have := block_lt_of_cell (h4 0 (by omega))
        rwa [hblk] at this
      · rw [h4 j (by omega)]
        have hj' : j < zs.length := by omega
        have e : ((zs.take len).map Int.toNat).getD j 0 = (zs.getD j 0).toNat := by
          simp [List.getD_eq_getElem?_getD, hj, List.getElem?_eq_getElem hj']
        rw [e]
        have := hb (zs.getD j 0) (by rw [List.getD_eq_getElem?_getD, List.getElem?_eq_getElem hj']; exact List.getElem_mem hj')
        rw [Int.toNat_of_nonneg this.1]
end Go.Proofs.Ytebipgpbpgoocaa
