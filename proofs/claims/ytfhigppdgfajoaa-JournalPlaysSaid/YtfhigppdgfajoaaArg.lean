/- How the statements' arguments come in: a slice of bytes. -/
import Derived.Test.YtfhigppdgfajoaaAlv
import Derived.Lib.SmallJoins
import Derived.Deep.Slices
import Derived.ProofKit
import Derived.OpenShut
namespace Go.Proofs.Ytfhigppdgfajoaa
open Go.RowKit Go.ChangeShapes Go.WideShapes Go.ChangeAt
/-- a slice of bytes as it comes in -/
def ArgB (w : World) (a : Option Addr) (len cap : Nat) : Prop :=
  len ≤ cap ∧ cap ≤ 9223372036854775807 ∧ (len ≤ 140737488351232 → ∃ p : List Nat, p.length = len ∧ Sl w a p cap)
/-- a slice of bytes that lies in another argument -/
def ElmB (w : World) (a : Option Addr) (len cap : Nat) : Prop :=
  len ≤ cap ∧ cap ≤ 9223372036854775807 ∧ (len ≤ 140737488351232 → ∃ p : List Nat, p.length = len ∧ Rd w a p)
theorem ArgB.below {w w1 : World} {a : Option Addr} {len cap : Nat} (h : ArgB w a len cap) (hb : Below w.heap.size w w1) : ArgB w1 a len cap :=
  ⟨h.1, h.2.1, fun hl => by obtain ⟨p, e, hp⟩ := h.2.2 hl; exact ⟨p, e, hp.below hb⟩⟩
theorem ElmB.below {w w1 : World} {a : Option Addr} {len cap : Nat} (h : ElmB w a len cap) (hb : Below w.heap.size w w1) : ElmB w1 a len cap :=
  ⟨h.1, h.2.1, fun hl => by obtain ⟨p, e, hp⟩ := h.2.2 hl; exact ⟨p, e, hp.below hb (Nat.le_refl _)⟩⟩
theorem rd_row {w : World} {x : Addr} {len cap : Nat} {zs : List Int} (h1 : len ≤ cap) (h3 : zs.length = cap) (h4 : ∀ i, i < zs.length → w.cell? (x.add i) = some (.int .u8 (zs.getD i 0))) (h5 : ∀ n ∈ zs, (Lit.int .u8 n).wf = true) (hl : len ≤ 140737488351232) :
    ∃ p : List Nat, p.length = len ∧ Rd w (some x) p := by
  have hb : ∀ n ∈ zs, 0 ≤ n ∧ n < 256 := fun n hn => by
    have := h5 n hn
    simp [Lit.wf, IntKind.min, IntKind.max, IntKind.signed, IntKind.bits] at this
    omega
  refine ⟨(zs.take len).map Int.toNat, by simp; omega, by simp; omega, ?_, fun h0 => ?_⟩
  · intro c hc
    obtain ⟨n, hn, rfl⟩ := List.mem_map.1 hc
    have := hb n (List.mem_of_mem_take hn)
    omega
  · have hlen : ((zs.take len).map Int.toNat).length = len := by simp; omega
    rw [hlen] at h0 ⊢
    have hblk : ∀ j, (x.add j).block = x.block := fun j => by unfold Addr.add; split <;> rfl
    refine ⟨x, rfl, ?_, fun j hj => ?_⟩
    · have := block_lt_of_cell (h4 0 (by omega))
      rwa [hblk] at this
    · rw [h4 j (by omega)]
      have hj' : j < zs.length := by omega
      have e : ((zs.take len).map Int.toNat).getD j 0 = (zs.getD j 0).toNat := by
        simp [List.getD_eq_getElem?_getD, hj, List.getElem?_eq_getElem hj']
      rw [e]
      have := hb (zs.getD j 0) (by rw [List.getD_eq_getElem?_getD, List.getElem?_eq_getElem hj']; exact List.getElem_mem hj')
      rw [Int.toNat_of_nonneg this.1]
theorem cells5 : Try.prog.cellsOf 5 = 1 := by kernel_rfl
theorem open_elm {H : Type} {enc : TypeId × Value → H} {W : World} {fuel : Nat} {cs : List Value} {x : DataW H × List MemPlace} (h : DataW.trod enc Try.prog W 0 (fun _ => true) true fuel 22 cs = some x) :
    ∃ a len cap, cs = [.slice a len cap] ∧ ElmB W a len cap := by
  rcases open_ints Try.underlying22 Try.underlying5 cells5 h with ⟨hcs, _⟩ | ⟨a, len, cap, zs, hcs, _, hl, hm, hz, _, hcell, hwz⟩
  · exact ⟨none, 0, 0, hcs, by simp, by simp, fun _ => ⟨[], rfl, Rd.nil_ _ _⟩⟩
  · exact ⟨some a, len, cap, hcs, hl, by unfold maxLen at hm; omega, fun hle => rd_row hl (by simpa using hz) hcell hwz hle⟩
theorem open_argB {H : Type} {enc : TypeId × Value → H} {W : World} {base : Nat} {v : Value} {d : DataW H} {p : List MemPlace} (hv : Value.okWide Try.prog W .any base 22 v) (h : DataW.Trod enc Try.prog W 0 (fun _ => true) true 22 v d p) :
    ∃ a len cap, v = .slice a len cap ∧ ArgB W a len cap := by
  obtain ⟨a1, l1, c1, rfl⟩ := okWide_slice Try.underlying22 hv
  have hspot : (a1 = none ∧ l1 = 0 ∧ c1 = 0) ∨ ∃ bk off, a1 = some ⟨bk, off, none⟩ := by
    simp only [Value.okWide, Try.underlying22, Cell.okWide, Cell.ok] at hv
    cases a1 with
    | none =>
      cases l1 <;> cases c1 <;> simp_all
    | some x =>
      obtain ⟨_, _, _, hs, _⟩ := hv
      obtain ⟨bk, off, s⟩ := x
      simp only at hs
      subst hs
      exact .inr ⟨bk, off, rfl⟩
  obtain ⟨fuel, hf⟩ := h
  obtain ⟨a, len, cap, e, h1, h2, h3⟩ := open_elm hf
  simp [Value.cells] at e
  obtain ⟨rfl, rfl, rfl⟩ := e
  refine ⟨a1, l1, c1, rfl, h1, h2, fun hle => ?_⟩
  obtain ⟨p, hp, hr⟩ := h3 hle
  refine ⟨p, hp, hr, by omega, h2, ?_⟩
  rcases hspot with ⟨rfl, rfl, rfl⟩ | h
  · exact .inl ⟨rfl, List.length_eq_zero_iff.1 hp, rfl⟩
  · exact .inr h
end Go.Proofs.Ytfhigppdgfajoaa
