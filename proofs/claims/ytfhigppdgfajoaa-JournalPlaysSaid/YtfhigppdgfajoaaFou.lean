/- The walks of four and number, and of the reference's: a number as four bytes, and back. -/
import Derived.Test.YtfhigppdgfajoaaCrc
import Derived.Test.YtfhigppdgfajoaaApp
import Derived.Test.YtfhigppdgfajoaaSeq
import Derived.Laws.BitsLemmas
namespace Go.Proofs.Ytfhigppdgfajoaa
open Go.RowKit
/-- a number as four bytes -/
def four (n : Nat) : List Nat := [n / 16777216 % 256, n / 65536 % 256, n / 256 % 256, n % 256]
/-- the number that four bytes form -/
def num (p : List Nat) : Nat := p.getD 0 0 * 16777216 + p.getD 1 0 * 65536 + p.getD 2 0 * 256 + p.getD 3 0
theorem four_len (n : Nat) : (four n).length = 4 := rfl
theorem four_bytes (n : Nat) : ∀ c ∈ four n, c < 256 := by
  intro c hc
  unfold four at hc
  simp only [List.mem_cons, List.not_mem_nil, or_false] at hc
  rcases hc with rfl | rfl | rfl | rfl <;> omega
theorem num_four {n : Nat} (h : n < 4294967296) (p : List Nat) : num (four n ++ p) = n := by
  unfold num four
  simp only [List.cons_append, List.nil_append, List.getD_cons_zero, List.getD_cons_succ]
  omega
theorem num_lt {p : List Nat} (h : ∀ c ∈ p, c < 256) : num p < 4294967296 := by
  have hg : ∀ i, p.getD i 0 < 256 := fun i => by
    rw [List.getD_eq_getElem?_getD]
    rcases Nat.lt_or_ge i p.length with hi | hi
    · rw [List.getElem?_eq_getElem hi]; exact h _ (List.getElem_mem hi)
    · rw [List.getElem?_eq_none hi]; decide
  have h0 := hg 0
  have h1 := hg 1
  have h2 := hg 2
  have h3 := hg 3
  unfold num
  omega
set_option maxRecDepth 100000 in
set_option maxHeartbeats 2000000 in
theorem four_any (n : Nat) (hn : n < 4294967296) (w : World) :
    Calls Try.prog 33 #[.int .u32 (n : Int)] w fun e w' => ∃ v, e = .returned v ∧ OwnB w' w.heap.size 5 v (four n) ∧ Below w.heap.size w w' := by
  go_enter Try.func33, Try.ntmps33
  go_wp2_with fail
  go_ret
  have e : (w.alloc (.cells #[.int .u8 ((n : Int) / 16777216), .int .u8 ((n : Int) / 65536 % 256), .int .u8 ((n : Int) / 256 % 256), .int .u8 ((n : Int) % 256)] 5)) = w.alloc (.cells (cellsB (four n)).toArray 5) := by
    unfold cellsB four
    simp only [List.map_cons, List.map_nil]
    rw [show ((n / 16777216 % 256 : Nat) : Int) = (n : Int) / 16777216 by omega, show ((n / 65536 % 256 : Nat) : Int) = (n : Int) / 65536 % 256 by omega, show ((n / 256 % 256 : Nat) : Int) = (n : Int) / 256 % 256 by omega, show ((n % 256 : Nat) : Int) = (n : Int) % 256 by omega]
  rw [e]
  refine ⟨_, rfl, ⟨rfl, .inr ⟨w.heap.size, 4, (cellsB (four n)).toArray, rfl, Nat.le_refl _, heap_alloc_new _ _, Nat.le_refl _, by decide, rfl, rfl⟩⟩, (Below.refl _ _).alloc (Nat.le_refl _) _⟩
set_option maxRecDepth 100000 in
set_option maxHeartbeats 2000000 in
theorem reffour_any (n : Nat) (hn : n < 4294967296) (w : World) :
    Calls Try.prog 27 #[.int .u32 (n : Int)] w fun e w' => ∃ v, e = .returned v ∧ OwnB w' w.heap.size 5 v (four n) ∧ Below w.heap.size w w' := by
  go_enter Try.func27, Try.ntmps27
  go_wp2_with fail
  go_ret
  have e : (w.alloc (.cells #[.int .u8 ((n : Int) / 16777216), .int .u8 ((n : Int) / 65536 % 256), .int .u8 ((n : Int) / 256 % 256), .int .u8 ((n : Int) % 256)] 5)) = w.alloc (.cells (cellsB (four n)).toArray 5) := by
    unfold cellsB four
    simp only [List.map_cons, List.map_nil]
    rw [show ((n / 16777216 % 256 : Nat) : Int) = (n : Int) / 16777216 by omega, show ((n / 65536 % 256 : Nat) : Int) = (n : Int) / 65536 % 256 by omega, show ((n / 256 % 256 : Nat) : Int) = (n : Int) / 256 % 256 by omega, show ((n % 256 : Nat) : Int) = (n : Int) % 256 by omega]
  rw [e]
  refine ⟨_, rfl, ⟨rfl, .inr ⟨w.heap.size, 4, (cellsB (four n)).toArray, rfl, Nat.le_refl _, heap_alloc_new _ _, Nat.le_refl _, by decide, rfl, rfl⟩⟩, (Below.refl _ _).alloc (Nat.le_refl _) _⟩
theorem rd_flat {w : World} {A : Option Addr} {p : List Nat} (h : Rd w A p) (hl : 0 < p.length) : ∃ bk off : Nat, A = some ⟨bk, off, none⟩ ∧ bk < w.heap.size ∧ ∀ j, j < p.length → w.cell? ⟨bk, off + j, none⟩ = some (.int .u8 ((p.getD j 0 : Nat) : Int)) := by
  obtain ⟨⟨bk, off, spot⟩, e, hb, hc⟩ := h.2.2 hl
  have hs : spot = none := by
    have := World.cell?_spot (hc 0 hl)
    simpa [Addr.add] using this
  subst hs
  refine ⟨bk, off, e, hb, fun j hj => ?_⟩
  have := hc j hj
  rwa [Addr.add_lit] at this
theorem rd_four {w : World} {A : Option Addr} {p : List Nat} (h : Rd w A p) (hl : 4 ≤ p.length) : ∃ bk off : Nat, A = some ⟨bk, off, none⟩ ∧ w.cell? ⟨bk, off, none⟩ = some (.int .u8 ((p.getD 0 0 : Nat) : Int)) ∧ w.cell? ⟨bk, off + 1, none⟩ = some (.int .u8 ((p.getD 1 0 : Nat) : Int)) ∧ w.cell? ⟨bk, off + 2, none⟩ = some (.int .u8 ((p.getD 2 0 : Nat) : Int)) ∧ w.cell? ⟨bk, off + 3, none⟩ = some (.int .u8 ((p.getD 3 0 : Nat) : Int)) ∧
    p.getD 0 0 < 256 ∧ p.getD 1 0 < 256 ∧ p.getD 2 0 < 256 ∧ p.getD 3 0 < 256 := by
  obtain ⟨bk, off, e, _, hc⟩ := rd_flat h (by omega)
  have hb : ∀ i, i < p.length → p.getD i 0 < 256 := fun i hi => by
    rw [List.getD_eq_getElem?_getD, List.getElem?_eq_getElem hi]; exact h.2.1 _ (List.getElem_mem hi)
  exact ⟨bk, off, e, hc 0 (by omega), hc 1 (by omega), hc 2 (by omega), hc 3 (by omega), hb 0 (by omega), hb 1 (by omega), hb 2 (by omega), hb 3 (by omega)⟩
theorem join_u32 (i : Nat) (x y : Int) (hx₀ : 0 ≤ x) (hx : x % 2 ^ i = 0) (hx₁ : x < 4294967296) (hy₀ : 0 ≤ y) (hy : y < 2 ^ i) (hy₁ : y < 4294967296) : bits .or .u32 x y = x + y :=
  bits_join .u32 32 (by decide) (fun n h0 h1 => by rw [IntKind.wrap_u32]; omega) i x y hx₀ hx (by omega) hy₀ hy (by omega)
theorem join_four (a b c d : Nat) (ha : a < 256) (hb : b < 256) (hc : c < 256) (hd : d < 256) :
    bits .or .u32 (bits .or .u32 (bits .or .u32 ((a : Int) * 16777216) ((b : Int) * 65536)) ((c : Int) * 256)) (d : Int) = ((a * 16777216 + b * 65536 + c * 256 + d : Nat) : Int) := by
  have e1 := join_u32 24 ((a : Int) * 16777216) ((b : Int) * 65536) (by omega) (by omega) (by omega) (by omega) (by omega) (by omega)
  have e2 := join_u32 16 ((a : Int) * 16777216 + (b : Int) * 65536) ((c : Int) * 256) (by omega) (by omega) (by omega) (by omega) (by omega) (by omega)
  have e3 := join_u32 8 ((a : Int) * 16777216 + (b : Int) * 65536 + (c : Int) * 256) (d : Int) (by omega) (by omega) (by omega) (by omega) (by omega) (by omega)
  rw [e1, e2, e3]
  omega
set_option maxRecDepth 100000 in
set_option maxHeartbeats 2000000 in
theorem number_any (A : Option Addr) (p : List Nat) (cap : Nat) (w : World) (hr : Rd w A p) (hl : 4 ≤ p.length) :
    Calls Try.prog 36 #[.slice A p.length cap] w fun e w' => e = .returned (.int .u32 ((num p : Nat) : Int)) ∧ Below w.heap.size w w' := by
  obtain ⟨bk, off, rfl, c0, c1, c2, c3, b0, b1, b2, b3⟩ := rd_four hr hl
  have hnum : num p = p.getD 0 0 * 16777216 + p.getD 1 0 * 65536 + p.getD 2 0 * 256 + p.getD 3 0 := rfl
  have hi : p.length ≤ 140737488351232 := hr.1
  have l0 : (0 : Int) < (p.length : Int) := by omega
  have l1 : (1 : Int) < (p.length : Int) := by omega
  have l2 : (2 : Int) < (p.length : Int) := by omega
  have l3 : (3 : Int) < (p.length : Int) := by omega
  have n0 : 0 < p.length := by omega
  have n1 : 1 < p.length := by omega
  have n2 : 2 < p.length := by omega
  have n3 : 3 < p.length := by omega
  have HN := Lib.hid hnum
  clear hnum hr
  generalize p.getD 0 0 = x0 at *
  generalize p.getD 1 0 = x1 at *
  generalize p.getD 2 0 = x2 at *
  generalize p.getD 3 0 = x3 at *
  go_enter Try.func36, Try.ntmps36
  go_wp2_with fail
  go_quiet (fail)
  go_wp2_with fail
  have HJ := Lib.hid (join_four x0 x1 x2 x3 b0 b1 b2 b3)
  go_ret
  exact ⟨ret_int (by rw [HN.out]; exact HJ.out), below_drewN (Below.refl _ _) nq⟩
set_option maxRecDepth 100000 in
set_option maxHeartbeats 2000000 in
theorem refnumber_any (A : Option Addr) (p : List Nat) (cap : Nat) (w : World) (hr : Rd w A p) (hl : 4 ≤ p.length) :
    Calls Try.prog 30 #[.slice A p.length cap] w fun e w' => e = .returned (.int .i64 ((num p : Nat) : Int)) ∧ Below w.heap.size w w' := by
  obtain ⟨bk, off, rfl, c0, c1, c2, c3, b0, b1, b2, b3⟩ := rd_four hr hl
  have hnum : num p = p.getD 0 0 * 16777216 + p.getD 1 0 * 65536 + p.getD 2 0 * 256 + p.getD 3 0 := rfl
  have hi : p.length ≤ 140737488351232 := hr.1
  have l0 : (0 : Int) < (p.length : Int) := by omega
  have l1 : (1 : Int) < (p.length : Int) := by omega
  have l2 : (2 : Int) < (p.length : Int) := by omega
  have l3 : (3 : Int) < (p.length : Int) := by omega
  have n0 : 0 < p.length := by omega
  have n1 : 1 < p.length := by omega
  have n2 : 2 < p.length := by omega
  have n3 : 3 < p.length := by omega
  have HN := Lib.hid hnum
  clear hnum hr
  generalize p.getD 0 0 = x0 at *
  generalize p.getD 1 0 = x1 at *
  generalize p.getD 2 0 = x2 at *
  generalize p.getD 3 0 = x3 at *
  go_enter Try.func30, Try.ntmps30
  go_wp2_with fail
  go_quiet (fail)
  go_wp2_with fail
  go_ret
  exact ⟨ret_int (by rw [HN.out]; omega), below_drewN (Below.refl _ _) nq⟩
end Go.Proofs.Ytfhigppdgfajoaa
