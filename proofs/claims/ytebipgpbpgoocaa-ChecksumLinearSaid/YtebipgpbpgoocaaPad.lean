/- The lists of the law ChecksumLinear: an input cut or filled to a length, and the xor of two. -/
import Derived.Test.YtebipgpbpgoocaaArg
namespace Go.Proofs.Ytebipgpbpgoocaa
open Go.RowKit
def padL (q : List Nat) (k : Nat) : List Nat := (List.range k).map fun j => q.getD j 0
def xorL (p q : List Nat) (k : Nat) : List Nat := List.zipWith (· ^^^ ·) (p.take k) (padL q k)
theorem padL_len (q : List Nat) (k : Nat) : (padL q k).length = k := by simp [padL]
theorem padL_snoc (q : List Nat) (k : Nat) : padL q (k + 1) = padL q k ++ [q.getD k 0] := by simp [padL, List.range_succ]
theorem xorL_len (p q : List Nat) (k : Nat) (h : k ≤ p.length) : (xorL p q k).length = k := by simp [xorL, padL_len]; omega
theorem xorL_snoc (p q : List Nat) (k : Nat) (h : k < p.length) : xorL p q (k + 1) = xorL p q k ++ [p.getD k 0 ^^^ q.getD k 0] := by
  unfold xorL
  rw [padL_snoc, take_snoc p k h, List.zipWith_append (by simp [padL_len]; omega)]
  rfl
theorem getD_256 {q : List Nat} (h : ∀ c ∈ q, c < 256) (k : Nat) : q.getD k 0 < 256 := CrcM.bytes_getD h k
theorem padL_256 {q : List Nat} (h : ∀ c ∈ q, c < 256) (k : Nat) : ∀ c ∈ padL q k, c < 256 := by
  intro c hc
  obtain ⟨j, _, rfl⟩ := List.mem_map.1 hc
  exact getD_256 h j
theorem xor_256 {a b : Nat} (ha : a < 256) (hb : b < 256) : a ^^^ b < 256 := Nat.xor_lt_two_pow (n := 8) ha hb
theorem xorL_256 {p q : List Nat} (hp : ∀ c ∈ p, c < 256) (hq : ∀ c ∈ q, c < 256) (k : Nat) (hk : k ≤ p.length) : ∀ c ∈ xorL p q k, c < 256 := by
  induction k with
  | zero => intro c hc; simp [xorL, padL] at hc
  | succ k ih =>
    intro c hc
    rw [xorL_snoc p q k (by omega)] at hc
    rcases List.mem_append.1 hc with h | h
    · exact ih (by omega) c h
    · simp at h; rw [h]; exact xor_256 (getD_256 hp k) (getD_256 hq k)
theorem lin32 (p q : List Nat) : CrcM.crc (xorL p q p.length) = CrcM.crc p ^^^ CrcM.crc (padL q p.length) ^^^ CrcM.crc (List.replicate p.length 0) := by
  have := CrcM.crc_linear p (padL q p.length) (padL_len q p.length).symm
  unfold xorL
  rw [List.take_of_length_le (Nat.le_refl _)]
  exact this
theorem lin16 (p q : List Nat) : Crc16.crc (xorL p q p.length) = Crc16.crc p ^^^ Crc16.crc (padL q p.length) ^^^ Crc16.crc (List.replicate p.length 0) := by
  have := Crc16.crc_linear p (padL q p.length) (padL_len q p.length).symm
  unfold xorL
  rw [List.take_of_length_le (Nat.le_refl _)]
  exact this
theorem rep_256 (n : Nat) : ∀ c ∈ List.replicate n 0, c < 256 := by
  intro c hc
  rw [(List.mem_replicate.1 hc).2]; decide
end Go.Proofs.Ytebipgpbpgoocaa
