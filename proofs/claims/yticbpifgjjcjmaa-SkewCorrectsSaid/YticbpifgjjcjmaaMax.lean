/- The estimated numerator is the best of all, and of the equals the one nearest to 0. -/
import Derived.Test.YticbpifgjjcjmaaEst
namespace Go.Proofs.Yticbpifgjjcjmaa
namespace Skew
/-- b is the best of the numerators that R names -/
def Best (W : Nat) (D : List Bool) (den : Int) (b : Int × Nat) (lo hi : Int) : Prop :=
  b.2 = energy W D b.1 den ∧ lo ≤ b.1 ∧ b.1 ≤ hi ∧ ∀ m, lo ≤ m → m ≤ hi → energy W D m den < b.2 ∨ (energy W D m den = b.2 ∧ (max b.1 (-b.1) < max m (-m) ∨ m = b.1 ∨ (m = -b.1 ∧ 0 < b.1)))
theorem Best.up {W : Nat} {D : List Bool} {den : Int} {b : Int × Nat} {n : Nat} (h : Best W D den b (-n) n) : Best W D den (take W D den b ((n : Int) + 1)) (-n) ((n : Int) + 1) := by
  obtain ⟨h1, h2, h3, h4⟩ := h
  unfold take
  split
  · rename_i hlt
    refine ⟨rfl, by simp only []; omega, by simp only []; omega, fun m hm1 hm2 => ?_⟩
    by_cases hm : m = (n : Int) + 1
    · subst hm; right; exact ⟨rfl, .inr (.inl rfl)⟩
    · rcases h4 m hm1 (by omega) with h | ⟨h, _⟩
      · left; simp only []; omega
      · left; simp only []; omega
  · rename_i hge
    refine ⟨h1, h2, by omega, fun m hm1 hm2 => ?_⟩
    by_cases hm : m = (n : Int) + 1
    · subst hm
      rcases Nat.lt_or_ge (energy W D ((n : Int) + 1) den) b.2 with h | h
      · exact .inl h
      · right; exact ⟨by omega, .inl (by omega)⟩
    · exact h4 m hm1 (by omega)
theorem Best.down {W : Nat} {D : List Bool} {den : Int} {b : Int × Nat} {n : Nat} (h : Best W D den b (-n) ((n : Int) + 1)) : Best W D den (take W D den b (-(n : Int) - 1)) (-(n : Int) - 1) ((n : Int) + 1) := by
  obtain ⟨h1, h2, h3, h4⟩ := h
  unfold take
  split
  · rename_i hlt
    refine ⟨rfl, by simp only []; omega, by simp only []; omega, fun m hm1 hm2 => ?_⟩
    by_cases hm : m = -(n : Int) - 1
    · subst hm; right; exact ⟨rfl, .inr (.inl rfl)⟩
    · rcases h4 m (by omega) hm2 with h | ⟨h, _⟩
      · left; simp only []; omega
      · left; simp only []; omega
  · rename_i hge
    refine ⟨h1, by omega, h3, fun m hm1 hm2 => ?_⟩
    by_cases hm : m = -(n : Int) - 1
    · subst hm
      rcases Nat.lt_or_ge (energy W D (-(n : Int) - 1) den) b.2 with h | h
      · exact .inl h
      · right; exact ⟨by omega, by omega⟩
    · exact h4 m (by omega) hm2
theorem est_best (W : Nat) (D : List Bool) (den : Int) (n : Nat) : Best W D den (est W D den n) (-n) n := by
  induction n with
  | zero =>
    refine ⟨rfl, by simp [est], by simp [est], fun m h1 h2 => ?_⟩
    obtain rfl : m = 0 := by omega
    right; exact ⟨rfl, .inr (.inl rfl)⟩
  | succ n ih =>
    have h := ih.up.down
    rw [show -(n : Int) - 1 = -((n + 1 : Nat) : Int) from by omega] at h
    have e : est W D den (n + 1) = take W D den (take W D den (est W D den n) ((n : Int) + 1)) (-((n + 1 : Nat) : Int)) := by rw [est, show -(n : Int) - 1 = -((n + 1 : Nat) : Int) from by omega]
    rw [e]
    rw [show ((n + 1 : Nat) : Int) = (n : Int) + 1 from by omega] at h ⊢
    exact h
end Skew
end Go.Proofs.Yticbpifgjjcjmaa
