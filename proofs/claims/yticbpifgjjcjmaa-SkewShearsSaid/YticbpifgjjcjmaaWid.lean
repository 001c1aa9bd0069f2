/- The walk of wide: some bool. -/
import Derived.Test.YticbpifgjjcjmaaEng
namespace Go.Proofs.Yticbpifgjjcjmaa
open Go.RowKit Go.Maps
theorem or_bool (x : Bool) : Ending.returned (.bool x) = .returned (.bool false) ∨ Ending.returned (.bool x) = .returned (.bool true) := by cases x <;> simp
set_option maxRecDepth 100000 in
set_option maxHeartbeats 4000000 in
theorem wide_any (W H : Int) (A : Option Addr) (n c : Nat) (num den : Int) (w : World) :
    Calls Try.prog 12 #[.agg (matA W H A n c), .int .i64 num, .int .i64 den] w fun e w' => ∃ b, e = .returned (.bool b) ∧ Below w.heap.size w w' := by
  unfold matA
  by_cases hden : 0 < den
  · have h1 : decide (0 < den) = true := decide_eq_true hden
    have h2 : (den == 0) = false := by rw [beq_eq_false_iff_ne]; omega
    have h3 : ¬ den = 0 := by omega
    go_enter Try.func12, Try.ntmps12
    go_wp2
    all_goals
      go_ret
      first
        | exact ⟨.inl rfl, (Below.refl _ _).alloc (Nat.le_refl _) _⟩
        | exact ⟨.inr rfl, (Below.refl _ _).alloc (Nat.le_refl _) _⟩
        | exact ⟨or_bool _, (Below.refl _ _).alloc (Nat.le_refl _) _⟩
  · have h1 : decide (0 < den) = false := decide_eq_false hden
    go_enter Try.func12, Try.ntmps12
    go_wp2
    go_ret
    exact ⟨.inl rfl, (Below.refl _ _).alloc (Nat.le_refl _) _⟩
end Go.Proofs.Yticbpifgjjcjmaa
