/- The walks of the reference's fits and New. -/
import Derived.Test.YticbpifgjjcjmaaShr
namespace Go.Proofs.Yticbpifgjjcjmaa
open Go.RowKit Go.Maps
def fitB (W h : Nat) : Bool := decide (h ≤ 4096 ∧ W * h ≤ 4194304)
set_option maxHeartbeats 1000000 in
theorem fits_any (W h : Nat) (hW1 : 1 ≤ W) (hW2 : W ≤ 4096) (h1 : 1 ≤ h) (h2 : h ≤ 40000000) (w : World) :
    Calls Try.prog 43 #[.int .i64 (W : Int), .int .i64 (h : Int)] w fun e w' => e = .returned (.bool (fitB W h)) ∧ w = w' := by
  have d1 : decide ((1 : Int) ≤ (W : Int)) = true := decide_eq_true (by omega)
  have d2 : decide ((W : Int) ≤ 4096) = true := decide_eq_true (by omega)
  have d3 : decide ((1 : Int) ≤ (h : Int)) = true := decide_eq_true (by omega)
  have d1' : decide (0 < W) = true := decide_eq_true (by omega)
  have d3' : decide (0 < h) = true := decide_eq_true (by omega)
  have d2' : decide (W ≤ 4096) = true := decide_eq_true (by omega)
  obtain ⟨t, ht⟩ : ∃ t, Hid (t = W * h) := ⟨_, Lib.hid rfl⟩
  have hm : (W : Int) * (h : Int) = (t : Int) := by rw [ht.out, Int.natCast_mul]
  have htb : t ≤ 4096 * h := by rw [ht.out]; exact Nat.mul_le_mul hW2 (Nat.le_refl _)
  by_cases hh : h ≤ 4096
  · have d4 : decide ((h : Int) ≤ 4096) = true := decide_eq_true (by omega)
    have d4' : decide (h ≤ 4096) = true := decide_eq_true hh
    by_cases hl : t ≤ 4194304
    · have d5 : decide ((t : Int) ≤ 4194304) = true := decide_eq_true (by omega)
      have d5' : decide (t ≤ 4194304) = true := decide_eq_true hl
      have he : fitB W h = true := decide_eq_true ⟨hh, by rw [← ht.out]; exact hl⟩
      rw [he]
      clear he
      go_enter Try.func43, Try.ntmps43
      go_wp2
      go_ret
      exact ⟨rfl, rfl⟩
    · have d5 : decide ((t : Int) ≤ 4194304) = false := decide_eq_false (by omega)
      have d5' : decide (t ≤ 4194304) = false := decide_eq_false hl
      have he : fitB W h = false := decide_eq_false (fun hc => hl (by rw [ht.out]; exact hc.2))
      rw [he]
      clear he
      go_enter Try.func43, Try.ntmps43
      go_wp2
      go_ret
      exact ⟨rfl, rfl⟩
  · have d4 : decide ((h : Int) ≤ 4096) = false := decide_eq_false (by omega)
    have d4' : decide (h ≤ 4096) = false := decide_eq_false hh
    have he : fitB W h = false := decide_eq_false (fun hc => hh hc.1)
    rw [he]
    clear he
    go_enter Try.func43, Try.ntmps43
    go_wp2
    go_ret
    exact ⟨rfl, rfl⟩
/-- what New returns -/
def NewR (w : World) (v : Value) (B W h : Nat) : Prop :=
  if fitB W h = true then ∃ gd, v = .tuple #[.agg (matA W h (some ⟨gd, 0, none⟩) (W * h) (W * h)), .int .i64 0] ∧ Blk w gd 4 (List.replicate (W * h) (.bool false)).toArray ∧ B ≤ gd
  else v = .tuple #[.agg (matA 0 0 none 0 0), .int .i64 23]
set_option maxRecDepth 100000 in
set_option maxHeartbeats 2000000 in
theorem new_any (W h : Nat) (hW1 : 1 ≤ W) (hW2 : W ≤ 4096) (h1 : 1 ≤ h) (h2 : h ≤ 40000000) (w : World) :
    Calls Try.prog 34 #[.int .i64 (W : Int), .int .i64 (h : Int)] w fun e w' => ∃ v, e = .returned v ∧ NewR w' v w.heap.size W h ∧ Below w.heap.size w w' := by
  unfold NewR
  cases hf : fitB W h
  · simp only [Bool.false_eq_true, ↓reduceIte]
    go_enter Try.func34, Try.ntmps34
    go_wp2_with (refine wpList_new rfl 24 rfl _ info24 ?_; intro w1 hn1 hB1 hz1)
    refine (fits_any W h hW1 hW2 h1 h2 _).mono ?_
    rintro e w2 ⟨rfl, rfl⟩
    rw [hf]
    go_wp2_with (refine wpList_store_row rfl 24 _ _ rfl w.heap.size (matA 0 0 none 0 0) rfl rfl 24 _ hn1 size24 rfl (matA_one _ _ _ _ _) ?_)
    refine bodyPost_ret (results_mat rfl _ _ w.heap.size 24 (matA 0 0 none 0 0) (0, 0) _ rfl (hn1.setRow _) Try.underlying24 rfl size24) rfl ?_
    exact ⟨_, rfl, rfl, below_setRow hB1 (Nat.le_refl _) _⟩
  · simp only [↓reduceIte]
    have hfit : h ≤ 4096 ∧ W * h ≤ 4194304 := of_decide_eq_true hf
    obtain ⟨hh, ht2⟩ := hfit
    generalize ht : W * h = t at *
    have hm : (W : Int) * (h : Int) = (t : Int) := by rw [← ht, Int.natCast_mul]
    have HT := Lib.hid ht
    clear ht
    go_enter Try.func34, Try.ntmps34
    go_wp2_with (first
      | (refine wpList_new rfl 24 rfl _ info24 ?_; intro w1 hn1 hB1 hz1; have H1 := Lib.hid hz1; clear hz1)
      | (refine wpList_make1 rfl 22 _ _ rfl 4 _ 1 Try.underlying22 info4 rfl .i64 .i64 t rfl rfl (by omega) (by omega) ?_; intro w2 hb2 hB2 hz2; have hn2 := hn1.below hB2 (by have := H1.out; omega); have H2 := Lib.hid hz2; clear hz2)
      | (refine wpList_store_row rfl 24 _ _ rfl w.heap.size (matA W h (some ⟨w1.heap.size, 0, none⟩) t t) rfl rfl 24 _ hn2 size24 rfl (matA_one _ _ _ _ _) ?_))
    refine (fits_any W h hW1 hW2 h1 h2 _).mono ?_
    rintro e w2 ⟨rfl, rfl⟩
    rw [hf]
    go_wp2_with (first
      | (refine wpList_make1 rfl 22 _ _ rfl 4 _ 1 Try.underlying22 info4 rfl .i64 .i64 t rfl rfl (by omega) (by omega) ?_; intro w2 hb2 hB2 hz2; have hn2 := hn1.below hB2 (by have := H1.out; omega); have H2 := Lib.hid hz2; clear hz2)
      | (refine wpList_store_row rfl 24 _ _ rfl w.heap.size (matA W h (some ⟨w1.heap.size, 0, none⟩) t t) rfl rfl 24 _ hn2 size24 rfl (matA_one _ _ _ _ _) ?_))
    refine bodyPost_ret (results_mat rfl _ _ w.heap.size 24 (matA W h (some ⟨w1.heap.size, 0, none⟩) t t) (0, 0) _ rfl (hn2.setRow _) Try.underlying24 rfl size24) rfl ?_
    exact ⟨_, rfl, ⟨w1.heap.size, rfl, hb2.setRow_far (by have := H1.out; omega) _, by have := H1.out; omega⟩, below_setRow (hB1.trans (hB2.mono (by have := H1.out; omega))) (Nat.le_refl _) _⟩
end Go.Proofs.Yticbpifgjjcjmaa
