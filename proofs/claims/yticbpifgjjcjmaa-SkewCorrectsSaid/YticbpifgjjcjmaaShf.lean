/- The walks of the guards, floor, the reference's Shift, and shifts. -/
/- The walks of the guards: few, Sound, Check. -/
import Derived.Test.YticbpifgjjcjmaaProg
import Derived.Test.YticbpifgjjcjmaaBase
import Derived.Test.YticbpifgjjcjmaaMath
import Derived.Deep.LoopGhost
import Derived.Deep.QuietTactic
import Derived.BigQuiet
import Derived.StillTailTactics
import Derived.WalkSpells
import Derived.WalkLawsBesides
import Derived.Lib.Hide
import Derived.Deep.DeepCutAuto

namespace Go.Proofs.Yticbpifgjjcjmaa
open Go.RowKit
/-- a bitmap's fields -/
def matA (W H : Int) (A : Option Addr) (n c : Nat) : Array Value := #[.int .i64 W, .int .i64 H, .slice A n c]
/-- what Sound and Check ask -/
def sndB (W H : Int) (n : Nat) : Bool := decide (1 ≤ W ∧ W ≤ 4096 ∧ 1 ≤ H ∧ H ≤ 4096 ∧ W * H ≤ 4194304 ∧ (n : Int) = W * H)
theorem mul_small {W H : Int} (h1 : 1 ≤ W) (h2 : W ≤ 4096) (h3 : 1 ≤ H) (h4 : H ≤ 4096) : 1 ≤ W * H ∧ W * H ≤ 16777216 := by
  have a := Int.mul_le_mul h2 h4 (by omega) (by omega)
  have b := Int.mul_le_mul h1 h3 (by omega) (by omega)
  omega
/-- the ways of the conjunction: the first part that fails -/
theorem snd_ways (W H : Int) (n : Nat) :
    (sndB W H n = true ∧ decide (1 ≤ W) = true ∧ decide (W ≤ 4096) = true ∧ decide (1 ≤ H) = true ∧ decide (H ≤ 4096) = true ∧ decide (W * H ≤ 4194304) = true ∧ ((n : Int) == W * H) = true ∧ 1 ≤ W * H ∧ W * H ≤ 16777216) ∨
    (sndB W H n = false ∧ decide (1 ≤ W) = false) ∨
    (sndB W H n = false ∧ decide (1 ≤ W) = true ∧ decide (W ≤ 4096) = false) ∨
    (sndB W H n = false ∧ decide (1 ≤ W) = true ∧ decide (W ≤ 4096) = true ∧ decide (1 ≤ H) = false) ∨
    (sndB W H n = false ∧ decide (1 ≤ W) = true ∧ decide (W ≤ 4096) = true ∧ decide (1 ≤ H) = true ∧ decide (H ≤ 4096) = false) ∨
    (sndB W H n = false ∧ decide (1 ≤ W) = true ∧ decide (W ≤ 4096) = true ∧ decide (1 ≤ H) = true ∧ decide (H ≤ 4096) = true ∧ decide (W * H ≤ 4194304) = false ∧ 1 ≤ W * H ∧ W * H ≤ 16777216) ∨
    (sndB W H n = false ∧ decide (1 ≤ W) = true ∧ decide (W ≤ 4096) = true ∧ decide (1 ≤ H) = true ∧ decide (H ≤ 4096) = true ∧ decide (W * H ≤ 4194304) = true ∧ ((n : Int) == W * H) = false ∧ 1 ≤ W * H ∧ W * H ≤ 16777216) := by
  unfold sndB
  simp only [decide_eq_true_eq, decide_eq_false_iff_not, beq_iff_eq, beq_eq_false_iff_ne, ne_eq]
  by_cases h1 : 1 ≤ W
  · by_cases h2 : W ≤ 4096
    · by_cases h3 : 1 ≤ H
      · by_cases h4 : H ≤ 4096
        · have hb := mul_small h1 h2 h3 h4
          by_cases h5 : W * H ≤ 4194304 <;> by_cases h6 : (n : Int) = W * H <;> simp [h1, h2, h3, h4, h5, h6, hb]
        · simp [h1, h2, h3, h4]
      · simp [h1, h2, h3]
    · simp [h1, h2]
  · simp [h1]
theorem few_any (W H : Int) (A : Option Addr) (n c : Nat) (w : World) (hn : n ≤ 9223372036854775807) :
    Calls Try.prog 11 #[.agg (matA W H A n c)] w fun e w' => e = .returned (.bool (decide (n ≤ 1500))) ∧ Below w.heap.size w w' := by
  unfold matA
  go_enter Try.func11, Try.ntmps11
  go_wp2
  go_ret
  exact ⟨by congr 2; simp; omega, (Below.refl _ _).alloc (Nat.le_refl _) _⟩
set_option maxHeartbeats 1000000 in
theorem check_any (W H : Int) (A : Option Addr) (n c : Nat) (w : World) :
    Calls Try.prog 30 #[.agg (matA W H A n c)] w fun e w' => e = .returned (.int .i64 (if sndB W H n = true then 0 else 1)) ∧ Below w.heap.size w w' := by
  unfold matA
  rcases snd_ways W H n with ⟨hs, h1, h2, h3, h4, h5, h6, h7, h8⟩ | ⟨hs, h1⟩ | ⟨hs, h1, h2⟩ | ⟨hs, h1, h2, h3⟩ | ⟨hs, h1, h2, h3, h4⟩ | ⟨hs, h1, h2, h3, h4, h5, h7, h8⟩ | ⟨hs, h1, h2, h3, h4, h5, h6, h7, h8⟩
  all_goals
    rw [hs]
    clear hs
    try (have hw : wrap64 (W * H) = W * H := by unfold wrap64; omega)
    try (have hn6 : ((n : Int) != W * H) = false := by rw [bne_eq_false_iff_eq]; exact beq_iff_eq.1 h6)
    try (have hn6 : ((n : Int) != W * H) = true := by rw [bne_iff_ne]; exact beq_eq_false_iff_ne.1 h6)
    go_enter Try.func30, Try.ntmps30
    go_wp2
    go_ret
    exact ⟨rfl, (Below.refl _ _).alloc (Nat.le_refl _) _⟩
set_option maxHeartbeats 1000000 in
theorem refcheck_any (W H : Int) (A : Option Addr) (n c : Nat) (w : World) :
    Calls Try.prog 25 #[.agg (matA W H A n c)] w fun e w' => e = .returned (.int .i64 (if sndB W H n = true then 0 else 1)) ∧ Below w.heap.size w w' := by
  unfold matA
  rcases snd_ways W H n with ⟨hs, h1, h2, h3, h4, h5, h6, h7, h8⟩ | ⟨hs, h1⟩ | ⟨hs, h1, h2⟩ | ⟨hs, h1, h2, h3⟩ | ⟨hs, h1, h2, h3, h4⟩ | ⟨hs, h1, h2, h3, h4, h5, h7, h8⟩ | ⟨hs, h1, h2, h3, h4, h5, h6, h7, h8⟩
  all_goals
    rw [hs]
    clear hs
    try (have hw : wrap64 (W * H) = W * H := by unfold wrap64; omega)
    go_enter Try.func25, Try.ntmps25
    go_wp2
    go_ret
    exact ⟨rfl, ((Below.refl _ _).alloc (Nat.le_refl _) _).alloc (by simp) _⟩
set_option maxHeartbeats 1000000 in
theorem valid_any (W H : Int) (A : Option Addr) (n c : Nat) (w : World) :
    Calls Try.prog 39 #[.agg (matA W H A n c)] w fun e w' => e = .returned (.bool (sndB W H n)) ∧ Below w.heap.size w w' := by
  unfold matA
  rcases snd_ways W H n with ⟨hs, h1, h2, h3, h4, h5, h6, h7, h8⟩ | ⟨hs, h1⟩ | ⟨hs, h1, h2⟩ | ⟨hs, h1, h2, h3⟩ | ⟨hs, h1, h2, h3, h4⟩ | ⟨hs, h1, h2, h3, h4, h5, h7, h8⟩ | ⟨hs, h1, h2, h3, h4, h5, h6, h7, h8⟩
  all_goals
    rw [hs]
    clear hs
    try (have hw : wrap64 (W * H) = W * H := by unfold wrap64; omega)
    go_enter Try.func39, Try.ntmps39
    go_wp2
    go_ret
    exact ⟨rfl, (Below.refl _ _).alloc (Nat.le_refl _) _⟩
/-- what possible asks of a slope -/
def posB (num den : Int) : Bool := decide (1 ≤ den ∧ den ≤ 4096 ∧ -4096 ≤ num ∧ num ≤ 4096)
theorem pos_ways (num den : Int) :
    (posB num den = true ∧ decide (1 ≤ den) = true ∧ decide (den ≤ 4096) = true ∧ decide (-4096 ≤ num) = true ∧ decide (num ≤ 4096) = true) ∨
    (posB num den = false ∧ decide (1 ≤ den) = false) ∨ (posB num den = false ∧ decide (1 ≤ den) = true ∧ decide (den ≤ 4096) = false) ∨
    (posB num den = false ∧ decide (1 ≤ den) = true ∧ decide (den ≤ 4096) = true ∧ decide (-4096 ≤ num) = false) ∨
    (posB num den = false ∧ decide (1 ≤ den) = true ∧ decide (den ≤ 4096) = true ∧ decide (-4096 ≤ num) = true ∧ decide (num ≤ 4096) = false) := by
  unfold posB
  simp only [decide_eq_true_eq, decide_eq_false_iff_not]
  omega
theorem possible_any (num den : Int) (w : World) : Calls Try.prog 31 #[.int .i64 num, .int .i64 den] w fun e w' => e = .returned (.bool (posB num den)) ∧ w = w' := by
  rcases pos_ways num den with ⟨hs, h1, h2, h3, h4⟩ | ⟨hs, h1⟩ | ⟨hs, h1, h2⟩ | ⟨hs, h1, h2, h3⟩ | ⟨hs, h1, h2, h3, h4⟩
  all_goals
    rw [hs]
    clear hs
    go_enter Try.func31, Try.ntmps31
    go_wp2
    go_ret
    exact ⟨rfl, rfl⟩
theorem refpossible_any (num den : Int) (w : World) : Calls Try.prog 33 #[.int .i64 num, .int .i64 den] w fun e w' => e = .returned (.bool (posB num den)) ∧ w = w' := by
  rcases pos_ways num den with ⟨hs, h1, h2, h3, h4⟩ | ⟨hs, h1⟩ | ⟨hs, h1, h2⟩ | ⟨hs, h1, h2, h3⟩ | ⟨hs, h1, h2, h3, h4⟩
  all_goals
    rw [hs]
    clear hs
    go_enter Try.func33, Try.ntmps33
    go_wp2
    go_ret
    exact ⟨rfl, rfl⟩
/-- floor of a quotient: Go's own quotient, one less where the remainder is negative -/
theorem floor_pos {a b : Int} (hb : 1 ≤ b) (h : ¬ a.tmod b < 0) : a.tdiv b = a / b := by
  have h1 := Int.mul_tdiv_add_tmod a b
  have h2 := Int.mul_ediv_add_emod a b
  have h3 := Int.emod_nonneg a (show b ≠ 0 by omega)
  have h4 := Int.emod_lt_of_pos a (show 0 < b by omega)
  have h5 := Int.tmod_lt_of_pos a (show 0 < b by omega)
  rcases Int.lt_trichotomy (a.tdiv b) (a / b) with h | h | h
  · have := Int.mul_le_mul_of_nonneg_left (show a.tdiv b + 1 ≤ a / b by omega) (show 0 ≤ b by omega)
    rw [Int.mul_add] at this; omega
  · exact h
  · have := Int.mul_le_mul_of_nonneg_left (show a / b + 1 ≤ a.tdiv b by omega) (show 0 ≤ b by omega)
    rw [Int.mul_add] at this; omega
theorem floor_neg {a b : Int} (hb : 1 ≤ b) (h : a.tmod b < 0) : a.tdiv b - 1 = a / b := by
  have h1 := Int.mul_tdiv_add_tmod a b
  have h2 := Int.mul_ediv_add_emod a b
  have h3 := Int.emod_nonneg a (show b ≠ 0 by omega)
  have h4 := Int.emod_lt_of_pos a (show 0 < b by omega)
  have h5 : -b < a.tmod b := Int.lt_tmod_of_pos a (show 0 < b by omega)
  rcases Int.lt_trichotomy (a.tdiv b - 1) (a / b) with h | h | h
  · have := Int.mul_le_mul_of_nonneg_left (show a.tdiv b ≤ a / b by omega) (show 0 ≤ b by omega)
    omega
  · exact h
  · have := Int.mul_le_mul_of_nonneg_left (show a / b + 2 ≤ a.tdiv b by omega) (show 0 ≤ b by omega)
    rw [Int.mul_add] at this; omega
theorem tdiv_bound {a b : Int} (h1 : -100000000 ≤ a) (h2 : a ≤ 100000000) : -100000000 ≤ a.tdiv b ∧ a.tdiv b ≤ 100000000 := by
  have h : (a.tdiv b).natAbs = a.natAbs / b.natAbs := Int.natAbs_tdiv a b
  have h3 : a.natAbs / b.natAbs ≤ a.natAbs := Nat.div_le_self _ _
  omega
theorem floor_any (a b : Int) (hb : 1 ≤ b) (h1 : -100000000 ≤ a) (h2 : a ≤ 100000000) (w : World) : Calls Try.prog 42 #[.int .i64 a, .int .i64 b] w fun e w' => e = .returned (.int .i64 (a / b)) ∧ w = w' := by
  have hb0 : (b == 0) = false := by rw [beq_eq_false_iff_ne]; omega
  have hbd := tdiv_bound (b := b) h1 h2
  have hw : wrap64 (a.tdiv b) = a.tdiv b := by unfold wrap64; omega
  by_cases ht : a.tmod b < 0
  · have hd : decide (a.tmod b < 0) = true := decide_eq_true ht
    rw [← floor_neg hb ht]
    clear ht
    go_enter Try.func42, Try.ntmps42
    go_wp2
    go_ret
    exact ⟨rfl, rfl⟩
  · have hd : decide (a.tmod b < 0) = false := decide_eq_false ht
    rw [← floor_pos hb ht]
    clear ht
    go_enter Try.func42, Try.ntmps42
    go_wp2
    go_ret
    exact ⟨rfl, rfl⟩
theorem reffloor_any (a b : Int) (hb : 1 ≤ b) (h1 : -100000000 ≤ a) (h2 : a ≤ 100000000) (w : World) : Calls Try.prog 38 #[.int .i64 a, .int .i64 b] w fun e w' => e = .returned (.int .i64 (a / b)) ∧ w = w' := by
  have hb0 : (b == 0) = false := by rw [beq_eq_false_iff_ne]; omega
  have hbd := tdiv_bound (b := b) h1 h2
  have hw : wrap64 (a.tdiv b) = a.tdiv b := by unfold wrap64; omega
  by_cases ht : a.tmod b < 0
  · have hd : decide (a.tmod b < 0) = true := decide_eq_true ht
    rw [← floor_neg hb ht]
    clear ht
    go_enter Try.func38, Try.ntmps38
    go_wp2
    go_ret
    exact ⟨rfl, rfl⟩
  · have hd : decide (a.tmod b < 0) = false := decide_eq_false ht
    rw [← floor_pos hb ht]
    clear ht
    go_enter Try.func38, Try.ntmps38
    go_wp2
    go_ret
    exact ⟨rfl, rfl⟩

theorem mul_bound {x : Nat} {num : Int} (hx : x ≤ 4096) (h1 : -4096 ≤ num) (h2 : num ≤ 4096) : -16777216 ≤ (x : Int) * num ∧ (x : Int) * num ≤ 16777216 := by
  have := Skew.raw_bound (den := 1) (by omega) h1 h2 hx
  unfold Skew.raw at this
  rwa [Int.ediv_one] at this
/-- the reference's shift of a column -/
theorem refshift_any (x W : Nat) (num den : Int) (hx : x < W) (hW : W ≤ 4096) (hd1 : 1 ≤ den) (h1 : -4096 ≤ num) (h2 : num ≤ 4096) (w : World) :
    Calls Try.prog 24 #[.int .i64 (x : Int), .int .i64 (W : Int), .int .i64 num, .int .i64 den] w fun e w' => e = .returned (.int .i64 ((Skew.sh W num den x : Nat) : Int)) ∧ w = w' := by
  have b1 := mul_bound (x := x) (by omega) h1 h2
  have b2 := mul_bound (x := W - 1) (by omega) h1 h2
  have e1 : ((W : Int) - 1) = ((W - 1 : Nat) : Int) := by omega
  have r1 := Skew.raw_bound hd1 h1 h2 (show x ≤ 4096 by omega)
  have r2 := Skew.raw_bound hd1 h1 h2 (show W - 1 ≤ 4096 by omega)
  have hs := Skew.sh_eq (num := num) hd1 hx
  unfold Skew.least at hs
  rw [if_neg (by omega)] at hs
  unfold Skew.raw at hs r1 r2
  have q1 : wrap64 ((x : Int) * num) = (x : Int) * num := by unfold wrap64; omega
  have q2 : wrap64 (((W - 1 : Nat) : Int) * num) = ((W - 1 : Nat) : Int) * num := by unfold wrap64; omega
  have HS := Lib.hid hs
  clear hs
  go_enter Try.func24, Try.ntmps24
  go_wp2_with fail
  refine (reffloor_any _ den hd1 (by omega) (by omega) _).mono ?_
  rintro e w1 ⟨rfl, rfl⟩
  go_wp2_with fail
  refine (reffloor_any _ den hd1 (by omega) (by omega) _).mono ?_
  rintro e w1 ⟨rfl, rfl⟩
  generalize (x : Int) * num / den = rx at *
  generalize ((W - 1 : Nat) : Int) * num / den = rw_ at *
  go_wp2_with fail
  all_goals
    go_ret
    exact ⟨ret_int (by have := HS.out; omega), rfl⟩
theorem max2_int (k k' : IntKind) (x y : Int) : Builtin.max2 (.int k x) (.int k' y) = pure (.int k (max x y)) := by
  simp only [Builtin.max2, gt_iff_lt]
  congr 2
  split <;> omega
theorem min2_int (k k' : IntKind) (x y : Int) : Builtin.min2 (.int k x) (.int k' y) = pure (.int k (min x y)) := by
  simp only [Builtin.min2]
  congr 2
  split <;> omega
theorem max_two (ats : Array TypeId) (ty : TypeId) (a b : Value) : Builtin.max_ ats ty #[a, b] = (Builtin.max2 a b >>= fun s => pure s) := by simp only [Builtin.max_, List.foldlM_cons, List.foldlM_nil]
theorem min_two (ats : Array TypeId) (ty : TypeId) (a b : Value) : Builtin.min_ ats ty #[a, b] = (Builtin.min2 a b >>= fun s => pure s) := by simp only [Builtin.min_, List.foldlM_cons, List.foldlM_nil]
/-! ### the shifts -/
def outL (W : Nat) (num den : Int) (k : Nat) : List Value := (List.range W).map fun x => .int .i64 (if x < k then Skew.raw num den x else 0)
def shL (W : Nat) (num den : Int) (k : Nat) : List Value := (List.range W).map fun x => .int .i64 (if x < k then ((Skew.sh W num den x : Nat) : Int) else Skew.raw num den x)
theorem map_get (W : Nat) (f : Nat → Value) (i : Nat) (hi : i < W) : ((List.range W).map f).toArray[i]? = some (f i) := by
  simp [List.getElem?_map, List.getElem?_range hi]
theorem map_set (W : Nat) (f f' : Nat → Value) (k : Nat) (h : ∀ i, i < W → i ≠ k → f i = f' i) : ((List.range W).map f).toArray.setIfInBounds k (f' k) = ((List.range W).map f').toArray := by
  apply Array.ext_getElem?
  intro i
  rw [Array.getElem?_setIfInBounds]
  by_cases hi : i < W
  · rw [map_get W f i hi, map_get W f' i hi]
    by_cases hik : k = i
    · subst hik
      have : k < ((List.range W).map f).toArray.size := by simp [hi]
      rw [if_pos rfl, if_pos this]
    · rw [if_neg hik, h i hi (fun e => hik e.symm)]
  · have h1 : ((List.range W).map f).toArray[i]? = none := by simp; omega
    have h2 : ((List.range W).map f').toArray[i]? = none := by simp; omega
    rw [h1, h2]
    split
    · rename_i hk; subst hk
      have : ¬ k < ((List.range W).map f).toArray.size := by simp; omega
      rw [if_neg this]
    · rfl
theorem outL_set (W : Nat) (num den : Int) (k : Nat) : (outL W num den k).toArray.setIfInBounds k (.int .i64 (Skew.raw num den k)) = (outL W num den (k + 1)).toArray := by
  have := map_set W (fun x => .int .i64 (if x < k then Skew.raw num den x else 0)) (fun x => .int .i64 (if x < k + 1 then Skew.raw num den x else 0)) k (fun i _ hi => by
    have : i < k ↔ i < k + 1 := by omega
    simp [this])
  simp only [show k < k + 1 from by omega, if_true] at this
  exact this
theorem shL_set (W : Nat) (num den : Int) (k : Nat) : (shL W num den k).toArray.setIfInBounds k (.int .i64 ((Skew.sh W num den k : Nat) : Int)) = (shL W num den (k + 1)).toArray := by
  have := map_set W (fun x => .int .i64 (if x < k then ((Skew.sh W num den x : Nat) : Int) else Skew.raw num den x)) (fun x => .int .i64 (if x < k + 1 then ((Skew.sh W num den x : Nat) : Int) else Skew.raw num den x)) k (fun i _ hi => by
    have : i < k ↔ i < k + 1 := by omega
    simp [this])
  simp only [show k < k + 1 from by omega, if_true] at this
  exact this
theorem outL_get (W : Nat) (num den : Int) (k i : Nat) (hi : i < W) : (outL W num den k).toArray[i]? = some (.int .i64 (if i < k then Skew.raw num den i else 0)) := map_get W _ i hi
theorem shL_get (W : Nat) (num den : Int) (k i : Nat) (hi : i < W) : (shL W num den k).toArray[i]? = some (.int .i64 (if i < k then ((Skew.sh W num den i : Nat) : Int) else Skew.raw num den i)) := map_get W _ i hi
theorem outL_zero (W : Nat) (num den : Int) : outL W num den 0 = List.replicate W (.int .i64 0) := by
  unfold outL
  simp only [Nat.not_lt_zero, if_false]
  rw [List.map_const', List.length_range]
theorem outL_shL (W : Nat) (num den : Int) : outL W num den W = shL W num den 0 := by
  unfold outL shL
  apply List.map_congr_left
  intro i hi
  have := List.mem_range.1 hi
  simp [this]
attribute [irreducible] outL shL
theorem info3 : (Try.prog.info? 3).map (fun i => (i.zero, i.size, i.bytes)) = some (some (.int .i64 0), 1, 8) := by kernel_rfl
theorem mixed : Try.prog.follows .mixedOrders = true := by kernel_rfl
/-- the shifts stand in block g -/
def ShB (w : World) (g W : Nat) (num den : Int) : Prop := Blk w g 3 (shL W num den W).toArray
attribute [local go_sem] max2_int min2_int max_two min_two
set_option maxRecDepth 100000 in
set_option maxHeartbeats 2000000 in
theorem shifts_any (W : Nat) (num den : Int) (hW1 : 1 ≤ W) (hW : W ≤ 4096) (hd1 : 1 ≤ den) (h1 : -4096 ≤ num) (h2 : num ≤ 4096) (w : World) :
    Calls Try.prog 32 #[.int .i64 (W : Int), .int .i64 num, .int .i64 den] w fun e w' => e = .returned (.tuple #[.slice (some ⟨w.heap.size, 0, none⟩) W W, .int .i64 ((Skew.top W num den : Nat) : Int)]) ∧ ShB w' w.heap.size W num den ∧ Below w.heap.size w w' := by
  go_enter Try.func32, Try.ntmps32
  go_wp2_with (refine wpList_make1 rfl 44 _ _ rfl 3 _ 8 Try.underlying44 info3 rfl _ _ W rfl rfl (by omega) (by omega) ?_; intro w1 hb1 hB1 hz1; rw [← outL_zero W num den] at hb1; clear hz1)
  go_loopw [9, 10, 16] (fun vl vm vx wr => ∃ x : Nat, x ≤ W ∧ vx = .int .i64 (x : Int) ∧ vl = .int .i64 (Skew.least num den x) ∧ vm = .int .i64 (Skew.most num den x) ∧ Blk wr w.heap.size 3 (outL W num den x).toArray ∧ Below w.heap.size w wr) (fun _ _ vx _ => W - (intOf vx).toNat)
  case atStart => exact ⟨0, Nat.zero_le _, rfl, rfl, rfl, hb1, hB1⟩
  case round =>
    clear hb1 hB1
    obtain ⟨x, hx, rfl, rfl, rfl, hb, hB⟩ := hrel
    have HB := Lib.hid hB
    have Hb := Lib.hid hb
    clear hb hB
    by_cases hlt : x < W
    · have hd : decide ((x : Int) < (W : Int)) = true := decide_eq_true (by omega)
      have b1 := mul_bound (x := x) (by omega) h1 h2
      have q1 : wrap64 ((x : Int) * num) = (x : Int) * num := by unfold wrap64; omega
      have hc0 := blk_cell Hb.out x _ (outL_get W num den x x hlt)
      have hf0 := Hb.out.frozen x
      have hbn := Hb.out.set_ x (.int .i64 (Skew.raw num den x))
      rw [outL_set] at hbn
      have Hbn := Lib.hid hbn
      have HBn := Lib.hid (HB.out.setCell (p := ⟨w.heap.size, x, none⟩) (by simp) (.int .i64 (Skew.raw num den x)))
      have hc1 := blk_cell hbn x (.int .i64 (Skew.raw num den x)) (by rw [outL_get W num den (x + 1) x hlt, if_pos (by omega)])
      have hls := Skew.least_succ (num := num) hd1 x
      have hms := Skew.most_succ (num := num) hd1 x
      have Hls := Lib.hid hls
      have Hms := Lib.hid hms
      clear hbn hls hms
      go_wp2_with fail
      refine (floor_any _ den hd1 (by omega) (by omega) _).mono ?_
      rintro e w2 ⟨rfl, rfl⟩
      rw [show (x : Int) * num / den = Skew.raw num den x from rfl]
      generalize hl0 : Skew.least num den x = l0 at *
      generalize hm0 : Skew.most num den x = m0 at *
      generalize hr0 : Skew.raw num den x = r0 at *
      clear hl0 hm0 hr0
      go_wp2_with fail
      generalize wr.setCell ⟨w.heap.size, x, none⟩ (.int .i64 r0) = wn at *
      go_quiet (fail)
      go_wp2_with fail
      go_roundw
      case rel => exact ⟨x + 1, by omega, by go_num, by rw [Hls.out], by rw [Hms.out], Hbn.out, below_drewN HBn.out _⟩
      case measure => simp [intOf]; omega
    · have hd : decide ((x : Int) < (W : Int)) = false := decide_eq_false (by omega)
      obtain rfl : x = W := by omega
      rw [outL_shL] at Hb
      have hl1 := Skew.least_nonpos num den x
      have hl2 := Skew.least_bound hd1 h1 h2 hW
      have hm1 := Skew.most_nonneg num den x
      have hm2 := Skew.most_bound hd1 h1 h2 hW
      have htop := Lib.hid (Skew.top_eq x num den)
      generalize hl0 : Skew.least num den x = l0 at *
      generalize hm0 : Skew.most num den x = m0 at *
      have HL0 := Lib.hid hl0
      have HM0 := Lib.hid hm0
      clear hl0 hm0
      go_wp2_with fail
      go_loopw [41] (fun vy wr => ∃ y : Nat, y ≤ x ∧ vy = .int .i64 (y : Int) ∧ Blk wr w.heap.size 3 (shL x num den y).toArray ∧ Below w.heap.size w wr) (fun vy _ => x - (intOf vy).toNat)
      case atStart => exact ⟨0, Nat.zero_le _, rfl, Hb.out, HB.out⟩
      case round =>
        clear Hb HB
        obtain ⟨y, hy, rfl, hb, hB⟩ := hrel
        have HB := Lib.hid hB
        have Hb := Lib.hid hb
        clear hb hB
        by_cases hlt2 : y < x
        · have hd2 : decide ((y : Int) < (x : Int)) = true := decide_eq_true (by omega)
          have hc0 := blk_cell Hb.out y (.int .i64 (Skew.raw num den y)) (by rw [shL_get x num den y y hlt2, if_neg (by omega)])
          have hf0 := Hb.out.frozen y
          have hbn := Hb.out.set_ y (.int .i64 ((Skew.sh x num den y : Nat) : Int))
          rw [shL_set] at hbn
          have hse := Skew.sh_eq (num := num) hd1 hlt2
          rw [HL0.out] at hse
          have hrb := Skew.raw_bound hd1 h1 h2 (show y ≤ 4096 by omega)
          have Hbn := Lib.hid hbn
          have HBn := Lib.hid (HB.out.setCell (p := ⟨w.heap.size, y, none⟩) (by simp) (.int .i64 ((Skew.sh x num den y : Nat) : Int)))
          generalize Skew.raw num den y = r0 at *
          rw [hse] at Hbn HBn
          clear hbn hse
          go_wp2_with fail
          go_roundw
          case rel => exact ⟨y + 1, by omega, by go_num, Hbn.out, HBn.out⟩
          case measure => simp [intOf]; omega
        · have hd2 : decide ((y : Int) < (x : Int)) = false := decide_eq_false (by omega)
          obtain rfl : y = x := by omega
          go_wp2
          go_ret2
          exact ⟨by rw [htop.out]; rfl, Hb.out, HB.out⟩
end Go.Proofs.Yticbpifgjjcjmaa
