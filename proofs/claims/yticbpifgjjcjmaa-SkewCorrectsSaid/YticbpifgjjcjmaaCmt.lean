/- Plain laws of the correction: rows that are dark or light, their columns moved up, are restored by the slope of the greatest energy. -/
import Derived.Test.YticbpifgjjcjmaaKmt
import Derived.Test.YticbpifgjjcjmaaMax
import Derived.Test.YticbpifgjjcjmaaTrm
import Derived.Test.YticbpifgjjcjmaaDsk
namespace Go.Proofs.Yticbpifgjjcjmaa
namespace Skew
/-- the sum of the first numbers -/
def sm (c : Nat → Nat) : Nat → Nat
  | 0 => 0
  | y + 1 => sm c y + c y
theorem sm_congr {c c' : Nat → Nat} {L : Nat} (h : ∀ y, y < L → c y = c' y) : sm c L = sm c' L := by
  induction L with
  | zero => rfl
  | succ L ih => rw [sm, sm, ih (fun y hy => h y (by omega)), h L (by omega)]
theorem sm_add {c : Nat → Nat} {L r : Nat} (hr : r < L) : sm (fun y => c y + (if r = y then 1 else 0)) L = sm c L + 1 := by
  induction L with
  | zero => omega
  | succ L ih =>
    rw [sm, sm]
    by_cases h : r = L
    · subst h
      rw [sm_congr (c' := c) (fun y hy => by rw [if_neg (by omega), Nat.add_zero]), if_pos rfl]
      omega
    · rw [ih (by omega), if_neg h]; omega
/-- the dark ones of the first k pixels -/
def tot (D : List Bool) : Nat → Nat
  | 0 => 0
  | k + 1 => tot D k + (if dk D k = true then 1 else 0)
theorem sm_zero (L : Nat) : sm (fun _ => 0) L = 0 := by
  induction L with
  | zero => rfl
  | succ L ih => rw [sm, ih]
theorem sm_cn {D : List Bool} {f : Nat → Nat} {k L : Nat} (h : ∀ i, i < k → dk D i = true → f i < L) : sm (cn D f k) L = tot D k := by
  induction k with
  | zero => exact sm_zero L
  | succ k ih =>
    have ih := ih (fun i hi => h i (by omega))
    cases hd : dk D k
    · rw [sm_congr (fun y _ => cn_light hd y), ih, tot, hd]; simp
    · rw [sm_congr (fun y _ => cn_dark hd y), sm_add (h k (by omega) hd), ih, tot, hd]; simp
theorem sq_le_sm {c : Nat → Nat} {W L : Nat} (h : ∀ y, y < L → c y ≤ W) : sq c L ≤ W * sm c L := by
  induction L with
  | zero => simp [sq]
  | succ L ih =>
    have ih := ih (fun y hy => h y (by omega))
    have := Nat.mul_le_mul (h L (by omega)) (Nat.le_refl (c L))
    rw [sq, sm, Nat.mul_add]; omega
theorem sq_full {c : Nat → Nat} {W L : Nat} (h : ∀ y, y < L → c y ≤ W) (he : W * sm c L ≤ sq c L) : ∀ y, y < L → c y = 0 ∨ c y = W := by
  induction L with
  | zero => intro y hy; omega
  | succ L ih =>
    have hle := sq_le_sm (c := c) (W := W) (L := L) (fun y hy => h y (by omega))
    have h1 := Nat.mul_le_mul (h L (by omega)) (Nat.le_refl (c L))
    rw [sq, sm, Nat.mul_add] at he
    intro y hy
    by_cases hyL : y = L
    · subst hyL
      rcases Nat.eq_zero_or_pos (c y) with h0 | h0
      · exact .inl h0
      · right
        exact Nat.eq_of_mul_eq_mul_right h0 (show c y * c y = W * c y by omega)
    · exact ih (fun y hy => h y (by omega)) (by omega) y (by omega)
theorem sq_two {c : Nat → Nat} {W L : Nat} (h : ∀ y, y < L → c y = 0 ∨ c y = W) : sq c L = W * sm c L := by
  induction L with
  | zero => simp [sq, sm]
  | succ L ih =>
    rw [sq, sm, Nat.mul_add, ih (fun y hy => h y (by omega))]
    rcases h L (by omega) with h0 | h0 <;> rw [h0] <;> simp
/-- the dark ones of x pixels from the place o on -/
def rc (D : List Bool) (o : Nat) : Nat → Nat
  | 0 => 0
  | x + 1 => rc D o x + (if dk D (o + x) = true then 1 else 0)
theorem rc_le (D : List Bool) (o x : Nat) : rc D o x ≤ x := by
  induction x with
  | zero => exact Nat.le_refl _
  | succ x ih => rw [rc]; split <;> omega
theorem rc_cn {W : Nat} {D : List Bool} (hW : 1 ≤ W) (y x : Nat) (hx : x ≤ W) : cn D (fun i => i / W) (y * W + x) y = rc D (y * W) x := by
  induction x with
  | zero => rw [Nat.add_zero, pf_start hW]; rfl
  | succ x ih =>
    have hq : (y * W + x) / W = y := by rw [Nat.mul_comm, Nat.mul_add_div (by omega), Nat.div_eq_of_lt (by omega), Nat.add_zero]
    rw [← Nat.add_assoc, cn, ih (by omega), rc]
    simp only [hq, and_true]
theorem pf_rc {W H : Nat} {D : List Bool} (hW : 1 ≤ W) (hD : D.length = W * H) {y : Nat} (hy : y < H) : pf W D y = rc D (y * W) W := by
  rw [← pf_end hW hD hy, rc_cn hW y W (Nat.le_refl _)]
theorem rc_all {D : List Bool} {o x : Nat} (h : rc D o x = x) : ∀ i, i < x → dk D (o + i) = true := by
  induction x with
  | zero => intro i hi; omega
  | succ x ih =>
    intro i hi
    have hle := rc_le D o x
    rw [rc] at h
    split at h
    · rename_i hd
      by_cases hix : i = x
      · subst hix; exact hd
      · exact ih (by omega) i (by omega)
    · omega
theorem rc_none {D : List Bool} {o x : Nat} (h : rc D o x = 0) : ∀ i, i < x → dk D (o + i) = false := by
  induction x with
  | zero => intro i hi; omega
  | succ x ih =>
    intro i hi
    rw [rc] at h
    split at h
    · omega
    · rename_i hd
      by_cases hix : i = x
      · subst hix; simpa using hd
      · exact ih (by omega) i (by omega)
theorem rc_same {D : List Bool} {o x : Nat} {b : Bool} (h : ∀ i, i < x → dk D (o + i) = b) : rc D o x = if b = true then x else 0 := by
  induction x with
  | zero => cases b <;> rfl
  | succ x ih =>
    rw [rc, ih (fun i hi => h i (by omega)), h x (by omega)]
    cases b <;> simp
/-- each row of D is dark or light, as q says -/
def Uni (D : List Bool) (W H : Nat) (q : Nat → Bool) : Prop := ∀ y x, y < H → x < W → dk D (y * W + x) = q y
theorem Uni.two {D : List Bool} {W H : Nat} {q : Nat → Bool} (h : Uni D W H q) (hW : 1 ≤ W) (hD : D.length = W * H) {y : Nat} (hy : y < H) : pf W D y = 0 ∨ pf W D y = W := by
  rw [pf_rc hW hD hy, rc_same (fun x hx => h y x hy hx)]
  cases q y
  · exact .inl rfl
  · exact .inr rfl
theorem uni_of {D : List Bool} {W H : Nat} (hW : 1 ≤ W) (hD : D.length = W * H) (h : ∀ y, y < H → pf W D y = 0 ∨ pf W D y = W) : Uni D W H (fun y => dk D (y * W)) := by
  intro y x hy hx
  rcases h y hy with h1 | h1
  · rw [pf_rc hW hD hy] at h1
    have a := rc_none h1 x hx
    have b := rc_none h1 0 (by omega)
    rw [Nat.add_zero] at b
    show _ = dk D (y * W)
    rw [a, b]
  · rw [pf_rc hW hD hy] at h1
    have a := rc_all h1 x hx
    have b := rc_all h1 0 (by omega)
    rw [Nat.add_zero] at b
    show _ = dk D (y * W)
    rw [a, b]
theorem top_le_mul {W N d : Nat} {num : Int} (hW : 1 ≤ W) (hd : 1 ≤ d) (h1 : -(N : Int) ≤ num) (h2 : num ≤ N) : top W num d ≤ W * N := by
  have h3 : (W - 1) * N ≤ W * N := Nat.mul_le_mul (by omega) (Nat.le_refl N)
  have hx : ((W - 1 : Nat) : Int) * num ≤ (((W - 1) * N : Nat) : Int) := by
    rw [Int.natCast_mul]; exact Int.mul_le_mul_of_nonneg_left h2 (by omega)
  have hy : -(((W - 1) * N : Nat) : Int) ≤ ((W - 1 : Nat) : Int) * num := by
    rw [Int.natCast_mul, ← Int.mul_neg]; exact Int.mul_le_mul_of_nonneg_left h1 (by omega)
  generalize (W - 1) * N = M at *
  have hMd : M ≤ M * d := Nat.le_mul_of_pos_right _ (by omega)
  have hMd' : (M : Int) ≤ (M : Int) * (d : Int) := by rw [← Int.natCast_mul]; omega
  have hr1 : raw num d (W - 1) ≤ M := by
    unfold raw
    have : ((W - 1 : Nat) : Int) * num / (d : Int) ≤ (M : Int) * (d : Int) / (d : Int) := Int.ediv_le_ediv (by omega) (by omega)
    rwa [Int.mul_ediv_cancel _ (by omega)] at this
  have hr2 : -(M : Int) ≤ raw num d (W - 1) := by
    unfold raw
    rw [Int.le_ediv_iff_mul_le (by omega), Int.neg_mul]
    omega
  unfold top most least
  rw [if_neg (by omega), if_neg (by omega)]
  omega
end Skew
open Skew
/-- rows of W pixels that are dark or light -/
def orL (R : List Bool) (W k : Nat) : List Bool := (List.range k).map fun j => R.getD (j / W) false
/-- the pixel of the moved bitmap: the rows, each column moved up -/
def mvB (R : List Bool) (W : Nat) (n : Int) (d y x : Nat) : Bool := decide (top W n d ≤ y + sh W n d x) && R.getD (y + sh W n d x - top W n d) false
def mvL (R : List Bool) (W : Nat) (n : Int) (d k : Nat) : List Bool := (List.range k).map fun j => mvB R W n d (j / W) (j % W)
theorem orL_len (R : List Bool) (W k : Nat) : (orL R W k).length = k := by simp [orL]
theorem mvL_len (R : List Bool) (W : Nat) (n : Int) (d k : Nat) : (mvL R W n d k).length = k := by simp [mvL]
theorem getD_ge {R : List Bool} {i : Nat} (h : R.length ≤ i) : R.getD i false = false := by
  rw [List.getD_eq_getElem?_getD, List.getElem?_eq_none h]; rfl
theorem getD_true {R : List Bool} {i : Nat} (h : R.getD i false = true) : i < R.length := by
  rcases Nat.lt_or_ge i R.length with h1 | h1
  · exact h1
  · rw [getD_ge h1] at h; cases h
theorem idx_div {W x : Nat} (hx : x < W) (y : Nat) : (y * W + x) / W = y := by rw [Nat.mul_comm, Nat.mul_add_div (by omega), Nat.div_eq_of_lt hx, Nat.add_zero]
theorem idx_mod {W x : Nat} (hx : x < W) (y : Nat) : (y * W + x) % W = x := by rw [Nat.mul_add_mod', Nat.mod_eq_of_lt hx]
theorem orL_uni (R : List Bool) (W H : Nat) : Uni (orL R W (H * W)) W H (fun y => R.getD y false) := fun y x hy hx => by
  have hi := at_idx hx hy
  rw [Nat.mul_comm W H] at hi
  unfold dk orL
  rw [List.getD_eq_getElem?_getD, List.getElem?_map, List.getElem?_range hi]
  simp only [Option.map_some, Option.getD_some, idx_div hx]
theorem mvL_at {R : List Bool} {W H : Nat} {n : Int} {d y x : Nat} (hy : y < H) (hx : x < W) : dk (mvL R W n d (H * W)) (y * W + x) = mvB R W n d y x := by
  have hi := at_idx hx hy
  rw [Nat.mul_comm W H] at hi
  unfold dk mvL
  rw [List.getD_eq_getElem?_getD, List.getElem?_map, List.getElem?_range hi]
  simp only [Option.map_some, Option.getD_some, idx_div hx, idx_mod hx]
/-- what stands in a shear of the moved bitmap -/
theorem mv_shear {R : List Bool} {W H : Nat} {n b : Int} {d y x : Nat} (hd : 1 ≤ d) (hx : x < W) (hH : R.length + top W n d ≤ H) :
    mk (mvL R W n d (H * W)) (place W b d) (mvL R W n d (H * W)).length (y * W + x) = (decide (sh W b d x + top W n d ≤ y + sh W n d x) && R.getD (y + sh W n d x - (sh W b d x + top W n d)) false) := by
  rw [mk_at hx]
  have hT := sh_le (num := n) (den := d) (by omega) hx
  by_cases h1 : sh W b d x ≤ y
  · rw [decide_eq_true h1, Bool.true_and]
    by_cases h2 : y - sh W b d x < H
    · rw [mvL_at h2 hx]
      unfold mvB
      by_cases h3 : sh W b d x + top W n d ≤ y + sh W n d x
      · rw [decide_eq_true h3, decide_eq_true (by omega), show y - sh W b d x + sh W n d x - top W n d = y + sh W n d x - (sh W b d x + top W n d) by omega]
      · rw [decide_eq_false h3, decide_eq_false (by omega), Bool.false_and, Bool.false_and]
    · rw [dk_far (by
        rw [mvL_len]
        have := Nat.mul_le_mul (show H ≤ y - sh W b d x by omega) (Nat.le_refl W)
        omega), getD_ge (by omega), Bool.and_false]
  · rw [decide_eq_false h1, Bool.false_and, decide_eq_false (by omega), Bool.false_and]
section
variable {R : List Bool} {W d : Nat} {n : Int}
/-- the energy at the slope by which the columns were moved -/
theorem energy_true (hW : 1 ≤ W) (hd : 1 ≤ d) {H : Nat} (hH : R.length + top W n d ≤ H) :
    energy W (mvL R W n d (H * W)) n d = W * tot (mvL R W n d (H * W)) (mvL R W n d (H * W)).length := by
  have hD : (mvL R W n d (H * W)).length = W * H := by rw [mvL_len, Nat.mul_comm]
  rw [← sq_shear hW (by omega) hD]
  have hE : (mkL (mvL R W n d (H * W)) (place W n d) (mvL R W n d (H * W)).length (W * (H + top W n d))).length = W * (H + top W n d) := mkL_len _ _ _ _
  have hU : Uni (mkL (mvL R W n d (H * W)) (place W n d) (mvL R W n d (H * W)).length (W * (H + top W n d))) W (H + top W n d) (fun y => decide (top W n d ≤ y) && R.getD (y - top W n d) false) := fun y x hy hx => by
    show _ = (decide (top W n d ≤ y) && R.getD (y - top W n d) false)
    rw [dk_mkL (at_idx hx hy), mv_shear hd hx hH]
    by_cases h : top W n d ≤ y
    · rw [decide_eq_true h, decide_eq_true (by omega), show y + sh W n d x - (sh W n d x + top W n d) = y - top W n d by omega]
    · rw [decide_eq_false h, decide_eq_false (by omega), Bool.false_and, Bool.false_and]
  rw [sq_two (fun y hy => hU.two hW hE hy)]
  congr 1
  have hfun : pf W (mkL (mvL R W n d (H * W)) (place W n d) (mvL R W n d (H * W)).length (W * (H + top W n d))) = cn (mvL R W n d (H * W)) (rowOf W n d) (mvL R W n d (H * W)).length := funext fun y => pf_shear hW (by omega) hD y
  rw [hfun]
  refine sm_cn (fun i hi _ => ?_)
  have h1 := sh_le (num := n) (den := d) (by omega) (Nat.mod_lt i (show 0 < W by omega))
  have h2 : i / W < H := (Nat.div_lt_iff_lt_mul (show 0 < W by omega)).2 (by rw [Nat.mul_comm]; omega)
  unfold rowOf
  omega
/-- a slope with no smaller energy restores the rows, moved down by some number -/
theorem uni_best (hW : 1 ≤ W) (hd : 1 ≤ d) {H : Nat} (hH : R.length + top W n d ≤ H) {b : Int} (hb : energy W (mvL R W n d (H * W)) n d ≤ energy W (mvL R W n d (H * W)) b d) :
    Uni (mkL (mvL R W n d (H * W)) (place W b d) (mvL R W n d (H * W)).length (W * (H + top W b d))) W (H + top W b d)
      (fun y => decide (sh W b d 0 + (top W n d - sh W n d 0) ≤ y) && R.getD (y - (sh W b d 0 + (top W n d - sh W n d 0))) false) := by
  have hD : (mvL R W n d (H * W)).length = W * H := by rw [mvL_len, Nat.mul_comm]
  have hE : (mkL (mvL R W n d (H * W)) (place W b d) (mvL R W n d (H * W)).length (W * (H + top W b d))).length = W * (H + top W b d) := mkL_len _ _ _ _
  rw [energy_true hW hd hH, ← sq_shear hW (by omega) hD] at hb
  have hsm : sm (pf W (mkL (mvL R W n d (H * W)) (place W b d) (mvL R W n d (H * W)).length (W * (H + top W b d)))) (H + top W b d) = tot (mvL R W n d (H * W)) (mvL R W n d (H * W)).length := by
    have hfun : pf W (mkL (mvL R W n d (H * W)) (place W b d) (mvL R W n d (H * W)).length (W * (H + top W b d))) = cn (mvL R W n d (H * W)) (rowOf W b d) (mvL R W n d (H * W)).length := funext fun y => pf_shear hW (by omega) hD y
    rw [hfun]
    refine sm_cn (fun i hi _ => ?_)
    have h1 := sh_le (num := b) (den := d) (by omega) (Nat.mod_lt i (show 0 < W by omega))
    have h2 : i / W < H := (Nat.div_lt_iff_lt_mul (show 0 < W by omega)).2 (by rw [Nat.mul_comm]; omega)
    unfold rowOf
    omega
  rw [← hsm] at hb
  have hU := uni_of hW hE (sq_full (fun y hy => by rw [pf_rc hW hE hy]; exact rc_le _ _ _) hb)
  intro y x hy hx
  rw [hU y x hy hx]
  have h0 : 0 < W := by omega
  have e := dk_mkL (D := mvL R W n d (H * W)) (p := place W b d) (k := (mvL R W n d (H * W)).length) (at_idx h0 hy)
  rw [Nat.add_zero] at e
  have hT := sh_le (num := n) (den := d) (by omega) h0
  have m := mv_shear (R := R) (b := b) (y := y) hd h0 hH
  rw [Nat.add_zero] at m
  show dk _ (y * W) = (decide (sh W b d 0 + (top W n d - sh W n d 0) ≤ y) && R.getD (y - (sh W b d 0 + (top W n d - sh W n d 0))) false)
  rw [e, m]
  by_cases h : sh W b d 0 + (top W n d - sh W n d 0) ≤ y
  · rw [decide_eq_true h, decide_eq_true (by omega), show y + sh W n d 0 - (sh W b d 0 + top W n d) = y - (sh W b d 0 + (top W n d - sh W n d 0)) by omega]
  · rw [decide_eq_false h, decide_eq_false (by omega), Bool.false_and, Bool.false_and]
end
/-! the trimmed rows -/
theorem dks_first {D : List Bool} {k f : Nat} (h : (dks D k)[0]? = some f) : ∀ i, i < f → dk D i = false := by
  intro i hi
  have hf := dks_lt h
  cases hd : dk D i
  · rfl
  · have hm : i ∈ dks D k := by unfold dks; rw [List.mem_filter, List.mem_range]; exact ⟨by omega, hd⟩
    obtain ⟨j, hj, e⟩ := List.mem_iff_getElem.1 hm
    have hp : (dks D k).Pairwise (· < ·) := by unfold dks; exact List.Pairwise.filter _ List.pairwise_lt_range
    obtain ⟨h1, e1⟩ := List.getElem?_eq_some_iff.1 h
    rcases Nat.eq_zero_or_pos j with h0 | h0
    · subst h0; omega
    · have := (List.pairwise_iff_getElem.1 hp) 0 j h1 hj h0
      omega
theorem dks_last {D : List Bool} {k l : Nat} (h : (dks D k)[(dks D k).length - 1]? = some l) : ∀ i, l < i → i < k → dk D i = false := by
  intro i hi hk
  cases hd : dk D i
  · rfl
  · have hm : i ∈ dks D k := by unfold dks; rw [List.mem_filter, List.mem_range]; exact ⟨hk, hd⟩
    obtain ⟨j, hj, e⟩ := List.mem_iff_getElem.1 hm
    have hp : (dks D k).Pairwise (· < ·) := by unfold dks; exact List.Pairwise.filter _ List.pairwise_lt_range
    obtain ⟨h1, e1⟩ := List.getElem?_eq_some_iff.1 h
    by_cases h0 : j = (dks D k).length - 1
    · subst h0; omega
    · have := (List.pairwise_iff_getElem.1 hp) j ((dks D k).length - 1) hj h1 (by omega)
      omega
theorem dks_mem {D : List Bool} {k i : Nat} (hi : i < k) (hd : dk D i = true) : dks D k ≠ [] := by
  have hm : i ∈ dks D k := by unfold dks; rw [List.mem_filter, List.mem_range]; exact ⟨hi, hd⟩
  intro h; rw [h] at hm; cases hm
/-- the first and the last dark row of rows that are dark or light -/
theorem Skew.Uni.ends {D : List Bool} {W H : Nat} {q : Nat → Bool} (h : Uni D W H q) (hW : 1 ≤ W) (hD : D.length = W * H) {f l : Nat} (hf : (dks D D.length)[0]? = some f) (hl : (dks D D.length)[(dks D D.length).length - 1]? = some l) :
    f / W < H ∧ l / W < H ∧ f / W ≤ l / W ∧ q (f / W) = true ∧ q (l / W) = true ∧ (∀ y, y < f / W → q y = false) ∧ (∀ y, l / W < y → y < H → q y = false) := by
  obtain ⟨f1, f2⟩ := dks_lt hf
  obtain ⟨l1, l2⟩ := dks_lt hl
  have hdiv : ∀ i, i < D.length → i / W < H := fun i hi => (Nat.div_lt_iff_lt_mul (show 0 < W by omega)).2 (by rw [Nat.mul_comm]; omega)
  have hq : ∀ i, i < D.length → dk D i = q (i / W) := fun i hi => by
    have := h (i / W) (i % W) (hdiv i hi) (Nat.mod_lt _ (by omega))
    rwa [Nat.mul_comm, Nat.div_add_mod] at this
  have hz : ∀ y, y < H → y * W < D.length ∧ dk D (y * W) = q y := fun y hy => by
    have h1 := at_idx (show 0 < W by omega) hy
    have h2 := h y 0 hy (by omega)
    rw [Nat.add_zero] at h1 h2
    exact ⟨by omega, h2⟩
  refine ⟨hdiv f f1, hdiv l l1, Nat.div_le_div_right (dks_le hf hl), by rw [← hq f f1]; exact f2, by rw [← hq l l1]; exact l2, fun y hy => ?_, fun y hy hyH => ?_⟩
  · have := hdiv f f1
    rw [← (hz y (by omega)).2]
    refine dks_first hf _ ?_
    have := (Nat.le_div_iff_mul_le (show 0 < W by omega)).1 (show y + 1 ≤ f / W from hy)
    rw [Nat.add_mul] at this
    omega
  · rw [← (hz y hyH).2]
    refine dks_last hl _ ?_ (hz y hyH).1
    have := (Nat.div_lt_iff_lt_mul (show 0 < W by omega)).1 hy
    omega
/-- the trimmed rows of rows and of the same rows moved down are equal -/
theorem trim_same {R : List Bool} {W H H' c : Nat} {D E : List Bool} (hW : 1 ≤ W) (hD : D.length = W * H) (hE : E.length = W * H') (hU : Uni D W H (fun y => R.getD y false)) (hV : Uni E W H' (fun y => decide (c ≤ y) && R.getD (y - c) false)) (hH : R.length = H) (hc : c + H ≤ H')
    {f l f' l' : Nat} (hf : (dks D D.length)[0]? = some f) (hl : (dks D D.length)[(dks D D.length).length - 1]? = some l) (hf' : (dks E E.length)[0]? = some f') (hl' : (dks E E.length)[(dks E E.length).length - 1]? = some l') :
    l' / W - f' / W + 1 = l / W - f / W + 1 ∧ crL E (f' / W * W) ((l / W - f / W + 1) * W) = crL D (f / W * W) ((l / W - f / W + 1) * W) := by
  obtain ⟨a1, a2, a3, a4, a5, a6, a7⟩ := hU.ends hW hD hf hl
  obtain ⟨b1, b2, b3, b4, b5, b6, b7⟩ := hV.ends hW hE hf' hl'
  generalize f / W = s at *
  generalize l / W = t at *
  generalize f' / W = s' at *
  generalize l' / W = t' at *
  simp only [Bool.and_eq_true, decide_eq_true_eq] at b4 b5
  have hs : s' = s + c := by
    rcases Nat.lt_trichotomy s' (s + c) with h | h | h
    · have := a6 (s' - c) (by omega); rw [this] at b4; exact absurd b4.2 (by simp)
    · exact h
    · have := b6 (s + c) h
      simp only [Nat.add_sub_cancel] at this
      rw [decide_eq_true (by omega), a4] at this; cases this
  have ht : t' = t + c := by
    rcases Nat.lt_trichotomy t' (t + c) with h | h | h
    · have := b7 (t + c) h (by omega)
      simp only [Nat.add_sub_cancel] at this
      rw [decide_eq_true (by omega), a5] at this; cases this
    · exact h
    · have := getD_true b5.2
      have := a7 (t' - c) (by omega) (by omega); rw [this] at b5; exact absurd b5.2 (by simp)
  refine ⟨by omega, ?_⟩
  subst hs
  unfold crL
  apply List.map_congr_left
  intro j hj
  rw [List.mem_range] at hj
  have hjW : j / W < t - s + 1 := (Nat.div_lt_iff_lt_mul (show 0 < W by omega)).2 hj
  have hm := Nat.mod_lt j (show 0 < W by omega)
  have hj2 : j / W * W + j % W = j := by rw [Nat.mul_comm, Nat.div_add_mod]
  generalize j / W = z at *
  generalize j % W = r at *
  have e1 := hV (s + c + z) r (by omega) hm
  have e2 := hU (s + z) r (by omega) hm
  rw [Nat.add_mul (s + c), Nat.add_assoc, hj2] at e1
  rw [Nat.add_mul s, Nat.add_assoc, hj2] at e2
  rw [e1, e2]
  show (decide (c ≤ s + c + z) && R.getD (s + c + z - c) false) = R.getD (s + z) false
  rw [decide_eq_true (by omega), Bool.true_and, show s + c + z - c = s + z by omega]
/-- what Deskew does with the moved rows -/
theorem corrects_facts {R : List Bool} {W d : Nat} {n : Int} (hW1 : 1 ≤ W) (hW2 : W ≤ 40) (hd1 : 1 ≤ d) (hd2 : d ≤ 4096) (hn1 : -12 ≤ n) (hn2 : n ≤ 12) (hR1 : 1 ≤ R.length) (hR2 : R.length ≤ 30) :
    ∃ (b : Int) (L : Nat) (E : List Bool), deskS W ((R.length + top W n d : Nat) : Int) (mvL R W n d ((R.length + top W n d) * W)) 12 d = (((W : Int), (L : Int), E, 0), b) ∧ sndB W L E.length = true ∧
      ∀ f l, (dks (orL R W (R.length * W)) (R.length * W))[0]? = some f → (dks (orL R W (R.length * W)) (R.length * W))[(dks (orL R W (R.length * W)) (R.length * W)).length - 1]? = some l →
        dks E E.length ≠ [] ∧ ∀ f' l', (dks E E.length)[0]? = some f' → (dks E E.length)[(dks E E.length).length - 1]? = some l' →
          l' / W - f' / W + 1 = l / W - f / W + 1 ∧ crL E (f' / W * W) ((l / W - f / W + 1) * W) = crL (orL R W (R.length * W)) (f / W * W) ((l / W - f / W + 1) * W) := by
  have hT := top_le_mul (num := n) (N := 12) hW1 hd1 (by omega) (by omega)
  obtain ⟨H, hHe⟩ : ∃ H, H = R.length + top W n d := ⟨_, rfl⟩
  rw [← hHe]
  have hHb : H ≤ 510 := by omega
  have hml : (mvL R W n d (H * W)).length = W * H := by rw [mvL_len, Nat.mul_comm]
  have hWH : W * H ≤ 20400 := Nat.mul_le_mul hW2 hHb
  obtain ⟨g1, g2, g3, g4⟩ := est_best W (mvL R W n d (H * W)) d 12
  obtain ⟨b, hb⟩ : ∃ b, b = (est W (mvL R W n d (H * W)) d 12).1 := ⟨_, rfl⟩
  rw [← hb] at g1 g2 g3
  have hbT := top_le_mul (num := b) (N := 12) hW1 hd1 (by omega) (by omega)
  have hen : energy W (mvL R W n d (H * W)) n d ≤ energy W (mvL R W n d (H * W)) b d := by
    rw [← g1]
    rcases g4 n (by omega) (by omega) with h | ⟨h, _⟩ <;> omega
  have hU := uni_best hW1 hd1 (by omega) hen
  have hWL : W * (H + top W b d) ≤ 40000 := by
    have := Nat.mul_le_mul hW2 (show H + top W b d ≤ 1000 by omega); omega
  have hsn : sndB W H (mvL R W n d (H * W)).length = true := by
    rw [hml]
    exact decide_eq_true ⟨by omega, by omega, by omega, by omega, by rw [← Int.natCast_mul]; omega, by rw [Int.natCast_mul]⟩
  have hc : (W : Int) * ((H : Int) + ((top W b d : Nat) : Int)) = ((W * (H + top W b d) : Nat) : Int) := by rw [Int.natCast_mul, Int.natCast_add]
  have hes : estS W H (mvL R W n d (H * W)) 12 d = (b, 0) := by
    unfold estS
    rw [hsn, show mostB 12 (d : Int) = true from decide_eq_true (by omega), if_pos rfl, if_pos rfl, Int.toNat_natCast, hb]
    rfl
  have hsh : shearS W H (mvL R W n d (H * W)) b d = ((W : Int), ((H + top W b d : Nat) : Int), mkL (mvL R W n d (H * W)) (place W b d) (mvL R W n d (H * W)).length (W * (H + top W b d)), 0) := by
    unfold shearS
    rw [hsn, show posB b (d : Int) = true from decide_eq_true (by omega), if_pos rfl, if_pos rfl, Int.toNat_natCast, Int.toNat_natCast, if_neg (by rw [hc]; omega), Int.natCast_add]
  have hE : (mkL (mvL R W n d (H * W)) (place W b d) (mvL R W n d (H * W)).length (W * (H + top W b d))).length = W * (H + top W b d) := mkL_len _ _ _ _
  refine ⟨b, H + top W b d, mkL (mvL R W n d (H * W)) (place W b d) (mvL R W n d (H * W)).length (W * (H + top W b d)), ?_, ?_, fun f l hf hl => ?_⟩
  · unfold deskS
    rw [hes, if_pos rfl, hsh, if_pos rfl]
  · rw [hE]
    exact decide_eq_true ⟨by omega, by omega, by omega, by omega, by rw [← Int.natCast_mul]; omega, by rw [Int.natCast_mul]⟩
  · have hol : (orL R W (R.length * W)).length = R.length * W := orL_len _ _ _
    have hol2 : (orL R W (R.length * W)).length = W * R.length := by rw [hol, Nat.mul_comm]
    have hO := orL_uni R W R.length
    have hf2 : (dks (orL R W (R.length * W)) (orL R W (R.length * W)).length)[0]? = some f := by rw [hol]; exact hf
    have hl2 : (dks (orL R W (R.length * W)) (orL R W (R.length * W)).length)[(dks (orL R W (R.length * W)) (orL R W (R.length * W)).length).length - 1]? = some l := by rw [hol]; exact hl
    generalize mkL (mvL R W n d (H * W)) (place W b d) (mvL R W n d (H * W)).length (W * (H + top W b d)) = E at *
    have hs0 := sh_le (W := W) (num := n) (den := d) (x := 0) (by omega) (by omega)
    have hs1 := sh_le (W := W) (num := b) (den := d) (x := 0) (by omega) (by omega)
    generalize hcc : sh W b d 0 + (top W n d - sh W n d 0) = c at *
    have hcH : c + R.length ≤ H + top W b d := by omega
    obtain ⟨a1, a2, a3, a4, a5, a6, a7⟩ := hO.ends hW1 hol2 hf2 hl2
    refine ⟨?_, fun f' l' hf' hl' => ?_⟩
    · generalize f / W = q at *
      have h1 : q + c < H + top W b d := by omega
      have h2 := at_idx (W := W) (x := 0) (by omega) h1
      have h3 := hU (q + c) 0 h1 (by omega)
      refine dks_mem (i := (q + c) * W + 0) (by rw [hE]; exact h2) ?_
      rw [h3]
      show (decide (c ≤ q + c) && R.getD (q + c - c) false) = true
      rw [decide_eq_true (by omega), Nat.add_sub_cancel, a4]
      rfl
    · exact trim_same hW1 hol2 hE hO hU rfl hcH hf2 hl2 hf' hl'
end Go.Proofs.Yticbpifgjjcjmaa
