/- Plain mathematics of the skew: shifts of columns, counts of dark pixels by row, energies. No program in sight. -/
namespace Go.Proofs.Yticbpifgjjcjmaa
namespace Skew
/-! shifts -/
def raw (num den : Int) (x : Nat) : Int := ((x : Int) * num) / den
theorem raw_zero (num den : Int) : raw num den 0 = 0 := by unfold raw; simp
theorem raw_mono {num den : Int} (hd : 1 ≤ den) (hn : 0 ≤ num) {x y : Nat} (h : x ≤ y) : raw num den x ≤ raw num den y := by
  unfold raw
  exact Int.ediv_le_ediv (by omega) (Int.mul_le_mul_of_nonneg_right (by omega) hn)
theorem raw_anti {num den : Int} (hd : 1 ≤ den) (hn : num ≤ 0) {x y : Nat} (h : x ≤ y) : raw num den y ≤ raw num den x := by
  unfold raw
  exact Int.ediv_le_ediv (by omega) (Int.mul_le_mul_of_nonpos_right (by omega) hn)
theorem raw_nonneg {num den : Int} (hd : 1 ≤ den) (hn : 0 ≤ num) (x : Nat) : 0 ≤ raw num den x := by
  have := raw_mono hd hn (Nat.zero_le x); rwa [raw_zero] at this
theorem raw_nonpos {num den : Int} (hd : 1 ≤ den) (hn : num ≤ 0) (x : Nat) : raw num den x ≤ 0 := by
  have := raw_anti hd hn (Nat.zero_le x); rwa [raw_zero] at this
theorem raw_bound {num den : Int} (hd : 1 ≤ den) (h1 : -4096 ≤ num) (h2 : num ≤ 4096) {x : Nat} (hx : x ≤ 4096) : -16777216 ≤ raw num den x ∧ raw num den x ≤ 16777216 := by
  unfold raw
  have a : (x : Int) * num ≤ 16777216 := by
    rcases Int.le_total 0 num with h | h
    · have := Int.mul_le_mul (show (x : Int) ≤ 4096 by omega) h2 h (by omega); omega
    · have := Int.mul_nonpos_of_nonneg_of_nonpos (show 0 ≤ (x : Int) by omega) h; omega
  have b : -16777216 ≤ (x : Int) * num := by
    rcases Int.le_total 0 num with h | h
    · have := Int.mul_nonneg (show 0 ≤ (x : Int) by omega) h; omega
    · have := Int.mul_le_mul (show (x : Int) ≤ 4096 by omega) (show -num ≤ 4096 by omega) (by omega) (by omega)
      rw [Int.mul_neg] at this; omega
  constructor
  · rw [Int.le_ediv_iff_mul_le (by omega)]
    have : -16777216 * den ≤ -16777216 := by
      have := Int.mul_le_mul (show (1 : Int) ≤ den from hd) (Int.le_refl 16777216) (by omega) (by omega)
      omega
    omega
  · have : ((x : Int) * num) / den ≤ 16777216 / den := Int.ediv_le_ediv (by omega) a
    have h2 : (16777216 : Int) / den ≤ 16777216 := Int.ediv_le_self _ (by omega)
    omega
/-- the least and the greatest of the first k columns, and 0 -/
def least (num den : Int) (k : Nat) : Int := if k = 0 then 0 else min 0 (raw num den (k - 1))
def most (num den : Int) (k : Nat) : Int := if k = 0 then 0 else max 0 (raw num den (k - 1))
theorem least_succ {num den : Int} (hd : 1 ≤ den) (k : Nat) : least num den (k + 1) = min (least num den k) (raw num den k) := by
  unfold least
  rw [if_neg (by omega), Nat.add_sub_cancel]
  rcases Nat.eq_zero_or_pos k with h | h
  · subst h; rw [if_pos rfl]
  · rw [if_neg (by omega)]
    rcases Int.le_total 0 num with hn | hn
    · have a := raw_nonneg hd hn k
      have b := raw_nonneg hd hn (k - 1)
      omega
    · have a := raw_anti hd hn (show k - 1 ≤ k by omega)
      have b := raw_nonpos hd hn (k - 1)
      omega
theorem most_succ {num den : Int} (hd : 1 ≤ den) (k : Nat) : most num den (k + 1) = max (most num den k) (raw num den k) := by
  unfold most
  rw [if_neg (by omega), Nat.add_sub_cancel]
  rcases Nat.eq_zero_or_pos k with h | h
  · subst h; rw [if_pos rfl]
  · rw [if_neg (by omega)]
    rcases Int.le_total 0 num with hn | hn
    · have a := raw_mono hd hn (show k - 1 ≤ k by omega)
      have b := raw_nonneg hd hn (k - 1)
      omega
    · have a := raw_nonpos hd hn k
      have b := raw_nonpos hd hn (k - 1)
      omega
theorem least_le {num den : Int} (hd : 1 ≤ den) {k x : Nat} (hx : x < k) : least num den k ≤ raw num den x := by
  unfold least
  rw [if_neg (by omega)]
  rcases Int.le_total 0 num with hn | hn
  · have a := raw_nonneg hd hn x; omega
  · have a := raw_anti hd hn (show x ≤ k - 1 by omega); omega
theorem le_most {num den : Int} (hd : 1 ≤ den) {k x : Nat} (hx : x < k) : raw num den x ≤ most num den k := by
  unfold most
  rw [if_neg (by omega)]
  rcases Int.le_total 0 num with hn | hn
  · have a := raw_mono hd hn (show x ≤ k - 1 by omega); omega
  · have a := raw_nonpos hd hn x; omega
theorem least_nonpos (num den : Int) (k : Nat) : least num den k ≤ 0 := by unfold least; split <;> omega
theorem most_nonneg (num den : Int) (k : Nat) : 0 ≤ most num den k := by unfold most; split <;> omega
theorem least_bound {num den : Int} (hd : 1 ≤ den) (h1 : -4096 ≤ num) (h2 : num ≤ 4096) {k : Nat} (hk : k ≤ 4096) : -16777216 ≤ least num den k := by
  unfold least; split
  · omega
  · have := raw_bound hd h1 h2 (show k - 1 ≤ 4096 by omega); omega
theorem most_bound {num den : Int} (hd : 1 ≤ den) (h1 : -4096 ≤ num) (h2 : num ≤ 4096) {k : Nat} (hk : k ≤ 4096) : most num den k ≤ 16777216 := by
  unfold most; split
  · omega
  · have := raw_bound hd h1 h2 (show k - 1 ≤ 4096 by omega); omega
/-- the shift of a column -/
def sh (W : Nat) (num den : Int) (x : Nat) : Nat := (raw num den x - least num den W).toNat
theorem sh_eq {W : Nat} {num den : Int} (hd : 1 ≤ den) {x : Nat} (hx : x < W) : ((sh W num den x : Nat) : Int) = raw num den x - least num den W := by
  have := least_le (num := num) hd hx
  unfold sh; omega
/-- the greatest shift -/
def top (W : Nat) (num den : Int) : Nat := (most num den W - least num den W).toNat
theorem top_eq (W : Nat) (num den : Int) : ((top W num den : Nat) : Int) = most num den W - least num den W := by
  have a := least_nonpos num den W
  have b := most_nonneg num den W
  unfold top; omega
theorem sh_le {W : Nat} {num den : Int} (hd : 1 ≤ den) {x : Nat} (hx : x < W) : sh W num den x ≤ top W num den := by
  have a := sh_eq (num := num) hd hx
  have b := top_eq W num den
  have c := le_most (num := num) hd hx
  omega
theorem top_le {W : Nat} {num den : Int} (hd : 1 ≤ den) (h1 : -4096 ≤ num) (h2 : num ≤ 4096) (hW : W ≤ 4096) : top W num den ≤ 33554432 := by
  have a := top_eq W num den
  have b := least_bound hd h1 h2 hW
  have c := most_bound hd h1 h2 hW
  omega
/-- the greatest shift is that of the first or of the last column -/
theorem top_max {W : Nat} {num den : Int} (hd : 1 ≤ den) (hW : 1 ≤ W) : ((top W num den : Nat) : Int) = max ((sh W num den 0 : Nat) : Int) ((sh W num den (W - 1) : Nat) : Int) := by
  rw [top_eq, sh_eq hd (by omega), sh_eq hd (by omega), raw_zero]
  unfold most least
  rw [if_neg (by omega), if_neg (by omega)]
  rcases Int.le_total 0 num with hn | hn
  · have := raw_nonneg hd hn (W - 1); omega
  · have := raw_nonpos hd hn (W - 1); omega
end Skew
namespace Skew
/-! counts of dark pixels by a row f i -/
def dk (D : List Bool) (i : Nat) : Bool := D.getD i false
/-- the dark ones of the first k pixels that fall into row y -/
def cn (D : List Bool) (f : Nat → Nat) : Nat → Nat → Nat
  | 0, _ => 0
  | k + 1, y => cn D f k y + (if dk D k = true ∧ f k = y then 1 else 0)
/-- the sum of the squares, step by step -/
def en (D : List Bool) (f : Nat → Nat) : Nat → Nat
  | 0 => 0
  | k + 1 => en D f k + (if dk D k = true then 2 * cn D f k (f k) + 1 else 0)
theorem cn_le (D : List Bool) (f : Nat → Nat) (k y : Nat) : cn D f k y ≤ k := by
  induction k with
  | zero => exact Nat.le_refl _
  | succ k ih => rw [cn]; split <;> omega
theorem en_le (D : List Bool) (f : Nat → Nat) (k : Nat) : en D f k ≤ k * k := by
  induction k with
  | zero => exact Nat.le_refl _
  | succ k ih =>
    have := cn_le D f k (f k)
    have e : (k + 1) * (k + 1) = k * k + 2 * k + 1 := by rw [Nat.add_mul, Nat.mul_add]; omega
    rw [en, e]
    split <;> omega
theorem cn_light {D : List Bool} {f : Nat → Nat} {k : Nat} (h : dk D k = false) (y : Nat) : cn D f (k + 1) y = cn D f k y := by
  rw [cn, h]; simp
theorem cn_dark {D : List Bool} {f : Nat → Nat} {k : Nat} (h : dk D k = true) (y : Nat) : cn D f (k + 1) y = cn D f k y + (if f k = y then 1 else 0) := by
  rw [cn, h]; simp
theorem en_light {D : List Bool} {f : Nat → Nat} {k : Nat} (h : dk D k = false) : en D f (k + 1) = en D f k := by
  rw [en, h]; simp
theorem en_dark {D : List Bool} {f : Nat → Nat} {k : Nat} (h : dk D k = true) : en D f (k + 1) = en D f k + (2 * cn D f k (f k) + 1) := by
  rw [en, h]; simp
theorem cn_far {D : List Bool} {f : Nat → Nat} {k L y : Nat} (h : ∀ i, i < k → dk D i = true → f i < L) (hy : L ≤ y) : cn D f k y = 0 := by
  induction k with
  | zero => rfl
  | succ k ih =>
    rw [cn, ih (fun i hi => h i (by omega))]
    split
    · rename_i hc; have := h k (by omega) hc.1; omega
    · rfl
/-- the sum of squares of the first L rows -/
def sq (c : Nat → Nat) : Nat → Nat
  | 0 => 0
  | L + 1 => sq c L + c L * c L
theorem sq_congr {c c' : Nat → Nat} {L : Nat} (h : ∀ y, y < L → c y = c' y) : sq c L = sq c' L := by
  induction L with
  | zero => rfl
  | succ L ih => rw [sq, sq, ih (fun y hy => h y (by omega)), h L (by omega)]
theorem sq_bump {c c' : Nat → Nat} {z L : Nat} (h : ∀ y, c' y = c y + (if z = y then 1 else 0)) (hz : z < L) : sq c' L = sq c L + (2 * c z + 1) := by
  induction L with
  | zero => omega
  | succ L ih =>
    rw [sq, sq]
    by_cases hzl : z = L
    · subst hzl
      have e1 : c' z = c z + 1 := by rw [h z, if_pos rfl]
      have e2 : sq c' z = sq c z := sq_congr (fun y hy => by rw [h y, if_neg (by omega)]; rfl)
      rw [e1, e2, Nat.mul_add, Nat.add_mul]; omega
    · have e1 : c' L = c L := by rw [h L, if_neg hzl]; rfl
      rw [ih (by omega), e1]; omega
theorem sq_zero {c : Nat → Nat} {L : Nat} (h : ∀ y, y < L → c y = 0) : sq c L = 0 := by
  induction L with
  | zero => rfl
  | succ L ih => rw [sq, ih (fun y hy => h y (by omega)), h L (by omega)]
theorem sq_en {D : List Bool} {f : Nat → Nat} {k L : Nat} (h : ∀ i, i < k → dk D i = true → f i < L) : sq (cn D f k) L = en D f k := by
  induction k with
  | zero => exact sq_zero (fun _ _ => rfl)
  | succ k ih =>
    have ih' := ih (fun i hi => h i (by omega))
    cases hd : dk D k with
    | false =>
      rw [en_light hd, ← ih']
      exact sq_congr (fun y _ => cn_light hd y)
    | true =>
      rw [en_dark hd, ← ih']
      exact sq_bump (fun y => cn_dark hd y) (h k (by omega) hd)
/-- a longer list of rows, the new ones empty -/
theorem sq_grow {c : Nat → Nat} {L M : Nat} (hM : L ≤ M) (h : ∀ y, L ≤ y → y < M → c y = 0) : sq c M = sq c L := by
  induction M with
  | zero => have : L = 0 := by omega
            subst this; rfl
  | succ M ih =>
    rcases Nat.lt_or_ge M L with h1 | h1
    · have : L = M + 1 := by omega
      subst this; rfl
    · rw [sq, ih h1 (fun y hy hy2 => h y hy (by omega)), h M h1 (by omega), Nat.mul_zero, Nat.add_zero]
/-- the row into which a pixel falls -/
def rowOf (W : Nat) (num den : Int) (i : Nat) : Nat := i / W + sh W num den (i % W)
/-- the energy -/
def energy (W : Nat) (D : List Bool) (num den : Int) : Nat := en D (rowOf W num den) D.length
end Skew
end Go.Proofs.Yticbpifgjjcjmaa
