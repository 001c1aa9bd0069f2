/- Plain laws of a shear: the counts of its rows and of its columns, and the slope 0. -/
import Derived.Test.YticbpifgjjcjmaaShr
import Derived.Test.YticbpifgjjcjmaaPro
namespace Go.Proofs.Yticbpifgjjcjmaa
namespace Skew
/-- the marked ones among the first places that fall into row y -/
def cf (f : Nat → Bool) (g : Nat → Nat) : Nat → Nat → Nat
  | 0, _ => 0
  | j + 1, y => cf f g j y + (if f j = true ∧ g j = y then 1 else 0)
theorem cf_congr {f f' : Nat → Bool} {g : Nat → Nat} {M y : Nat} (h : ∀ j, j < M → f j = f' j) : cf f g M y = cf f' g M y := by
  induction M with
  | zero => rfl
  | succ M ih => rw [cf, cf, ih (fun j hj => h j (by omega)), h M (by omega)]
theorem cf_cn (D : List Bool) (g : Nat → Nat) (M y : Nat) : cn D g M y = cf (dk D) g M y := by
  induction M with
  | zero => rfl
  | succ M ih => rw [cn, cf, ih]
theorem cf_mark {f f' : Nat → Bool} {g : Nat → Nat} {p M y : Nat} (hp : p < M) (h0 : f p = false) (h : ∀ j, f' j = (f j || decide (p = j))) : cf f' g M y = cf f g M y + (if g p = y then 1 else 0) := by
  induction M with
  | zero => omega
  | succ M ih =>
    rw [cf, cf]
    by_cases hM : p = M
    · subst hM
      rw [cf_congr (f := f') (f' := f) (fun j hj => by rw [h j, decide_eq_false (by omega), Bool.or_false]), h p, h0]
      simp
    · rw [ih (by omega), h M, decide_eq_false hM, Bool.or_false]
      omega
theorem cf_none {g : Nat → Nat} (M y : Nat) : cf (fun _ => false) g M y = 0 := by
  induction M with
  | zero => rfl
  | succ M ih => rw [cf, ih]; simp
theorem place_mod (W : Nat) (num den : Int) (i : Nat) : place W num den i % W = i % W := by
  unfold place; rw [Nat.add_mul_mod_self_right]
theorem place_div {W : Nat} (hW : 1 ≤ W) (num den : Int) (i : Nat) : place W num den i / W = rowOf W num den i := by
  unfold place rowOf; rw [Nat.add_mul_div_right _ _ (by omega)]
theorem place_inj {W : Nat} (hW : 1 ≤ W) {num den : Int} {i j : Nat} (h : place W num den i = place W num den j) : i = j := by
  have h1 : i % W = j % W := by rw [← place_mod W num den i, ← place_mod W num den j, h]
  have h2 : rowOf W num den i = rowOf W num den j := by rw [← place_div hW, ← place_div hW, h]
  unfold rowOf at h2
  rw [h1] at h2
  have h3 : i / W = j / W := by omega
  rw [← Nat.div_add_mod i W, ← Nat.div_add_mod j W, h1, h3]
theorem mk_iff (D : List Bool) (p : Nat → Nat) (k j : Nat) : mk D p k j = true ↔ ∃ i, i < k ∧ dk D i = true ∧ p i = j := by
  induction k with
  | zero => simp [mk]
  | succ k ih =>
    rw [mk, Bool.or_eq_true, ih, Bool.and_eq_true, decide_eq_true_eq]
    constructor
    · rintro (⟨i, a, b, c⟩ | ⟨a, b⟩)
      · exact ⟨i, by omega, b, c⟩
      · exact ⟨k, by omega, a, b⟩
    · rintro ⟨i, a, b, c⟩
      by_cases hi : i = k
      · subst hi; exact Or.inr ⟨b, c⟩
      · exact Or.inl ⟨i, by omega, b, c⟩
theorem cf_mk {W : Nat} (hW : 1 ≤ W) {D : List Bool} {num den : Int} {M : Nat} (k : Nat) (hk : ∀ i, i < k → place W num den i < M) (y : Nat) :
    cf (mk D (place W num den) k) (fun i => i / W) M y = cn D (rowOf W num den) k y := by
  induction k with
  | zero => exact cf_none M y
  | succ k ih =>
    have ih := ih (fun i hi => hk i (by omega))
    cases hd : dk D k
    · rw [cn_light hd, ← ih]
      exact cf_congr (fun j _ => by rw [mk, hd]; simp)
    · rw [cn_dark hd, ← ih, ← place_div hW]
      refine cf_mark (hk k (by omega)) ?_ (fun j => by rw [mk, hd]; simp)
      cases hm : mk D (place W num den) k (place W num den k)
      · rfl
      · obtain ⟨i, hi, _, hp⟩ := (mk_iff _ _ _ _).1 hm
        have := place_inj hW hp
        omega
theorem place_lt {W H i : Nat} {num den : Int} (hW : 1 ≤ W) (hd : 1 ≤ den) (hi : i < W * H) : place W num den i < W * (H + top W num den) := by
  have h1 := sh_le (num := num) hd (Nat.mod_lt i (show 0 < W by omega))
  have h2 := Nat.mul_le_mul h1 (Nat.le_refl W)
  unfold place
  rw [Nat.mul_add, Nat.mul_comm W (top W num den)]
  omega
theorem dk_mkL {D : List Bool} {p : Nat → Nat} {k N j : Nat} (hj : j < N) : dk (mkL D p k N) j = mk D p k j := mkL_getD _ _ _ _ _ hj
/-- the rows of a sheared bitmap -/
theorem pf_shear {W H : Nat} {D : List Bool} {num den : Int} (hW : 1 ≤ W) (hd : 1 ≤ den) (hD : D.length = W * H) (y : Nat) :
    pf W (mkL D (place W num den) D.length (W * (H + top W num den))) y = cn D (rowOf W num den) D.length y := by
  unfold pf
  rw [mkL_len, cf_cn, cf_congr (fun j hj => dk_mkL hj)]
  exact cf_mk hW _ (fun i hi => place_lt hW hd (by omega)) y
theorem dk_far {D : List Bool} {j : Nat} (h : D.length ≤ j) : dk D j = false := by
  unfold dk; rw [List.getD_eq_getElem?_getD, List.getElem?_eq_none h]; rfl
theorem dk_lt {D : List Bool} {j : Nat} (h : dk D j = true) : j < D.length := by
  rcases Nat.lt_or_ge j D.length with h1 | h1
  · exact h1
  · rw [dk_far h1] at h; cases h
/-- what stands at a place of a sheared bitmap -/
theorem mk_at {W x : Nat} {D : List Bool} {num den : Int} (hx : x < W) (y : Nat) :
    mk D (place W num den) D.length (y * W + x) = (decide (sh W num den x ≤ y) && dk D ((y - sh W num den x) * W + x)) := by
  have hm : ∀ z : Nat, (z * W + x) % W = x := fun z => by rw [Nat.mul_add_mod', Nat.mod_eq_of_lt hx]
  have hq : ∀ z : Nat, (z * W + x) / W = z := fun z => by
    rw [Nat.mul_comm, Nat.mul_add_div (by omega), Nat.div_eq_of_lt hx, Nat.add_zero]
  rw [Bool.eq_iff_iff, mk_iff, Bool.and_eq_true, decide_eq_true_eq]
  constructor
  · rintro ⟨i, _, hi2, hp⟩
    have h1 : i % W = x := by rw [← place_mod W num den i, hp, hm]
    have h2 : rowOf W num den i = y := by rw [← place_div (by omega), hp, hq]
    unfold rowOf at h2
    rw [h1] at h2
    have h3 : i / W = y - sh W num den x := by rw [← h2, Nat.add_sub_cancel]
    refine ⟨by rw [← h2]; exact Nat.le_add_left _ _, ?_⟩
    rw [← h3, ← h1, Nat.mul_comm, Nat.div_add_mod]
    exact hi2
  · rintro ⟨h1, h2⟩
    refine ⟨_, dk_lt h2, h2, ?_⟩
    unfold place
    rw [hm, Nat.add_right_comm, ← Nat.add_mul, Nat.sub_add_cancel h1]
/-- the dark pixels of a column, of the first rows -/
def cl (D : List Bool) (W x : Nat) : Nat → Nat
  | 0 => 0
  | y + 1 => cl D W x y + (if dk D (y * W + x) = true then 1 else 0)
theorem cl_le (D : List Bool) (W x y : Nat) : cl D W x y ≤ y := by
  induction y with
  | zero => exact Nat.le_refl _
  | succ y ih => rw [cl]; split <;> omega
theorem cl_far {W H x : Nat} {D : List Bool} (hD : D.length = W * H) (r : Nat) : cl D W x (H + r) = cl D W x H := by
  induction r with
  | zero => rfl
  | succ r ih =>
    rw [← Nat.add_assoc, cl, ih, dk_far (by
      rw [hD, Nat.mul_comm]
      have := Nat.mul_le_mul (show H ≤ H + r by omega) (Nat.le_refl W)
      omega)]
    simp
theorem cl_shear {W H x : Nat} {D : List Bool} {num den : Int} (hx : x < W) (hd : 1 ≤ den) (hD : D.length = W * H) :
    cl (mkL D (place W num den) D.length (W * (H + top W num den))) W x (H + top W num den) = cl D W x H := by
  have hs := sh_le (num := num) hd hx
  have hat : ∀ y, y < H + top W num den → dk (mkL D (place W num den) D.length (W * (H + top W num den))) (y * W + x) = (decide (sh W num den x ≤ y) && dk D ((y - sh W num den x) * W + x)) := fun y hy => by
    rw [dk_mkL (by
      have := Nat.mul_le_mul (show y + 1 ≤ H + top W num den from hy) (Nat.le_refl W)
      rw [Nat.mul_comm W]; rw [Nat.add_mul] at this; omega), mk_at hx]
  generalize mkL D (place W num den) D.length (W * (H + top W num den)) = E at *
  generalize hT : sh W num den x = t at *
  have h1 : ∀ y, y ≤ t → cl E W x y = 0 := by
    intro y
    induction y with
    | zero => intro _; rfl
    | succ y ih =>
      intro hy
      rw [cl, ih (by omega), hat y (by omega), decide_eq_false (by omega)]
      simp
  have h2 : ∀ y, t + y ≤ H + top W num den → cl E W x (t + y) = cl D W x y := by
    intro y
    induction y with
    | zero => intro _; rw [Nat.add_zero, h1 t (Nat.le_refl _)]; rfl
    | succ y ih =>
      intro hy
      rw [← Nat.add_assoc, cl, ih (by omega), hat (t + y) (by omega), decide_eq_true (by omega), Nat.add_sub_cancel_left]
      rfl
  have h3 := h2 (H + (top W num den - t)) (by omega)
  rw [show t + (H + (top W num den - t)) = H + top W num den by omega, cl_far hD] at h3
  exact h3
/-! the slope 0 -/
theorem raw_z (den : Int) (x : Nat) : raw 0 den x = 0 := by unfold raw; simp
theorem sh_z (W : Nat) (den : Int) (x : Nat) : sh W 0 den x = 0 := by
  unfold sh least; rw [raw_z, raw_z]; split <;> rfl
theorem top_z (W : Nat) (den : Int) : top W 0 den = 0 := by
  unfold top most least; rw [raw_z]; split <;> rfl
theorem place_z (W : Nat) (den : Int) (i : Nat) : place W 0 den i = i := by
  unfold place; rw [sh_z]; omega
theorem mkL_z (D : List Bool) (W : Nat) (den : Int) : mkL D (place W 0 den) D.length D.length = D := by
  apply List.ext_getElem?
  intro i
  rcases Nat.lt_or_ge i D.length with h | h
  · have h1 : dk (mkL D (place W 0 den) D.length D.length) i = dk D i := by
      rw [dk_mkL h, Bool.eq_iff_iff, mk_iff]
      constructor
      · rintro ⟨j, _, hj, hp⟩; rw [place_z] at hp; subst hp; exact hj
      · intro hj; exact ⟨i, h, hj, place_z _ _ _⟩
    unfold dk at h1
    rw [List.getD_eq_getElem?_getD, List.getD_eq_getElem?_getD, List.getElem?_eq_getElem h, List.getElem?_eq_getElem (by rw [mkL_len]; exact h)] at h1
    rw [List.getElem?_eq_getElem h, List.getElem?_eq_getElem (by rw [mkL_len]; exact h)]
    exact congrArg some h1
  · rw [List.getElem?_eq_none h, List.getElem?_eq_none (by rw [mkL_len]; exact h)]
/-- the sum of the squares of the rows of a shear is the energy -/
theorem sq_shear {W H : Nat} {D : List Bool} {num den : Int} (hW : 1 ≤ W) (hd : 1 ≤ den) (hD : D.length = W * H) :
    sq (pf W (mkL D (place W num den) D.length (W * (H + top W num den)))) (H + top W num den) = energy W D num den := by
  have hfun : pf W (mkL D (place W num den) D.length (W * (H + top W num den))) = cn D (rowOf W num den) D.length := funext fun y => pf_shear hW hd hD y
  rw [hfun]
  refine sq_en (fun i hi _ => ?_)
  have h1 := sh_le (num := num) hd (Nat.mod_lt i (show 0 < W by omega))
  have h2 : i / W < H := (Nat.div_lt_iff_lt_mul (show 0 < W by omega)).2 (by rw [Nat.mul_comm]; omega)
  unfold rowOf
  omega
end Skew
end Go.Proofs.Yticbpifgjjcjmaa
