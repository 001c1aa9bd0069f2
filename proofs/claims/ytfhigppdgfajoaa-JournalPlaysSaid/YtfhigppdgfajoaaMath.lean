/- Plain mathematics of the checksums: registers of 32 and 16 bits as natural numbers, their steps, products, and bursts; Adler-32. No program in sight. -/
namespace Go.Proofs.Ytfhigppdgfajoaa
namespace CrcM

/-! registers of 32 bits as natural numbers -/
def P32 : Nat := 3988292384
def step (x : Nat) : Nat := if x % 2 = 1 then (x / 2) ^^^ P32 else x / 2
def steps : Nat → Nat → Nat
  | 0, x => x
  | n + 1, x => steps n (step x)

theorem P32_lt : P32 < 2 ^ 32 := by decide
theorem xor_lt {a b : Nat} (ha : a < 2 ^ 32) (hb : b < 2 ^ 32) : a ^^^ b < 2 ^ 32 := Nat.xor_lt_two_pow ha hb
theorem step_lt {x : Nat} (h : x < 2 ^ 32) : step x < 2 ^ 32 := by
  unfold step; split
  · exact xor_lt (by omega) P32_lt
  · omega
theorem xor_mod2 (a b : Nat) : (a ^^^ b) % 2 = (a % 2 + b % 2) % 2 := by
  have h := Nat.testBit_xor a b 0
  simp only [Nat.testBit_zero] at h
  rcases Nat.mod_two_eq_zero_or_one a with ha | ha <;> rcases Nat.mod_two_eq_zero_or_one b with hb | hb <;> rcases Nat.mod_two_eq_zero_or_one (a ^^^ b) with hc | hc <;> simp [ha, hb, hc] at h ⊢
theorem step_xor (a b : Nat) : step (a ^^^ b) = step a ^^^ step b := by
  have hd : (a ^^^ b) / 2 = a / 2 ^^^ b / 2 := by
    have := Nat.xor_div_two_pow (a := a) (b := b) (n := 1); simpa using this
  have hm := xor_mod2 a b
  unfold step
  rw [hd]
  by_cases h1 : a % 2 = 1 <;> by_cases h2 : b % 2 = 1
  · rw [if_neg (by omega), if_pos h1, if_pos h2]
    rw [Nat.xor_assoc, Nat.xor_comm P32, Nat.xor_assoc, Nat.xor_self, Nat.xor_zero]
  · rw [if_pos (by omega), if_pos h1, if_neg h2]
    rw [Nat.xor_assoc, Nat.xor_assoc, Nat.xor_comm P32]
  · rw [if_pos (by omega), if_neg h1, if_pos h2]
    rw [Nat.xor_assoc]
  · rw [if_neg (by omega), if_neg h1, if_neg h2]
theorem step_zero : step 0 = 0 := by decide
theorem steps_0 (x : Nat) : steps 0 x = x := rfl
theorem steps_succ (n x : Nat) : steps (n + 1) x = steps n (step x) := rfl
theorem steps_zero (n : Nat) : steps n 0 = 0 := by
  induction n with
  | zero => rfl
  | succ n ih => rw [steps, step_zero, ih]
theorem steps_xor (n a b : Nat) : steps n (a ^^^ b) = steps n a ^^^ steps n b := by
  induction n generalizing a b with
  | zero => rfl
  | succ n ih => rw [steps, step_xor, ih, steps, steps]
theorem steps_lt {n x : Nat} (h : x < 2 ^ 32) : steps n x < 2 ^ 32 := by
  induction n generalizing x with
  | zero => exact h
  | succ n ih => exact ih (step_lt h)
theorem steps_add (m n x : Nat) : steps (m + n) x = steps n (steps m x) := by
  induction m generalizing x with
  | zero => rw [Nat.zero_add]; rfl
  | succ m ih => rw [Nat.succ_add, steps, ih, steps]
theorem step_eq_zero {x : Nat} (h : x < 2 ^ 32) (h0 : step x = 0) : x = 0 := by
  unfold step at h0
  split at h0
  · have : x / 2 = P32 := by
      have := congrArg (· ^^^ P32) h0
      simpa [Nat.xor_assoc] using this
    unfold P32 at this; omega
  · omega
theorem steps_eq_zero {n x : Nat} (h : x < 2 ^ 32) (h0 : steps n x = 0) : x = 0 := by
  induction n generalizing x with
  | zero => exact h0
  | succ n ih => exact step_eq_zero h (ih (step_lt h) h0)
theorem xor_eq_zero {a b : Nat} : a ^^^ b = 0 ↔ a = b := by
  constructor
  · intro h
    have := congrArg (· ^^^ b) h
    simpa [Nat.xor_assoc] using this
  · rintro rfl; exact Nat.xor_self _

/-- below 2^(32) with low n bits zero: a mere shift -/
theorem steps_shift (n y : Nat) : steps n (y * 2 ^ n) = y := by
  induction n with
  | zero => simp [steps]
  | succ n ih =>
    have : y * 2 ^ (n + 1) = 2 * (y * 2 ^ n) := by rw [Nat.pow_succ]; rw [← Nat.mul_assoc]; omega
    rw [steps, this]
    have : step (2 * (y * 2 ^ n)) = y * 2 ^ n := by
      unfold step; rw [if_neg (by omega)]; omega
    rw [this, ih]

/-- the table's law: eight steps of x ^ c -/
theorem steps8_split (x c : Nat) : steps 8 (x ^^^ c) = x / 256 ^^^ steps 8 ((x % 256) ^^^ c) := by
  have hx : x = (x / 256 * 2 ^ 8) ^^^ (x % 256) := by
    apply Nat.eq_of_testBit_eq
    intro i
    rw [Nat.testBit_xor, Nat.testBit_mul_two_pow]
    have h8 : x % 256 = x % 2 ^ 8 := rfl
    have h9 : x / 256 = x / 2 ^ 8 := rfl
    rw [h8, Nat.testBit_mod_two_pow, h9, Nat.testBit_div_two_pow]
    by_cases hi : 8 ≤ i
    · simp [hi, Nat.not_lt.mpr hi]
    · simp [hi, Nat.lt_of_not_le hi]
  have h2 : x ^^^ c = (x / 256 * 2 ^ 8) ^^^ ((x % 256) ^^^ c) := by
    rw [← Nat.xor_assoc, ← hx]
  rw [h2, steps_xor, steps_shift]

attribute [irreducible] step steps
/-! the register over bytes -/
def upd (x : Nat) : List Nat → Nat
  | [] => x
  | c :: p => upd (steps 8 (x ^^^ c)) p
theorem upd_nil (x : Nat) : upd x [] = x := rfl
theorem upd_cons (x c : Nat) (p : List Nat) : upd x (c :: p) = upd (steps 8 (x ^^^ c)) p := rfl
attribute [irreducible] upd
theorem upd_append (x : Nat) (p q : List Nat) : upd x (p ++ q) = upd (upd x p) q := by
  induction p generalizing x with
  | nil => rw [List.nil_append, upd_nil]
  | cons c p ih => rw [List.cons_append, upd_cons, upd_cons, ih]
theorem upd_snoc (x : Nat) (p : List Nat) (c : Nat) : upd x (p ++ [c]) = steps 8 (upd x p ^^^ c) := by
  rw [upd_append, upd_cons, upd_nil]
def Bytes (p : List Nat) : Prop := ∀ c ∈ p, c < 256
theorem upd_lt {x : Nat} {p : List Nat} (h : x < 2 ^ 32) (hp : Bytes p) : upd x p < 2 ^ 32 := by
  induction p generalizing x with
  | nil => rw [upd_nil]; exact h
  | cons c p ih =>
    rw [upd_cons]
    refine ih (steps_lt (xor_lt h ?_)) (fun d hd => hp d (List.mem_cons_of_mem _ hd))
    have := hp c List.mem_cons_self; omega
theorem upd_xor (x y : Nat) (p q : List Nat) (h : p.length = q.length) : upd (x ^^^ y) (List.zipWith (· ^^^ ·) p q) = upd x p ^^^ upd y q := by
  induction p generalizing x y q with
  | nil => cases q with
    | nil => simp only [List.zipWith_nil_left, upd_nil]
    | cons d q => simp at h
  | cons c p ih => cases q with
    | nil => simp at h
    | cons d q =>
      have e : x ^^^ y ^^^ (c ^^^ d) = x ^^^ c ^^^ (y ^^^ d) := by ac_rfl
      rw [List.zipWith_cons_cons, upd_cons, upd_cons, upd_cons, ← ih _ _ _ (by simpa using h), ← steps_xor, e]
theorem upd_zeros (x n : Nat) : upd x (List.replicate n 0) = steps (8 * n) x := by
  induction n generalizing x with
  | zero => rw [List.replicate_zero, upd_nil, Nat.mul_zero, steps_0]
  | succ n ih =>
    have e : 8 * (n + 1) = 8 + 8 * n := by omega
    rw [List.replicate_succ, upd_cons, Nat.xor_zero, ih, ← steps_add, e]
theorem zip_zero (q : List Nat) : List.zipWith (· ^^^ ·) (List.replicate q.length 0) q = q := by
  induction q with
  | nil => rfl
  | cons c q ih => simp [List.replicate_succ, ih]
theorem zip_zero_right (q : List Nat) : List.zipWith (· ^^^ ·) q (List.replicate q.length 0) = q := by
  induction q with
  | nil => rfl
  | cons c q ih => simp [List.replicate_succ, ih]
theorem upd_lin (x : Nat) (q : List Nat) : upd x q = steps (8 * q.length) x ^^^ upd 0 q := by
  have := upd_xor x 0 (List.replicate q.length 0) q (by simp)
  rw [zip_zero, Nat.xor_zero, upd_zeros] at this
  exact this
def ones : Nat := 4294967295
def crc (p : List Nat) : Nat := upd ones p ^^^ ones
theorem ones_lt : ones < 2 ^ 32 := by decide
attribute [irreducible] ones
theorem crc_lt {p : List Nat} (hp : Bytes p) : crc p < 2 ^ 32 := xor_lt (upd_lt ones_lt hp) ones_lt
/-- two inputs, one after the other -/
theorem crc_append (p q : List Nat) : crc (p ++ q) = steps (8 * q.length) (crc p) ^^^ crc q := by
  unfold crc
  rw [upd_append, upd_lin (upd ones p) q, upd_lin ones q, steps_xor]
  generalize steps (8 * q.length) (upd ones p) = a
  generalize steps (8 * q.length) ones = b
  generalize upd 0 q = c
  rw [show a ^^^ b ^^^ (b ^^^ c ^^^ ones) = a ^^^ (b ^^^ b) ^^^ c ^^^ ones from by simp only [Nat.xor_assoc], Nat.xor_self, Nat.xor_zero]
theorem crc_linear (p q : List Nat) (h : p.length = q.length) : crc (List.zipWith (· ^^^ ·) p q) = crc p ^^^ crc q ^^^ crc (List.replicate p.length 0) := by
  have h1 := upd_xor ones ones p q h
  have h2 := upd_lin ones (List.zipWith (· ^^^ ·) p q)
  have h3 : upd 0 (List.zipWith (· ^^^ ·) p q) = upd ones p ^^^ upd ones q := by rw [← h1, Nat.xor_self]
  unfold crc
  rw [h2, h3, upd_zeros, show (List.zipWith (· ^^^ ·) p q).length = p.length from by simp [h]]
  generalize upd ones p = a
  generalize upd ones q = b
  generalize steps (8 * p.length) ones = c
  rw [show a ^^^ ones ^^^ (b ^^^ ones) ^^^ (c ^^^ ones) = a ^^^ b ^^^ c ^^^ ones ^^^ (ones ^^^ ones) from by ac_rfl, Nat.xor_self, Nat.xor_zero]
  ac_rfl
end CrcM
namespace CrcM
/-! products -/
/-- the sum of the steps of b at the bits of a below n, the bit n-1 first -/
def tms (a b : Nat) : Nat → Nat
  | 0 => 0
  | i + 1 => tms a b i ^^^ (if a.testBit (31 - i) then steps i b else 0)
theorem tms_lt {a b : Nat} (hb : b < 2 ^ 32) (i : Nat) : tms a b i < 2 ^ 32 := by
  induction i with
  | zero => rw [tms]; decide
  | succ i ih =>
    refine xor_lt ih ?_
    split
    · exact steps_lt hb
    · decide
def E : Nat := 2147483648
theorem steps_E {i : Nat} (hi : i ≤ 31) : steps i E = 2 ^ (31 - i) := by
  have : E = 2 ^ (31 - i) * 2 ^ i := by rw [← Nat.pow_add, show 31 - i + i = 31 from by omega]; decide
  rw [this, steps_shift]
theorem tms_E_bit (a : Nat) (n j : Nat) (hn : n ≤ 32) : (tms a E n).testBit j = (decide (32 - n ≤ j ∧ j ≤ 31) && a.testBit j) := by
  induction n with
  | zero =>
    have : ¬ (32 - 0 ≤ j ∧ j ≤ 31) := by omega
    rw [tms, Nat.zero_testBit, decide_eq_false this, Bool.false_and]
  | succ n ih =>
    rw [tms, Nat.testBit_xor, ih (by omega)]
    have hs : (if a.testBit (31 - n) = true then steps n E else 0).testBit j = (decide (j = 31 - n) && a.testBit j) := by
      rw [steps_E (by omega)]
      by_cases hb : a.testBit (31 - n) = true
      · rw [if_pos hb, Nat.testBit_two_pow]
        by_cases hj : j = 31 - n
        · subst hj; simp [hb]
        · have : ¬ (31 - n = j) := by omega
          simp [hj, this]
      · rw [if_neg hb, Nat.zero_testBit]
        by_cases hj : j = 31 - n
        · subst hj; simp [hb]
        · simp [hj]
    rw [hs]
    by_cases h2 : j = 31 - n
    · have e1 : ¬ (32 - n ≤ j ∧ j ≤ 31) := by omega
      have e2 : 32 - (n + 1) ≤ j ∧ j ≤ 31 := by omega
      rw [decide_eq_false e1, decide_eq_true e2, decide_eq_true h2, Bool.false_and, Bool.false_xor]
    · have e1 : (32 - n ≤ j ∧ j ≤ 31) ↔ (32 - (n + 1) ≤ j ∧ j ≤ 31) := by omega
      have e2 : decide (32 - n ≤ j ∧ j ≤ 31) = decide (32 - (n + 1) ≤ j ∧ j ≤ 31) := decide_eq_decide.2 e1
      rw [decide_eq_false h2, Bool.false_and, Bool.xor_false, e2]
theorem tms_E {a : Nat} (ha : a < 2 ^ 32) : tms a E 32 = a := by
  apply Nat.eq_of_testBit_eq
  intro j
  rw [tms_E_bit a 32 j (Nat.le_refl _)]
  rw [Nat.sub_self]
  by_cases h : j ≤ 31
  · simp [h]
  · have : a.testBit j = false := Nat.testBit_lt_two_pow (Nat.lt_of_lt_of_le ha (Nat.pow_le_pow_right (by decide) (by omega)))
    simp [this]
theorem tms_steps (a m n : Nat) : tms a (steps m E) n = steps m (tms a E n) := by
  induction n with
  | zero => rw [tms, tms, steps_zero]
  | succ n ih =>
    rw [tms, tms, ih, steps_xor]
    by_cases hb : a.testBit (31 - n) = true
    · rw [if_pos hb, if_pos hb, ← steps_add, ← steps_add, Nat.add_comm]
    · rw [if_neg hb, if_neg hb, steps_zero]
/-- the product with a power of x -/
theorem tms_power {a : Nat} (ha : a < 2 ^ 32) (m : Nat) : tms a (steps m E) 32 = steps m a := by
  rw [tms_steps, tms_E ha]
/-- Combine's loop: what stands in a, given by = x^m -/
def comb : Nat → Nat → Nat → Nat → Nat
  | 0, a, _, _ => a
  | f + 1, a, by_, n => if n = 0 then a else comb f (if n % 2 = 1 then tms a by_ 32 else a) (tms by_ by_ 32) (n / 2)
theorem E_lt : E < 2 ^ 32 := by decide
theorem comb_eq (f : Nat) : ∀ (a m n : Nat), a < 2 ^ 32 → n < 2 ^ f → comb f a (steps m E) n = steps (m * n) a := by
  induction f with
  | zero =>
    intro a m n ha hn
    have : n = 0 := by simpa using hn
    subst this
    rw [comb, Nat.mul_zero, steps_0]
  | succ f ih =>
    intro a m n ha hn
    rw [comb]
    by_cases h0 : n = 0
    · rw [if_pos h0, h0, Nat.mul_zero, steps_0]
    · rw [if_neg h0, tms_power (steps_lt E_lt), ← steps_add]
      have hp : 2 ^ (f + 1) = 2 * 2 ^ f := by rw [Nat.pow_succ]; omega
      have hn2 : n / 2 < 2 ^ f := by omega
      by_cases h1 : n % 2 = 1
      · rw [if_pos h1, tms_power ha, ih _ _ _ (steps_lt ha) hn2, ← steps_add]
        congr 1
        have : n = 2 * (n / 2) + 1 := by omega
        conv => rhs; rw [this]
        rw [Nat.mul_add, ← Nat.mul_assoc, Nat.mul_one, Nat.mul_two, Nat.add_comm]
      · rw [if_neg h1, ih _ _ _ ha hn2]
        congr 1
        have : n = 2 * (n / 2) := by omega
        conv => rhs; rw [this]
        rw [← Nat.mul_assoc, Nat.mul_two]
def shift (x n : Nat) : Nat := steps (8 * n) x
theorem byteful : (8388608 : Nat) = steps 8 E := by rw [steps_E (by decide)]
theorem comb_shift {x n : Nat} (hx : x < 2 ^ 32) {f : Nat} (hn : n < 2 ^ f) : comb f x 8388608 n = shift x n := by
  rw [byteful, comb_eq f x 8 n hx hn, shift]
theorem shift_shift (x i k : Nat) : shift (shift x i) k = shift x (i + k) := by
  unfold shift; rw [← steps_add]; congr 1; omega
theorem shift_xor (x y k : Nat) : shift (x ^^^ y) k = shift x k ^^^ shift y k := steps_xor _ _ _
theorem shift_lt {x k : Nat} (h : x < 2 ^ 32) : shift x k < 2 ^ 32 := steps_lt h
theorem associative (x0 x1 x2 i k : Nat) : shift (shift x0 i ^^^ x1) k ^^^ x2 = shift x0 (i + k) ^^^ (shift x1 k ^^^ x2) := by
  rw [shift_xor, shift_shift, Nat.xor_assoc]
theorem joins (p q : List Nat) : crc (p ++ q) = shift (crc p) q.length ^^^ crc q := crc_append p q
end CrcM
namespace CrcM
/-! bursts, 32 bits -/
theorem upd_xor_left (x y : Nat) (r : List Nat) : upd (x ^^^ y) r = upd x r ^^^ steps (8 * r.length) y := by
  have := upd_xor x y r (List.replicate r.length 0) (by simp)
  rw [upd_zeros] at this
  rw [← this, zip_zero_right]
theorem upd_set (x b : Nat) (p : List Nat) (j : Nat) (hj : j < p.length) : upd x (p.set j (p.getD j 0 ^^^ b)) = upd x p ^^^ steps (8 * (p.length - j)) b := by
  have hp : p = p.take j ++ p.getD j 0 :: p.drop (j + 1) := by
    rw [List.getD_eq_getElem?_getD, List.getElem?_eq_getElem hj, Option.getD_some, List.getElem_cons_drop, List.take_append_drop]
  have hs : p.set j (p.getD j 0 ^^^ b) = p.take j ++ (p.getD j 0 ^^^ b) :: p.drop (j + 1) := by
    rw [List.set_eq_take_append_cons_drop, if_pos hj]
  have hl : (p.drop (j + 1)).length = p.length - (j + 1) := by simp
  have h8 : 8 * (p.length - j) = 8 + 8 * (p.length - (j + 1)) := by omega
  rw [hs]
  conv => rhs; rw [hp]
  rw [upd_append, upd_append, upd_cons, upd_cons, ← Nat.xor_assoc, steps_xor, upd_xor_left, ← steps_add, hl, ← hp, h8]
theorem steps_one (i m : Nat) : steps (i + m) (2 ^ i) = steps m 1 := by
  rw [steps_add]; congr 1
  have := steps_shift i 1
  rwa [Nat.one_mul] at this
/-- the bit k of the bytes, the lowest first -/
theorem upd_flip (x : Nat) (p : List Nat) (at_ i : Nat) (hk : at_ + i < 8 * p.length) :
    upd x (p.set ((at_ + i) / 8) (p.getD ((at_ + i) / 8) 0 ^^^ 2 ^ ((at_ + i) % 8))) = upd x p ^^^ steps (8 * p.length - at_) (2 ^ i) := by
  rw [upd_set _ _ _ _ (by omega)]
  congr 1
  have h1 : 8 * (p.length - (at_ + i) / 8) = (at_ + i) % 8 + (8 * p.length - (at_ + i)) := by omega
  have h2 : 8 * p.length - at_ = i + (8 * p.length - (at_ + i)) := by omega
  rw [h1, h2, steps_one, steps_one]
/-- the state of the flips: the bits that were inverted -/
def Flip32 (x : Nat) (p : List Nat) (at_ : Nat) (out : List Nat) (any : Bool) (i : Nat) : Prop :=
  out.length = p.length ∧ Bytes out ∧ ∃ M, M < 2 ^ i ∧ upd x out = upd x p ^^^ steps (8 * p.length - at_) M ∧ (any = true ↔ M ≠ 0)
theorem Flip32.start (x : Nat) {p : List Nat} (hp : Bytes p) (at_ : Nat) : Flip32 x p at_ p false 0 :=
  ⟨rfl, hp, 0, by decide, by rw [steps_zero, Nat.xor_zero], by simp⟩
theorem Flip32.skip {x : Nat} {p : List Nat} {at_ : Nat} {out : List Nat} {any : Bool} {i : Nat} (h : Flip32 x p at_ out any i) : Flip32 x p at_ out any (i + 1) := by
  obtain ⟨hl, hb, M, h1, h2, h3⟩ := h
  exact ⟨hl, hb, M, Nat.lt_of_lt_of_le h1 (Nat.pow_le_pow_right (by decide) (by omega)), h2, h3⟩
theorem bytes_set {out : List Nat} (hb : Bytes out) (j v : Nat) (hv : v < 256) : Bytes (out.set j v) := by
  intro c hc
  rcases List.mem_or_eq_of_mem_set hc with h | h
  · exact hb c h
  · omega
theorem bytes_getD {out : List Nat} (hb : Bytes out) (j : Nat) : out.getD j 0 < 256 := by
  rw [List.getD_eq_getElem?_getD]
  by_cases h : j < out.length
  · rw [List.getElem?_eq_getElem h]; exact hb _ (List.getElem_mem h)
  · rw [List.getElem?_eq_none (by omega)]; decide
theorem xor_pow_lt {M i : Nat} (h : M < 2 ^ i) : M ^^^ 2 ^ i = M + 2 ^ i := by
  have h1 := Nat.two_pow_add_eq_or_of_lt h 1
  rw [Nat.mul_one] at h1
  rw [Nat.add_comm, h1]
  apply Nat.eq_of_testBit_eq
  intro j
  rw [Nat.testBit_xor, Nat.testBit_or, Nat.testBit_two_pow]
  by_cases hj : i = j
  · subst hj; rw [Nat.testBit_lt_two_pow h]; simp
  · simp [hj]
theorem bit_lt (k : Nat) : 2 ^ (k % 8) < 256 := by
  have h : k % 8 ≤ 7 := by omega
  have := Nat.pow_le_pow_right (n := 2) (by decide) h
  omega
theorem Flip32.flip {x : Nat} {p : List Nat} {at_ : Nat} {out : List Nat} {any : Bool} {i : Nat} (h : Flip32 x p at_ out any i) (hk : at_ + i < 8 * p.length) :
    Flip32 x p at_ (out.set ((at_ + i) / 8) (out.getD ((at_ + i) / 8) 0 ^^^ 2 ^ ((at_ + i) % 8))) true (i + 1) := by
  obtain ⟨hl, hb, M, h1, h2, h3⟩ := h
  refine ⟨by rw [List.length_set, hl], bytes_set hb _ _ ?_, M ^^^ 2 ^ i, ?_, ?_, ?_⟩
  · exact Nat.xor_lt_two_pow (n := 8) (bytes_getD hb _) (bit_lt _)
  · rw [xor_pow_lt h1, Nat.pow_succ]; omega
  · rw [upd_flip _ _ _ _ (by rw [hl]; exact hk), h2, hl, steps_xor, Nat.xor_assoc]
  · rw [xor_pow_lt h1]
    have : 0 < 2 ^ i := Nat.two_pow_pos i
    constructor
    · intro _; omega
    · intro _; rfl
theorem Flip32.ends {p : List Nat} {at_ : Nat} {out : List Nat} {any : Bool} (h : Flip32 ones p at_ out any 32) : (crc out ≠ crc p ↔ any = true) := by
  obtain ⟨hl, hb, M, h1, h2, h3⟩ := h
  rw [h3]
  have e : crc out = crc p ↔ M = 0 := by
    unfold crc
    rw [h2]
    constructor
    · intro he
      have h4 : upd ones p ^^^ steps (8 * p.length - at_) M = upd ones p := by
        have := congrArg (· ^^^ ones) he
        simpa [Nat.xor_assoc] using this
      have h5 : steps (8 * p.length - at_) M = 0 := by
        have := congrArg (upd ones p ^^^ ·) h4
        simpa [← Nat.xor_assoc] using this
      exact steps_eq_zero h1 h5
    · rintro rfl
      rw [steps_zero, Nat.xor_zero]
  rw [Ne, e]
end CrcM
namespace Crc16
def step (x : Nat) : Nat := (x * 2 % 65536) ^^^ (if x / 32768 % 2 = 1 then 4129 else 0)
def steps : Nat → Nat → Nat
  | 0, x => x
  | n + 1, x => steps n (step x)
theorem xor_lt {a b : Nat} (ha : a < 65536) (hb : b < 65536) : a ^^^ b < 65536 := Nat.xor_lt_two_pow (n := 16) ha hb
theorem step_lt (x : Nat) : step x < 65536 := by
  unfold step
  refine xor_lt (by omega) ?_
  split <;> decide
theorem xor_mod2 (a b : Nat) : (a ^^^ b) % 2 = (a % 2 + b % 2) % 2 := by
  have h := Nat.testBit_xor a b 0
  simp only [Nat.testBit_zero] at h
  rcases Nat.mod_two_eq_zero_or_one a with ha | ha <;> rcases Nat.mod_two_eq_zero_or_one b with hb | hb <;> rcases Nat.mod_two_eq_zero_or_one (a ^^^ b) with hc | hc <;> simp [ha, hb, hc] at h ⊢
theorem xor_dbl (a b : Nat) : (a ^^^ b) * 2 % 65536 = (a * 2 % 65536) ^^^ (b * 2 % 65536) := by
  have h1 : ∀ x : Nat, x * 2 % 65536 = (x <<< 1) % 2 ^ 16 := fun x => by rw [Nat.shiftLeft_eq]
  rw [h1, h1, h1, Nat.shiftLeft_xor_distrib, Nat.xor_mod_two_pow]
theorem step_xor (a b : Nat) : step (a ^^^ b) = step a ^^^ step b := by
  have hd : (a ^^^ b) / 32768 = a / 32768 ^^^ b / 32768 := Nat.xor_div_two_pow (a := a) (b := b) (n := 15)
  have hm := xor_mod2 (a / 32768) (b / 32768)
  unfold step
  rw [xor_dbl, hd, hm]
  generalize a * 2 % 65536 = p
  generalize b * 2 % 65536 = q
  by_cases h1 : a / 32768 % 2 = 1 <;> by_cases h2 : b / 32768 % 2 = 1
  · rw [if_pos h1, if_pos h2, h1, h2]
    rw [show p ^^^ 4129 ^^^ (q ^^^ 4129) = p ^^^ q ^^^ (4129 ^^^ 4129) from by ac_rfl, Nat.xor_self]
    rfl
  · rw [if_pos h1, if_neg h2, h1, show b / 32768 % 2 = 0 by omega, Nat.xor_zero, if_pos (by decide)]
    ac_rfl
  · rw [if_neg h1, if_pos h2, h2, show a / 32768 % 2 = 0 by omega, Nat.xor_zero, if_pos (by decide)]
    ac_rfl
  · rw [if_neg h1, if_neg h2, show a / 32768 % 2 = 0 by omega, show b / 32768 % 2 = 0 by omega, if_neg (by decide), Nat.xor_zero, Nat.xor_zero, Nat.xor_zero]
theorem step_zero : step 0 = 0 := by decide
theorem steps_0 (x : Nat) : steps 0 x = x := rfl
theorem steps_succ (n x : Nat) : steps (n + 1) x = steps n (step x) := rfl
theorem steps_zero (n : Nat) : steps n 0 = 0 := by
  induction n with
  | zero => rfl
  | succ n ih => rw [steps, step_zero, ih]
theorem steps_xor (n a b : Nat) : steps n (a ^^^ b) = steps n a ^^^ steps n b := by
  induction n generalizing a b with
  | zero => rfl
  | succ n ih => rw [steps, step_xor, ih, steps, steps]
theorem steps_lt {n x : Nat} (h : x < 65536) : steps n x < 65536 := by
  induction n generalizing x with
  | zero => exact h
  | succ n ih => exact ih (step_lt x)
theorem steps_add (m n x : Nat) : steps (m + n) x = steps n (steps m x) := by
  induction m generalizing x with
  | zero => rw [Nat.zero_add]; rfl
  | succ m ih => rw [Nat.succ_add, steps, ih, steps]
theorem steps_snoc (m x : Nat) : steps (m + 1) x = step (steps m x) := by
  rw [steps_add]; rfl
theorem step_eq_zero {x : Nat} (h : x < 65536) (h0 : step x = 0) : x = 0 := by
  unfold step at h0
  split at h0
  · have h1 : x * 2 % 65536 = 4129 := by
      have := congrArg (· ^^^ 4129) h0
      simpa [Nat.xor_assoc] using this
    omega
  · rw [Nat.xor_zero] at h0
    omega
theorem steps_eq_zero {n x : Nat} (h : x < 65536) (h0 : steps n x = 0) : x = 0 := by
  induction n generalizing x with
  | zero => exact h0
  | succ n ih => exact step_eq_zero h (ih (step_lt x) h0)
theorem steps_shift (i m : Nat) (h : i + m ≤ 15) : steps i (2 ^ m) = 2 ^ (m + i) := by
  induction i generalizing m with
  | zero => rfl
  | succ i ih =>
    have hs : step (2 ^ m) = 2 ^ (m + 1) := by
      have h1 : 2 ^ m < 32768 := Nat.pow_lt_pow_right (a := 2) (m := m) (n := 15) (by decide) (by omega)
      unfold step
      rw [Nat.div_eq_of_lt h1, if_neg (by decide), Nat.xor_zero, Nat.pow_succ, Nat.mod_eq_of_lt (by omega)]
    rw [steps, hs, ih _ (by omega)]
    congr 1; omega
attribute [irreducible] step steps
def upd (x : Nat) : List Nat → Nat
  | [] => x
  | c :: p => upd (steps 8 (x ^^^ c * 256)) p
theorem upd_nil (x : Nat) : upd x [] = x := rfl
theorem upd_cons (x c : Nat) (p : List Nat) : upd x (c :: p) = upd (steps 8 (x ^^^ c * 256)) p := rfl
attribute [irreducible] upd
theorem upd_append (x : Nat) (p q : List Nat) : upd x (p ++ q) = upd (upd x p) q := by
  induction p generalizing x with
  | nil => rw [List.nil_append, upd_nil]
  | cons c p ih => rw [List.cons_append, upd_cons, upd_cons, ih]
theorem upd_snoc (x : Nat) (p : List Nat) (c : Nat) : upd x (p ++ [c]) = steps 8 (upd x p ^^^ c * 256) := by
  rw [upd_append, upd_cons, upd_nil]
theorem upd_lt {x : Nat} {p : List Nat} (h : x < 65536) (hp : ∀ c ∈ p, c < 256) : upd x p < 65536 := by
  induction p generalizing x with
  | nil => rw [upd_nil]; exact h
  | cons c p ih =>
    rw [upd_cons]
    refine ih (steps_lt (xor_lt h ?_)) (fun d hd => hp d (List.mem_cons_of_mem _ hd))
    have := hp c List.mem_cons_self; omega
theorem mul_xor (c d : Nat) : (c ^^^ d) * 256 = c * 256 ^^^ d * 256 := by
  have h1 : ∀ x : Nat, x * 256 = x <<< 8 := fun x => by rw [Nat.shiftLeft_eq]
  rw [h1, h1, h1, Nat.shiftLeft_xor_distrib]
theorem upd_xor (x y : Nat) (p q : List Nat) (h : p.length = q.length) : upd (x ^^^ y) (List.zipWith (· ^^^ ·) p q) = upd x p ^^^ upd y q := by
  induction p generalizing x y q with
  | nil => cases q with
    | nil => simp only [List.zipWith_nil_left, upd_nil]
    | cons d q => simp at h
  | cons c p ih => cases q with
    | nil => simp at h
    | cons d q =>
      have e : x ^^^ y ^^^ (c ^^^ d) * 256 = x ^^^ c * 256 ^^^ (y ^^^ d * 256) := by rw [mul_xor]; ac_rfl
      rw [List.zipWith_cons_cons, upd_cons, upd_cons, upd_cons, ← ih _ _ _ (by simpa using h), ← steps_xor, e]
theorem upd_zeros (x n : Nat) : upd x (List.replicate n 0) = steps (8 * n) x := by
  induction n generalizing x with
  | zero => rw [List.replicate_zero, upd_nil, Nat.mul_zero, steps_0]
  | succ n ih =>
    have e : 8 * (n + 1) = 8 + 8 * n := by omega
    rw [List.replicate_succ, upd_cons, Nat.zero_mul, Nat.xor_zero, ih, ← steps_add, e]
theorem zip_zero (q : List Nat) : List.zipWith (· ^^^ ·) (List.replicate q.length 0) q = q := by
  induction q with
  | nil => rfl
  | cons c q ih => simp [List.replicate_succ, ih]
theorem zip_zero_right (q : List Nat) : List.zipWith (· ^^^ ·) q (List.replicate q.length 0) = q := by
  induction q with
  | nil => rfl
  | cons c q ih => simp [List.replicate_succ, ih]
theorem upd_lin (x : Nat) (q : List Nat) : upd x q = steps (8 * q.length) x ^^^ upd 0 q := by
  have := upd_xor x 0 (List.replicate q.length 0) q (by simp)
  rw [zip_zero, Nat.xor_zero, upd_zeros] at this
  exact this
theorem upd_xor_left (x y : Nat) (r : List Nat) : upd (x ^^^ y) r = upd x r ^^^ steps (8 * r.length) y := by
  have := upd_xor x y r (List.replicate r.length 0) (by simp)
  rw [upd_zeros] at this
  rw [← this, zip_zero_right]
def crc (p : List Nat) : Nat := upd 65535 p
theorem crc_linear (p q : List Nat) (h : p.length = q.length) : crc (List.zipWith (· ^^^ ·) p q) = crc p ^^^ crc q ^^^ crc (List.replicate p.length 0) := by
  have h1 := upd_xor 65535 65535 p q h
  have h2 := upd_lin 65535 (List.zipWith (· ^^^ ·) p q)
  have h3 : upd 0 (List.zipWith (· ^^^ ·) p q) = upd 65535 p ^^^ upd 65535 q := by rw [← h1, Nat.xor_self]
  unfold crc
  rw [h2, h3, upd_zeros, show (List.zipWith (· ^^^ ·) p q).length = p.length from by simp [h]]
  ac_rfl
/-! bursts -/
theorem upd_set (x b : Nat) (p : List Nat) (j : Nat) (hj : j < p.length) : upd x (p.set j (p.getD j 0 ^^^ b)) = upd x p ^^^ steps (8 * (p.length - j)) (b * 256) := by
  have hp : p = p.take j ++ p.getD j 0 :: p.drop (j + 1) := by
    rw [List.getD_eq_getElem?_getD, List.getElem?_eq_getElem hj, Option.getD_some, List.getElem_cons_drop, List.take_append_drop]
  have hs : p.set j (p.getD j 0 ^^^ b) = p.take j ++ (p.getD j 0 ^^^ b) :: p.drop (j + 1) := by
    rw [List.set_eq_take_append_cons_drop, if_pos hj]
  have hl : (p.drop (j + 1)).length = p.length - (j + 1) := by simp
  have h8 : 8 * (p.length - j) = 8 + 8 * (p.length - (j + 1)) := by omega
  rw [hs]
  conv => rhs; rw [hp]
  rw [upd_append, upd_append, upd_cons, upd_cons, mul_xor, ← Nat.xor_assoc, steps_xor, upd_xor_left, ← steps_add, hl, ← hp, h8]
theorem steps_top (i m : Nat) (hi : i ≤ 15) : steps (i + m) (2 ^ (15 - i)) = steps m 32768 := by
  rw [steps_add, steps_shift i (15 - i) (by omega), show 15 - i + i = 15 by omega]
/-- the bit k of the bytes, the highest first -/
theorem upd_flip (x : Nat) (p : List Nat) (at_ i : Nat) (hi : i ≤ 15) (hk : at_ + i < 8 * p.length) :
    upd x (p.set ((at_ + i) / 8) (p.getD ((at_ + i) / 8) 0 ^^^ 2 ^ (7 - (at_ + i) % 8))) = upd x p ^^^ steps (8 * p.length - at_) (2 ^ (15 - i)) := by
  rw [upd_set _ _ _ _ (by omega)]
  congr 1
  have h1 : 8 * (p.length - (at_ + i) / 8) = (at_ + i) % 8 + (8 * p.length - (at_ + i)) := by omega
  have h2 : 8 * p.length - at_ = i + (8 * p.length - (at_ + i)) := by omega
  have h3 : 2 ^ (7 - (at_ + i) % 8) * 256 = 2 ^ (15 - (at_ + i) % 8) := by
    rw [show (256 : Nat) = 2 ^ 8 from rfl, ← Nat.pow_add]; congr 1; omega
  rw [h1, h2, h3, steps_top _ _ (by omega), steps_top _ _ hi]
def Flip (x : Nat) (p : List Nat) (at_ : Nat) (out : List Nat) (any : Bool) (i : Nat) : Prop :=
  out.length = p.length ∧ (∀ c ∈ out, c < 256) ∧ ∃ M, M < 65536 ∧ M % 2 ^ (16 - i) = 0 ∧ upd x out = upd x p ^^^ steps (8 * p.length - at_) M ∧ (any = true ↔ M ≠ 0)
theorem Flip.start (x : Nat) {p : List Nat} (hp : ∀ c ∈ p, c < 256) (at_ : Nat) : Flip x p at_ p false 0 :=
  ⟨rfl, hp, 0, by decide, by decide, by rw [steps_zero, Nat.xor_zero], by simp⟩
theorem mod_down {M i : Nat} (h : M % 2 ^ (16 - i) = 0) : M % 2 ^ (16 - (i + 1)) = 0 := by
  refine Nat.mod_eq_zero_of_dvd (Nat.dvd_trans (Nat.pow_dvd_pow 2 (by omega)) (Nat.dvd_of_mod_eq_zero h))
theorem Flip.skip {x : Nat} {p : List Nat} {at_ : Nat} {out : List Nat} {any : Bool} {i : Nat} (h : Flip x p at_ out any i) : Flip x p at_ out any (i + 1) := by
  obtain ⟨hl, hb, M, h1, h0, h2, h3⟩ := h
  exact ⟨hl, hb, M, h1, mod_down h0, h2, h3⟩
theorem xor_top {M i : Nat} (hi : i ≤ 15) (h1 : M < 65536) (h : M % 2 ^ (16 - i) = 0) : M ^^^ 2 ^ (15 - i) ≠ 0 ∧ (M ^^^ 2 ^ (15 - i)) % 2 ^ (16 - (i + 1)) = 0 ∧ M ^^^ 2 ^ (15 - i) < 65536 := by
  have hb : M.testBit (15 - i) = false := by
    have : (M % 2 ^ (16 - i)).testBit (15 - i) = M.testBit (15 - i) := by
      rw [Nat.testBit_mod_two_pow]
      have : 15 - i < 16 - i := by omega
      simp [this]
    rw [← this, h, Nat.zero_testBit]
  have hp : 2 ^ (15 - i) < 65536 := Nat.pow_lt_pow_right (a := 2) (m := 15 - i) (n := 16) (by decide) (by omega)
  refine ⟨fun h0 => ?_, ?_, xor_lt h1 hp⟩
  · have := congrArg (·.testBit (15 - i)) h0
    simp [Nat.testBit_xor, hb] at this
  · rw [Nat.xor_mod_two_pow, mod_down h, Nat.zero_xor, show 16 - (i + 1) = 15 - i by omega, Nat.mod_self]
theorem bit_lt (k : Nat) : 2 ^ (7 - k % 8) < 256 := by
  have := Nat.pow_le_pow_right (n := 2) (by decide) (show 7 - k % 8 ≤ 7 by omega)
  omega
theorem getD_lt {out : List Nat} (hb : ∀ c ∈ out, c < 256) (j : Nat) : out.getD j 0 < 256 := by
  rw [List.getD_eq_getElem?_getD]
  by_cases h : j < out.length
  · rw [List.getElem?_eq_getElem h]; exact hb _ (List.getElem_mem h)
  · rw [List.getElem?_eq_none (by omega)]; decide
theorem Flip.flip {x : Nat} {p : List Nat} {at_ : Nat} {out : List Nat} {any : Bool} {i : Nat} (h : Flip x p at_ out any i) (hi : i ≤ 15) (hk : at_ + i < 8 * p.length) :
    Flip x p at_ (out.set ((at_ + i) / 8) (out.getD ((at_ + i) / 8) 0 ^^^ 2 ^ (7 - (at_ + i) % 8))) true (i + 1) := by
  obtain ⟨hl, hb, M, h1, h0, h2, h3⟩ := h
  obtain ⟨g1, g2, g3⟩ := xor_top hi h1 h0
  refine ⟨by rw [List.length_set, hl], ?_, M ^^^ 2 ^ (15 - i), g3, g2, ?_, ?_⟩
  · intro c hc
    rcases List.mem_or_eq_of_mem_set hc with h | h
    · exact hb c h
    · rw [h]; exact Nat.xor_lt_two_pow (n := 8) (getD_lt hb _) (bit_lt _)
  · rw [upd_flip _ _ _ _ hi (by rw [hl]; exact hk), h2, hl, steps_xor, Nat.xor_assoc]
  · constructor
    · intro _; exact g1
    · intro _; rfl
theorem Flip.ends {p : List Nat} {at_ : Nat} {out : List Nat} {any : Bool} {i : Nat} (h : Flip 65535 p at_ out any i) : (crc out ≠ crc p ↔ any = true) := by
  obtain ⟨hl, hb, M, h1, h0, h2, h3⟩ := h
  rw [h3]
  have e : crc out = crc p ↔ M = 0 := by
    unfold crc
    rw [h2]
    constructor
    · intro h4
      have h5 : steps (8 * p.length - at_) M = 0 := by
        have := congrArg (upd 65535 p ^^^ ·) h4
        simpa [← Nat.xor_assoc] using this
      exact steps_eq_zero h1 h5
    · rintro rfl
      rw [steps_zero, Nat.xor_zero]
  rw [Ne, e]
end Crc16
/-! Adler-32 -/
namespace Adler
def A : Nat → List Nat → Nat
  | a, [] => a
  | a, c :: p => A ((a + c) % 65521) p
def ab : Nat × Nat → List Nat → Nat × Nat
  | s, [] => s
  | s, c :: p => ab ((s.1 + c) % 65521, (s.2 + (s.1 + c) % 65521) % 65521) p
theorem ab_append (s : Nat × Nat) (p q : List Nat) : ab s (p ++ q) = ab (ab s p) q := by
  induction p generalizing s with
  | nil => rfl
  | cons c p ih => exact ih _
theorem ab_snoc (s : Nat × Nat) (p : List Nat) (c : Nat) : ab s (p ++ [c]) = (((ab s p).1 + c) % 65521, ((ab s p).2 + ((ab s p).1 + c) % 65521) % 65521) := by
  rw [ab_append]; rfl
theorem ab_lt {s : Nat × Nat} (p : List Nat) (h1 : s.1 < 65521) (h2 : s.2 < 65521) : (ab s p).1 < 65521 ∧ (ab s p).2 < 65521 := by
  induction p generalizing s with
  | nil => exact ⟨h1, h2⟩
  | cons c p ih => exact ih (s := (_, _)) (Nat.mod_lt _ (by decide)) (Nat.mod_lt _ (by decide))
def sum (p : List Nat) : Nat := (ab (1, 0) p).2 * 65536 + (ab (1, 0) p).1
theorem sum_bounds (p : List Nat) : (ab (1, 0) p).1 < 65521 ∧ (ab (1, 0) p).2 < 65521 := ab_lt p (by decide) (by decide)
/-- the first part: the sum of all bytes -/
theorem ab_fst (s : Nat × Nat) (p : List Nat) (h1 : s.1 < 65521) : (ab s p).1 = (s.1 + p.sum) % 65521 := by
  induction p generalizing s with
  | nil => rw [ab, List.sum_nil]; omega
  | cons c p ih =>
    rw [ab, ih _ (Nat.mod_lt _ (by decide)), List.sum_cons]
    show ((s.1 + c) % 65521 + p.sum) % 65521 = _
    omega
theorem sum_set (p : List Nat) (j v : Nat) (hj : j < p.length) : (p.set j v).sum + p.getD j 0 = p.sum + v := by
  have hp : p = p.take j ++ p.getD j 0 :: p.drop (j + 1) := by
    rw [List.getD_eq_getElem?_getD, List.getElem?_eq_getElem hj, Option.getD_some, List.getElem_cons_drop, List.take_append_drop]
  have hs : p.set j v = p.take j ++ v :: p.drop (j + 1) := by
    rw [List.set_eq_take_append_cons_drop, if_pos hj]
  have h1 : p.sum = (p.take j).sum + (p.getD j 0 + (p.drop (j + 1)).sum) := by
    conv => lhs; rw [hp]
    rw [List.sum_append, List.sum_cons]
  rw [hs, List.sum_append, List.sum_cons]
  omega
theorem changed (p : List Nat) (j v : Nat) (hj : j < p.length) (hv : v < 256) (hc : p.getD j 0 < 256) : (sum (p.set j v) = sum p ↔ v = p.getD j 0) := by
  constructor
  · intro h
    have b1 := sum_bounds (p.set j v)
    have b2 := sum_bounds p
    have e : (ab (1, 0) (p.set j v)).1 = (ab (1, 0) p).1 := by unfold sum at h; omega
    rw [ab_fst _ _ (by decide), ab_fst _ _ (by decide)] at e
    have hs := sum_set p j v hj
    have e' : (1 + (p.set j v).sum) % 65521 = (1 + p.sum) % 65521 := e
    omega
  · rintro rfl
    rw [List.getD_eq_getElem?_getD, List.getElem?_eq_getElem hj, Option.getD_some, List.set_getElem_self]
end Adler
end Go.Proofs.Ytfhigppdgfajoaa
