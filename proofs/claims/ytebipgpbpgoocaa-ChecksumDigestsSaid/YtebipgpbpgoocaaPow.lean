/- The walks of checksum.Combine and of the reference's, with their products and powers. -/
import Derived.Test.YtebipgpbpgoocaaCrc
namespace Go.Proofs.Ytebipgpbpgoocaa
open Go.RowKit
theorem bit_of (a j : Nat) : a.testBit j = decide (a / 2 ^ j % 2 = 1) := by
  rw [Nat.testBit_eq_decide_div_mod_eq]
theorem mask_bit (a j : Nat) (ha : a < 4294967296) (hj : j ≤ 31) : bits .and .u32 (a : Int) ((2 ^ j : Nat) : Int) = ((if a.testBit j = true then 2 ^ j else 0 : Nat) : Int) := by
  have hp : 2 ^ j < 4294967296 := Nat.pow_lt_pow_right (a := 2) (m := j) (n := 32) (by decide) (by omega)
  rw [u32_and_nat a (2 ^ j) ha hp, nat_bit, bit_of]
  rcases Nat.mod_two_eq_zero_or_one (a / 2 ^ j) with h | h <;> rw [h] <;> simp
set_option maxRecDepth 100000 in
set_option maxHeartbeats 1000000 in
theorem times_any (a b : Nat) (ha : a < 4294967296) (hb : b < 4294967296) (w : World) :
    Calls Try.prog 32 #[.int .u32 (a : Int), .int .u32 (b : Int)] w fun e w' => e = .returned (.int .u32 ((CrcM.tms a b 32 : Nat) : Int)) ∧ w = w' := by
  go_enter Try.func32, Try.ntmps32
  go_wp2_with fail
  go_loop [1, 5, 6] (fun vb vo vm => ∃ i m : Nat, i ≤ 32 ∧ m = (if i = 32 then 0 else 2 ^ (31 - i)) ∧ vb = .int .u32 ((CrcM.steps i b : Nat) : Int) ∧ vo = .int .u32 ((CrcM.tms a b i : Nat) : Int) ∧ vm = .int .u32 (m : Int)) (fun _ _ vm => (intOf vm).toNat)
  case atStart => exact ⟨0, 2147483648, by omega, by decide, by rw [CrcM.steps_0], rfl, rfl⟩
  case round =>
    obtain ⟨i, m, hi, hm, rfl, rfl, rfl⟩ := hrel
    have h1 : CrcM.steps i b < 4294967296 := CrcM.steps_lt hb
    have h2 : CrcM.tms a b i < 4294967296 := CrcM.tms_lt hb i
    by_cases hlt : i = 32
    · have H := Lib.hid hlt
      rw [if_pos hlt] at hm
      have hd : ((m : Int) != 0) = false := by rw [bne_eq_false_iff_eq]; omega
      clear hm hlt
      go_wp2
      go_ret
      exact ⟨ret_int (by rw [H.out]), rfl⟩
    · rw [if_neg hlt] at hm
      have hm0 : 0 < m := by rw [hm]; exact Nat.two_pow_pos _
      have hd : ((m : Int) != 0) = true := by rw [bne_iff_ne]; omega
      have hk := mask_bit a (31 - i) ha (by omega)
      rw [← hm] at hk
      have ht : CrcM.tms a b (i + 1) = CrcM.tms a b i ^^^ (if a.testBit (31 - i) = true then CrcM.steps i b else 0) := rfl
      have hm2 : m / 2 = (if i + 1 = 32 then 0 else 2 ^ (31 - (i + 1))) := by
        by_cases h31 : i + 1 = 32
        · rw [if_pos h31, hm, show 31 - i = 0 by omega]
        · rw [if_neg h31, hm, show 31 - i = 31 - (i + 1) + 1 by omega, Nat.pow_succ]; omega
      have Hm2 := Lib.hid hm2
      clear hm hm2
      by_cases hbit : a.testBit (31 - i) = true
      · rw [if_pos hbit] at hk ht
        have Ht := Lib.hid ht
        have hdk : (bits .and .u32 (a : Int) (m : Int) != 0) = true := by rw [hk, bne_iff_ne]; omega
        have Hx := Lib.hid (u32_xor_nat _ _ h2 h1)
        clear hk ht hbit
        go_wp2_with (go_at_call 35; refine (step_any _ _ rfl h1 _).mono ?_; rintro e w' ⟨rfl, rfl⟩)
        go_round
        case rel => exact ⟨i + 1, m / 2, by omega, Hm2.out, by rw [CrcM.steps_snoc], by rw [Ht.out]; exact val_int Hx.out, by go_num⟩
        case measure => simp [intOf]; omega
      · rw [if_neg hbit] at hk ht
        rw [Nat.xor_zero] at ht
        have Ht := Lib.hid ht
        have hdk : (bits .and .u32 (a : Int) (m : Int) != 0) = false := by rw [hk]; rfl
        clear hk ht hbit
        go_wp2_with (go_at_call 35; refine (step_any _ _ rfl h1 _).mono ?_; rintro e w' ⟨rfl, rfl⟩)
        go_round
        case rel => exact ⟨i + 1, m / 2, by omega, Hm2.out, by rw [CrcM.steps_snoc], by rw [Ht.out], by go_num⟩
        case measure => simp [intOf]; omega

/-- the bits of a from the top on, doubled i times -/
theorem dbl_bit (a i : Nat) (hi : i ≤ 31) : (a * 2 ^ i % 4294967296 / 2147483648 = 1) = (a.testBit (31 - i) = true) := by
  have h0 : a * 2 ^ i % 4294967296 < 2 ^ 32 := Nat.mod_lt _ (by decide)
  have h1 : (a * 2 ^ i % 2 ^ 32).testBit 31 = a.testBit (31 - i) := by
    rw [Nat.testBit_mod_two_pow, Nat.testBit_mul_two_pow]
    simp [hi]
  rw [← h1, bit_of]
  have e : (2 : Nat) ^ 31 = 2147483648 := by decide
  rw [e, decide_eq_true_eq]
  show _ = (a * 2 ^ i % 4294967296 / 2147483648 % 2 = 1)
  apply propext
  omega
theorem dbl_next (a i : Nat) : a * 2 ^ i % 4294967296 * 2 % 4294967296 = a * 2 ^ (i + 1) % 4294967296 := by
  rw [Nat.pow_succ, ← Nat.mul_assoc]; omega
set_option maxRecDepth 100000 in
set_option maxHeartbeats 1000000 in
theorem reftimes_any (a b : Nat) (ha : a < 4294967296) (hb : b < 4294967296) (w : World) :
    Calls Try.prog 36 #[.int .u32 (a : Int), .int .u32 (b : Int)] w fun e w' => e = .returned (.int .u32 ((CrcM.tms a b 32 : Nat) : Int)) ∧ w = w' := by
  go_enter Try.func36, Try.ntmps36
  go_wp2_with fail
  go_loop [0, 1, 5, 6] (fun va vb vo vi => ∃ i m : Nat, i ≤ 32 ∧ m = a * 2 ^ i % 4294967296 ∧ va = .int .u32 (m : Int) ∧ vb = .int .u32 ((CrcM.steps i b : Nat) : Int) ∧ vo = .int .u32 ((CrcM.tms a b i : Nat) : Int) ∧ vi = .int .i64 (i : Int)) (fun _ _ _ vi => 32 - (intOf vi).toNat)
  case atStart => exact ⟨0, a, by omega, by omega, rfl, by rw [CrcM.steps_0], rfl, rfl⟩
  case round =>
    obtain ⟨i, m, hi, hm, rfl, rfl, rfl, rfl⟩ := hrel
    have h1 : CrcM.steps i b < 4294967296 := CrcM.steps_lt hb
    have h2 : CrcM.tms a b i < 4294967296 := CrcM.tms_lt hb i
    have hml : m < 4294967296 := by rw [hm]; exact Nat.mod_lt _ (by decide)
    by_cases hlt : i = 32
    · have H := Lib.hid hlt
      have hd : decide ((i : Int) < 32) = false := decide_eq_false (by omega)
      clear hm hlt
      go_wp2
      go_ret
      exact ⟨ret_int (by rw [H.out]), rfl⟩
    · have hd : decide ((i : Int) < 32) = true := decide_eq_true (by omega)
      have hbt := dbl_bit a i (by omega)
      have hnx := dbl_next a i
      rw [← hm] at hbt hnx
      have Hnx := Lib.hid hnx
      have ht : CrcM.tms a b (i + 1) = CrcM.tms a b i ^^^ (if a.testBit (31 - i) = true then CrcM.steps i b else 0) := rfl
      have ht' : CrcM.tms a b (i + 1) = CrcM.tms a b i ^^^ (if m / 2147483648 = 1 then CrcM.steps i b else 0) := by rw [ht]; simp only [hbt]
      clear hm hnx hbt ht
      have ht := ht'
      clear ht'
      by_cases hbit : m / 2147483648 = 1
      · rw [if_pos hbit] at ht
        have Ht := Lib.hid ht
        have hdk : decide (2147483648 ≤ (m : Int)) = true := decide_eq_true (by omega)
        have Hx := Lib.hid (u32_xor_nat _ _ h2 h1)
        clear ht hbit
        go_wp2_with (go_at_call 31; refine (refstep_any _ _ rfl h1 _).mono ?_; rintro e w' ⟨rfl, rfl⟩)
        go_round
        case rel => exact ⟨i + 1, m * 2 % 4294967296, by omega, Hnx.out, by first | go_num | exact val_int (by rw [IntKind.wrap_u32']; omega), by rw [CrcM.steps_snoc], by rw [Ht.out]; exact val_int Hx.out, by go_num⟩
        case measure => simp [intOf]; omega
      · rw [if_neg hbit] at ht
        rw [Nat.xor_zero] at ht
        have Ht := Lib.hid ht
        have hdk : decide (2147483648 ≤ (m : Int)) = false := decide_eq_false (by omega)
        clear ht hbit
        go_wp2_with (go_at_call 31; refine (refstep_any _ _ rfl h1 _).mono ?_; rintro e w' ⟨rfl, rfl⟩)
        go_round
        case rel => exact ⟨i + 1, m * 2 % 4294967296, by omega, Hnx.out, by first | go_num | exact val_int (by rw [IntKind.wrap_u32']; omega), by rw [CrcM.steps_snoc], by rw [Ht.out], by go_num⟩
        case measure => simp [intOf]; omega

/-- one round of the powers: what is left of n -/
theorem round_odd (m n a : Nat) (h : n % 2 = 1) : CrcM.steps ((m + m) * (n / 2)) (CrcM.steps m a) = CrcM.steps (m * n) a := by
  rw [← CrcM.steps_add]
  congr 1
  have e : n = 2 * (n / 2) + 1 := by omega
  conv => rhs; rw [e]
  rw [Nat.mul_add, ← Nat.mul_assoc, Nat.mul_one, Nat.mul_two, Nat.add_comm]
theorem round_even (m n a : Nat) (h : n % 2 = 0) : CrcM.steps ((m + m) * (n / 2)) a = CrcM.steps (m * n) a := by
  congr 1
  have e : n = 2 * (n / 2) := by omega
  conv => rhs; rw [e]
  rw [← Nat.mul_assoc, Nat.mul_two]
theorem power_dbl (m : Nat) : CrcM.tms (CrcM.steps m CrcM.E) (CrcM.steps m CrcM.E) 32 = CrcM.steps (m + m) CrcM.E := by
  rw [CrcM.tms_power (CrcM.steps_lt CrcM.E_lt), ← CrcM.steps_add]
theorem i64_bit (n : Nat) (hn : n < 9223372036854775808) : bits .and .i64 (n : Int) 1 = ((n % 2 : Nat) : Int) := by
  have hx : n &&& 1 < 2 ^ 63 := Nat.and_lt_two_pow _ (by omega)
  have e : ∀ a : Nat, a < 9223372036854775808 → (BitVec.ofInt 64 (a : Int)).toNat = a := fun a h => by
    rw [BitVec.ofInt_natCast, BitVec.toNat_ofNat]; exact Nat.mod_eq_of_lt (by omega)
  show IntKind.i64.wrap ((BitVec.ofInt 64 (n : Int) &&& BitVec.ofInt 64 ((1 : Nat) : Int)).toNat : Int) = _
  rw [BitVec.toNat_and, e n hn, e 1 (by decide), IntKind.wrap_i64, nat_mask1]
  omega
/-- what stands in the loop's slots: a register, a power of x, what is left of the count -/
def Comb (a0 n0 : Nat) (a by_ n : Nat) : Prop := a < 4294967296 ∧ ∃ m, by_ = CrcM.steps m CrcM.E ∧ CrcM.steps (m * n) a = CrcM.shift a0 n0
theorem Comb.start {a0 : Nat} (h : a0 < 4294967296) (n0 : Nat) : Comb a0 n0 a0 8388608 n0 := ⟨h, 8, CrcM.byteful, rfl⟩
theorem Comb.lt {a0 n0 a by_ n : Nat} (h : Comb a0 n0 a by_ n) : a < 4294967296 ∧ by_ < 4294967296 := by
  obtain ⟨h1, m, rfl, _⟩ := h
  exact ⟨h1, CrcM.steps_lt CrcM.E_lt⟩
theorem Comb.odd {a0 n0 a by_ n : Nat} (h : Comb a0 n0 a by_ n) (ho : n % 2 = 1) : Comb a0 n0 (CrcM.tms a by_ 32) (CrcM.tms by_ by_ 32) (n / 2) := by
  obtain ⟨h1, m, rfl, h2⟩ := h
  exact ⟨CrcM.tms_lt (CrcM.steps_lt CrcM.E_lt) 32, m + m, power_dbl m, by rw [CrcM.tms_power h1, round_odd m n a ho]; exact h2⟩
theorem Comb.even {a0 n0 a by_ n : Nat} (h : Comb a0 n0 a by_ n) (ho : ¬ n % 2 = 1) : Comb a0 n0 a (CrcM.tms by_ by_ 32) (n / 2) := by
  obtain ⟨h1, m, rfl, h2⟩ := h
  exact ⟨h1, m + m, power_dbl m, by rw [round_even m n a (by omega)]; exact h2⟩
theorem Comb.ends {a0 n0 a by_ : Nat} (h : Comb a0 n0 a by_ 0) : a = CrcM.shift a0 n0 := by
  obtain ⟨h1, m, rfl, h2⟩ := h
  rw [Nat.mul_zero, CrcM.steps_0] at h2
  exact h2
set_option maxRecDepth 100000 in
set_option maxHeartbeats 1000000 in
theorem combine_any (a b n : Nat) (ha : a < 4294967296) (hb : b < 4294967296) (hn : n < 9223372036854775808) (w : World) :
    Calls Try.prog 21 #[.int .u32 (a : Int), .int .u32 (b : Int), .int .i64 (n : Int)] w fun e w' => e = .returned (.tuple #[.int .u32 ((CrcM.shift a n ^^^ b : Nat) : Int), .int .i64 0]) ∧ w = w' := by
  have hneg : decide ((n : Int) < 0) = false := decide_eq_false (by omega)
  go_enter Try.func21, Try.ntmps21
  go_wp2_with fail
  clear hneg
  go_loop [0, 2, 8] (fun va vn vb => ∃ x k y : Nat, k ≤ n ∧ Comb a n x y k ∧ va = .int .u32 (x : Int) ∧ vn = .int .i64 (k : Int) ∧ vb = .int .u32 (y : Int)) (fun _ vn _ => (intOf vn).toNat)
  case atStart => exact ⟨a, n, 8388608, Nat.le_refl _, Comb.start ha n, rfl, rfl, rfl⟩
  case round =>
    obtain ⟨x, k, y, hk, hc, rfl, rfl, rfl⟩ := hrel
    obtain ⟨hx, hy⟩ := hc.lt
    have HC := Lib.hid hc
    clear hc
    by_cases h0 : k = 0
    · have hd : decide (0 < k) = false := decide_eq_false (by omega)
      have He := Lib.hid (Comb.ends (h0 ▸ HC.out))
      have Hx := Lib.hid (u32_xor_nat x b hx hb)
      clear h0
      go_wp2
      go_ret2
      exact ⟨by rw [← He.out, ← Hx.out]; rfl, rfl⟩
    · have hd : decide (0 < k) = true := decide_eq_true (by omega)
      have hbit := i64_bit k (by omega)
      by_cases ho : k % 2 = 1
      · have Hn := Lib.hid (HC.out.odd ho)
        have hdk : (bits .and .i64 (k : Int) 1 == 1) = true := by rw [hbit, ho]; rfl
        clear hbit ho
        go_wp2_with fail
        refine (times_any x y hx hy _).mono ?_
        rintro e w' ⟨rfl, rfl⟩
        go_wp2_with fail
        refine (times_any y y hy hy _).mono ?_
        rintro e w' ⟨rfl, rfl⟩
        go_wp2_with fail
        go_round
        case rel => exact ⟨_, k / 2, _, by omega, Hn.out, rfl, by go_num, rfl⟩
        case measure => simp [intOf]; omega
      · have Hn := Lib.hid (HC.out.even ho)
        have hdk : (bits .and .i64 (k : Int) 1 == 1) = false := by rw [hbit, show k % 2 = 0 by omega]; rfl
        clear hbit ho
        go_wp2_with fail
        refine (times_any y y hy hy _).mono ?_
        rintro e w' ⟨rfl, rfl⟩
        go_wp2_with fail
        go_round
        case rel => exact ⟨_, k / 2, _, by omega, Hn.out, rfl, by go_num, rfl⟩
        case measure => simp [intOf]; omega
theorem combine_neg (a b n : Int) (hn : n < 0) (w : World) :
    Calls Try.prog 21 #[.int .u32 a, .int .u32 b, .int .i64 n] w fun e w' => e = .returned (.tuple #[.int .u32 0, .int .i64 3]) ∧ w = w' := by
  have hneg : decide (n < 0) = true := decide_eq_true hn
  go_enter Try.func21, Try.ntmps21
  go_wp2
  go_ret2
  exact ⟨rfl, rfl⟩
theorem refcombine_neg (a b n : Int) (hn : n < 0) (w : World) :
    Calls Try.prog 22 #[.int .u32 a, .int .u32 b, .int .i64 n] w fun e w' => e = .returned (.tuple #[.int .u32 0, .int .i64 3]) ∧ w = w' := by
  have hneg : decide (n < 0) = true := decide_eq_true hn
  go_enter Try.func22, Try.ntmps22
  go_wp2
  go_ret2
  exact ⟨rfl, rfl⟩
set_option maxRecDepth 100000 in
set_option maxHeartbeats 1000000 in
theorem shift_any (a n : Nat) (ha : a < 4294967296) (hn : n < 9223372036854775808) (w : World) :
    Calls Try.prog 33 #[.int .u32 (a : Int), .int .i64 (n : Int)] w fun e w' => e = .returned (.int .u32 ((CrcM.shift a n : Nat) : Int)) ∧ w = w' := by
  go_enter Try.func33, Try.ntmps33
  go_wp2_with fail
  go_loop [0, 1, 5, 6] (fun va vn vb vi => ∃ x k y i : Nat, i ≤ 63 ∧ k < 2 ^ (63 - i) ∧ k < 9223372036854775808 ∧ Comb a n x y k ∧ va = .int .u32 (x : Int) ∧ vn = .int .i64 (k : Int) ∧ vb = .int .u32 (y : Int) ∧ vi = .int .i64 (i : Int)) (fun _ _ _ vi => 63 - (intOf vi).toNat)
  case atStart => exact ⟨a, n, 8388608, 0, by omega, hn, hn, Comb.start ha n, rfl, rfl, rfl, rfl⟩
  case round =>
    obtain ⟨x, k, y, i, hi, hk, hk63, hc, rfl, rfl, rfl, rfl⟩ := hrel
    obtain ⟨hx, hy⟩ := hc.lt
    have HC := Lib.hid hc
    clear hc
    have hk2 : i < 63 → k / 2 < 2 ^ (63 - (i + 1)) := fun h => by
      have e : (2 : Nat) ^ (63 - i) = 2 ^ (63 - (i + 1)) * 2 := by rw [← Nat.pow_succ]; congr 1; omega
      omega
    have hkz : i = 63 → k = 0 := fun h => by rw [h] at hk; simpa using hk
    have HK2 := Lib.hid hk2
    have HKZ := Lib.hid hkz
    clear hk hk2 hkz
    by_cases h0 : k = 0
    · have He := Lib.hid (Comb.ends (h0 ▸ HC.out))
      have hd : decide (0 < k) = false := decide_eq_false (by omega)
      clear h0
      by_cases hi63 : i < 63
      · have hd2 : decide ((i : Int) < 63) = true := decide_eq_true (by omega)
        go_wp2
        go_ret
        exact ⟨by rw [← He.out]; rfl, rfl⟩
      · have hd2 : decide ((i : Int) < 63) = false := decide_eq_false (by omega)
        go_wp2
        go_ret
        exact ⟨by rw [← He.out]; rfl, rfl⟩
    · have hd : decide (0 < k) = true := decide_eq_true (by omega)
      have hi63 : i < 63 := by
        rcases Nat.lt_or_ge i 63 with h | h
        · exact h
        · exact absurd (HKZ.out (by omega)) h0
      have hd2 : decide ((i : Int) < 63) = true := decide_eq_true (by omega)
      by_cases ho : k % 2 = 1
      · have Hn := Lib.hid (HC.out.odd ho)
        have hdk : ((k : Int) % 2 == 1) = true := by rw [beq_iff_eq]; omega
        clear ho
        go_wp2_with fail
        refine (reftimes_any x y hx hy _).mono ?_
        rintro e w' ⟨rfl, rfl⟩
        go_wp2_with fail
        refine (reftimes_any y y hy hy _).mono ?_
        rintro e w' ⟨rfl, rfl⟩
        go_wp2_with fail
        go_round
        case rel => exact ⟨_, k / 2, _, i + 1, by omega, HK2.out hi63, by omega, Hn.out, rfl, by go_num, rfl, by go_num⟩
        case measure => simp [intOf]; omega
      · have Hn := Lib.hid (HC.out.even ho)
        have hdk : ((k : Int) % 2 == 1) = false := by rw [beq_eq_false_iff_ne]; omega
        clear ho
        go_wp2_with fail
        refine (reftimes_any y y hy hy _).mono ?_
        rintro e w' ⟨rfl, rfl⟩
        go_wp2_with fail
        go_round
        case rel => exact ⟨_, k / 2, _, i + 1, by omega, HK2.out hi63, by omega, Hn.out, rfl, by go_num, rfl, by go_num⟩
        case measure => simp [intOf]; omega
theorem refcombine_any (a b n : Nat) (ha : a < 4294967296) (hb : b < 4294967296) (hn : n < 9223372036854775808) (w : World) :
    Calls Try.prog 22 #[.int .u32 (a : Int), .int .u32 (b : Int), .int .i64 (n : Int)] w fun e w' => e = .returned (.tuple #[.int .u32 ((CrcM.shift a n ^^^ b : Nat) : Int), .int .i64 0]) ∧ w = w' := by
  have hneg : decide ((n : Int) < 0) = false := decide_eq_false (by omega)
  have Hx := Lib.hid (u32_xor_nat _ b (CrcM.shift_lt (k := n) ha) hb)
  go_enter Try.func22, Try.ntmps22
  go_wp2_with fail
  refine (shift_any a n ha hn _).mono ?_
  rintro e w' ⟨rfl, rfl⟩
  go_wp2
  go_ret2
  exact ⟨by rw [← Hx.out]; rfl, rfl⟩
end Go.Proofs.Ytebipgpbpgoocaa
