/- The walks of checksum.CRC32 and of the reference's step and CRC32. -/
import Derived.Test.YtfhigppdgfajoaaUpd
namespace Go.Proofs.Ytfhigppdgfajoaa
open Go.RowKit
theorem ones_val : CrcM.ones = 4294967295 := by with_unfolding_all rfl
theorem not_u32 (n : Nat) (hn : n < 4294967296) : bits .xor .u32 IntKind.u32.max (n : Int) = ((n ^^^ CrcM.ones : Nat) : Int) := by
  rw [ones_val, Nat.xor_comm]
  exact u32_xor_of _ _ _ _ (by decide) rfl (by decide) hn
theorem crc_any (A : Option Addr) (p : List Nat) (cap : Nat) (w : World) (hr : Rd w A p) :
    Calls Try.prog 34 #[.slice A p.length cap] w fun e w' => e = .returned (.int .u32 ((CrcM.crc p : Nat) : Int)) ∧ Below w.heap.size w w' := by
  have hu := CrcM.upd_lt (x := CrcM.ones) (p := p) CrcM.ones_lt hr.2.1
  have hn := not_u32 _ hu
  have Hn := Lib.hid hn
  clear hn
  go_enter Try.func34, Try.ntmps34
  go_wp2_with fail
  rw [show (4294967295 : Int) = ((CrcM.ones : Nat) : Int) by rw [ones_val]; rfl]
  refine (update_any CrcM.ones CrcM.ones_lt A p cap w hr).mono ?_
  rintro e w1 ⟨rfl, hB1⟩
  have hs : IntKind.u32.signed = false := rfl
  go_wp2
  go_ret
  exact ⟨ret_int Hn.out, hB1⟩
theorem refstep_any (x : Nat) (v : Int) (hv : v = x) (hx : x < 4294967296) (w : World) :
    Calls Try.prog 35 #[.int .u32 v] w fun e w' => e = .returned (.int .u32 ((CrcM.step x : Nat) : Int)) ∧ w = w' := by
  subst hv
  by_cases h : x % 2 = 1
  · have hb : ((x : Int) % 2 == 1) = true := by rw [beq_iff_eq]; omega
    rw [← step_val x hx h]
    clear h
    go_enter Try.func35, Try.ntmps35
    go_wp2
    go_ret
    exact ⟨rfl, rfl⟩
  · have hb : ((x : Int) % 2 == 1) = false := by rw [beq_eq_false_iff_ne]; omega
    rw [← step_val0 x h]
    clear h
    go_enter Try.func35, Try.ntmps35
    go_wp2
    go_ret
    exact ⟨rfl, rfl⟩

set_option maxRecDepth 100000 in
set_option maxHeartbeats 1000000 in
theorem refcrc_any (A : Option Addr) (p : List Nat) (cap : Nat) (w : World) (hr : Rd w A p) :
    Calls Try.prog 28 #[.slice A p.length cap] w fun e w' => e = .returned (.int .u32 ((CrcM.crc p : Nat) : Int)) ∧ w = w' := by
  have hlen := hr.1
  have HR := Lib.hid hr
  clear hr
  go_enter Try.func28, Try.ntmps28
  go_wp2_with fail
  go_loop [3, 4] (fun v i => ∃ k : Nat, k ≤ p.length ∧ i = .int .i64 k ∧ v = .int .u32 ((CrcM.upd CrcM.ones (p.take k) : Nat) : Int)) (fun _ i => p.length - (intOf i).toNat)
  case atStart => exact ⟨0, Nat.zero_le _, rfl, by rw [List.take_zero, CrcM.upd_nil, ones_val]; rfl⟩
  case round =>
    obtain ⟨k, hk, rfl, rfl⟩ := hrel
    by_cases hlt : k < p.length
    · have hd : decide ((k : Int) < (p.length : Int)) = true := decide_eq_true (by omega)
      obtain ⟨ad, rfl, hcell, hc256⟩ := HR.out.at_ hlt
      have hsn := take_snoc p k hlt
      have hR := CrcM.upd_lt (x := CrcM.ones) (p := p.take k) CrcM.ones_lt (upd_bytes HR.out.2.1 k)
      have hval := CrcM.upd_snoc CrcM.ones (p.take k) (p.getD k 0)
      rw [← hsn] at hval
      generalize p.getD k 0 = c at *
      generalize CrcM.upd CrcM.ones (p.take k) = r at *
      have Hval := Lib.hid hval
      have hx : bits .xor .u32 (r : Int) (c : Int) = ((r ^^^ c : Nat) : Int) := u32_xor_of _ _ _ _ rfl rfl hR (by omega)
      have hm : r ^^^ c < 4294967296 := Nat.xor_lt_two_pow (n := 32) hR (by omega)
      clear hsn hval
      generalize r ^^^ c = m at *
      go_wp2_with fail
      go_loop [3, 5] (fun x j => ∃ i : Nat, i ≤ 8 ∧ j = .int .i64 i ∧ x = .int .u32 ((CrcM.steps i m : Nat) : Int)) (fun _ j => 8 - (intOf j).toNat)
      case atStart => exact ⟨0, by omega, rfl, by rw [CrcM.steps_0]⟩
      case round =>
        obtain ⟨i, hi, rfl, rfl⟩ := hrel
        have hx : CrcM.steps i m < 4294967296 := CrcM.steps_lt hm
        by_cases hm8 : i < 8
        · have hd8 : decide ((i : Int) < 8) = true := decide_eq_true (by omega)
          go_wp2_with (go_at_call 35; refine (refstep_any _ _ rfl hx _).mono ?_; rintro e w' ⟨rfl, rfl⟩)
          go_round
          case rel => exact ⟨i + 1, by omega, by go_num, by rw [CrcM.steps_snoc]⟩
          case measure => simp [intOf]; omega
        · have hd8 : decide ((i : Int) < 8) = false := decide_eq_false (by omega)
          go_wp2_with fail
          go_round
          case rel => exact ⟨k + 1, by omega, by go_num, by rw [Hval.out, show i = 8 by omega]⟩
          case measure => simp [intOf]; omega
    · have hd : decide ((k : Int) < (p.length : Int)) = false := decide_eq_false (by omega)
      rw [List.take_of_length_le (by omega)]
      have hu := CrcM.upd_lt (x := CrcM.ones) (p := p) CrcM.ones_lt HR.out.2.1
      go_wp2
      go_ret
      exact ⟨ret_int (u32_xor_of _ _ _ _ rfl (by rw [ones_val]; rfl) hu CrcM.ones_lt), rfl⟩
end Go.Proofs.Ytfhigppdgfajoaa
