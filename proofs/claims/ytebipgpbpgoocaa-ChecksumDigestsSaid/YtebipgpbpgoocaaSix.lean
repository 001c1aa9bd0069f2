/- The walks of checksum.CRC16 and of the reference's CRC16. -/
import Derived.Test.YtebipgpbpgoocaaUpd
namespace Go.Proofs.Ytebipgpbpgoocaa
open Go.RowKit
/-- one step of the 16-bit register as the walks spell it -/
theorem step16_hi (x : Nat) (h : x / 32768 = 1) : bits .xor .u16 (IntKind.u16.wrap ((x : Int) * 2)) 4129 = ((Crc16.step x : Nat) : Int) := by
  have h1 : Crc16.step x = (x * 2 % 65536) ^^^ 4129 := by unfold Crc16.step; rw [if_pos (by omega)]
  rw [h1]
  exact u16_xor_of _ _ _ _ (by rw [IntKind.wrap_u16]; omega) rfl (by omega) (by decide)
theorem step16_lo (x : Nat) (h : x / 32768 = 0) : ((x : Int) * 2) = ((Crc16.step x : Nat) : Int) := by
  have h1 : Crc16.step x = x * 2 := by unfold Crc16.step; rw [if_neg (by omega), Nat.xor_zero]; omega
  rw [h1]; omega
set_option maxRecDepth 100000 in
set_option maxHeartbeats 1000000 in
theorem crc16_any (A : Option Addr) (p : List Nat) (cap : Nat) (w : World) (hr : Rd w A p) :
    Calls Try.prog 17 #[.slice A p.length cap] w fun e w' => e = .returned (.int .u16 ((Crc16.crc p : Nat) : Int)) ∧ w = w' := by
  have hlen := hr.1
  have HR := Lib.hid hr
  clear hr
  unfold Crc16.crc
  go_enter Try.func17, Try.ntmps17
  go_wp2_with fail
  go_loop [3, 8] (fun v i => ∃ k : Nat, k ≤ p.length ∧ i = .int .i64 k ∧ v = .int .u16 ((Crc16.upd 65535 (p.take k) : Nat) : Int)) (fun _ i => p.length - (intOf i).toNat)
  case atStart => exact ⟨0, Nat.zero_le _, rfl, by rw [List.take_zero, Crc16.upd_nil]; rfl⟩
  case round =>
    obtain ⟨k, hk, rfl, rfl⟩ := hrel
    by_cases hlt : k < p.length
    · have hd : decide ((k : Int) < (p.length : Int)) = true := decide_eq_true (by omega)
      obtain ⟨ad, rfl, hcell, hc256⟩ := HR.out.at_ hlt
      have hsn := take_snoc p k hlt
      have hR := Crc16.upd_lt (x := 65535) (p := p.take k) (by decide) (upd_bytes HR.out.2.1 k)
      have hval := Crc16.upd_snoc 65535 (p.take k) (p.getD k 0)
      rw [← hsn] at hval
      generalize p.getD k 0 = c at *
      generalize Crc16.upd 65535 (p.take k) = r at *
      have Hval := Lib.hid hval
      have hx : bits .xor .u16 (r : Int) ((c : Int) * 256) = ((r ^^^ c * 256 : Nat) : Int) := u16_xor_of _ _ _ _ rfl (by omega) hR (by omega)
      have hm : r ^^^ c * 256 < 65536 := Nat.xor_lt_two_pow (n := 16) hR (by omega)
      clear hsn hval
      generalize r ^^^ c * 256 = m at *
      go_wp2_with fail
      go_loop [3, 17] (fun x j => ∃ i : Nat, i ≤ 8 ∧ j = .int .i64 i ∧ x = .int .u16 ((Crc16.steps i m : Nat) : Int)) (fun _ j => 8 - (intOf j).toNat)
      case atStart => exact ⟨0, by omega, rfl, by rw [Crc16.steps_0]⟩
      case round =>
        obtain ⟨i, hi, rfl, rfl⟩ := hrel
        have hs : Crc16.steps i m < 65536 := Crc16.steps_lt hm
        have hsn := Crc16.steps_snoc i m
        generalize hq : Crc16.steps i m = q at *
        have Hq := Lib.hid hq
        clear hq
        by_cases hm8 : i < 8
        · have hd8 : decide ((i : Int) < 8) = true := decide_eq_true (by omega)
          by_cases hh : q / 32768 = 1
          · have hb : ((q : Int) / 32768 == 1) = true := by rw [beq_iff_eq]; omega
            have hv := step16_hi q hh
            rw [← hsn] at hv
            have Hv := Lib.hid hv
            clear hv hh hsn
            go_wp2
            go_round
            case rel => exact ⟨i + 1, by omega, by go_num, val_int Hv.out⟩
            case measure => simp [intOf]; omega
          · have hb : ((q : Int) / 32768 == 1) = false := by rw [beq_eq_false_iff_ne]; omega
            have hv := step16_lo q (by omega)
            rw [← hsn] at hv
            have Hv := Lib.hid hv
            have hlt2 : q * 2 < 65536 := by omega
            clear hv hh hsn
            go_wp2
            go_round
            case rel => exact ⟨i + 1, by omega, by go_num, val_int Hv.out⟩
            case measure => simp [intOf]; omega
        · have hd8 : decide ((i : Int) < 8) = false := decide_eq_false (by omega)
          clear hsn
          go_wp2_with fail
          go_round
          case rel => exact ⟨k + 1, by omega, by go_num, by rw [Hval.out, ← Hq.out, show i = 8 by omega]⟩
          case measure => simp [intOf]; omega
    · have hd : decide ((k : Int) < (p.length : Int)) = false := decide_eq_false (by omega)
      rw [List.take_of_length_le (by omega)]
      go_wp2
      go_ret
      exact ⟨rfl, rfl⟩
set_option maxRecDepth 100000 in
set_option maxHeartbeats 1000000 in
theorem refcrc16_any (A : Option Addr) (p : List Nat) (cap : Nat) (w : World) (hr : Rd w A p) :
    Calls Try.prog 18 #[.slice A p.length cap] w fun e w' => e = .returned (.int .u16 ((Crc16.crc p : Nat) : Int)) ∧ w = w' := by
  have hlen := hr.1
  have HR := Lib.hid hr
  clear hr
  unfold Crc16.crc
  go_enter Try.func18, Try.ntmps18
  go_wp2_with fail
  go_loop [3, 4] (fun v i => ∃ k : Nat, k ≤ p.length ∧ i = .int .i64 k ∧ v = .int .u16 ((Crc16.upd 65535 (p.take k) : Nat) : Int)) (fun _ i => p.length - (intOf i).toNat)
  case atStart => exact ⟨0, Nat.zero_le _, rfl, by rw [List.take_zero, Crc16.upd_nil]; rfl⟩
  case round =>
    obtain ⟨k, hk, rfl, rfl⟩ := hrel
    by_cases hlt : k < p.length
    · have hd : decide ((k : Int) < (p.length : Int)) = true := decide_eq_true (by omega)
      obtain ⟨ad, rfl, hcell, hc256⟩ := HR.out.at_ hlt
      have hsn := take_snoc p k hlt
      have hR := Crc16.upd_lt (x := 65535) (p := p.take k) (by decide) (upd_bytes HR.out.2.1 k)
      have hval := Crc16.upd_snoc 65535 (p.take k) (p.getD k 0)
      rw [← hsn] at hval
      generalize p.getD k 0 = c at *
      generalize Crc16.upd 65535 (p.take k) = r at *
      have Hval := Lib.hid hval
      have hx : bits .xor .u16 (r : Int) ((c : Int) * 256) = ((r ^^^ c * 256 : Nat) : Int) := u16_xor_of _ _ _ _ rfl (by omega) hR (by omega)
      have hm : r ^^^ c * 256 < 65536 := Nat.xor_lt_two_pow (n := 16) hR (by omega)
      clear hsn hval
      generalize r ^^^ c * 256 = m at *
      go_wp2_with fail
      go_loop [3, 5] (fun x j => ∃ i : Nat, i ≤ 8 ∧ j = .int .i64 i ∧ x = .int .u16 ((Crc16.steps i m : Nat) : Int)) (fun _ j => 8 - (intOf j).toNat)
      case atStart => exact ⟨0, by omega, rfl, by rw [Crc16.steps_0]⟩
      case round =>
        obtain ⟨i, hi, rfl, rfl⟩ := hrel
        have hs : Crc16.steps i m < 65536 := Crc16.steps_lt hm
        have hsn := Crc16.steps_snoc i m
        generalize hq : Crc16.steps i m = q at *
        have Hq := Lib.hid hq
        clear hq
        by_cases hm8 : i < 8
        · have hd8 : decide ((i : Int) < 8) = true := decide_eq_true (by omega)
          by_cases hh : q / 32768 = 1
          · have hb : decide (32768 ≤ (q : Int)) = true := decide_eq_true (by omega)
            have hv := step16_hi q hh
            rw [← hsn] at hv
            have Hv := Lib.hid hv
            clear hv hh hsn
            go_wp2
            go_round
            case rel => exact ⟨i + 1, by omega, by go_num, val_int Hv.out⟩
            case measure => simp [intOf]; omega
          · have hb : decide (32768 ≤ (q : Int)) = false := decide_eq_false (by omega)
            have hv := step16_lo q (by omega)
            rw [← hsn] at hv
            have Hv := Lib.hid hv
            have hlt2 : q * 2 < 65536 := by omega
            clear hv hh hsn
            go_wp2
            go_round
            case rel => exact ⟨i + 1, by omega, by go_num, val_int Hv.out⟩
            case measure => simp [intOf]; omega
        · have hd8 : decide ((i : Int) < 8) = false := decide_eq_false (by omega)
          clear hsn
          go_wp2_with fail
          go_round
          case rel => exact ⟨k + 1, by omega, by go_num, by rw [Hval.out, ← Hq.out, show i = 8 by omega]⟩
          case measure => simp [intOf]; omega
    · have hd : decide ((k : Int) < (p.length : Int)) = false := decide_eq_false (by omega)
      rw [List.take_of_length_le (by omega)]
      go_wp2
      go_ret
      exact ⟨rfl, rfl⟩
end Go.Proofs.Ytebipgpbpgoocaa
