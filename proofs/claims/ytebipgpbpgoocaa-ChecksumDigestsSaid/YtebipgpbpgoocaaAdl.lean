/- The walks of checksum.Adler32 and of the reference's Adler32. -/
import Derived.Test.YtebipgpbpgoocaaUpd
namespace Go.Proofs.Ytebipgpbpgoocaa
open Go.RowKit
set_option maxRecDepth 100000 in
set_option maxHeartbeats 1000000 in
theorem adler_any (A : Option Addr) (p : List Nat) (cap : Nat) (w : World) (hr : Rd w A p) :
    Calls Try.prog 19 #[.slice A p.length cap] w fun e w' => e = .returned (.int .u32 ((Adler.sum p : Nat) : Int)) ∧ w = w' := by
  have hlen := hr.1
  have HR := Lib.hid hr
  clear hr
  unfold Adler.sum
  go_enter Try.func19, Try.ntmps19
  go_wp2_with fail
  go_loop [3, 4, 9] (fun a b i => ∃ k : Nat, k ≤ p.length ∧ i = .int .i64 k ∧ a = .int .u32 (((Adler.ab (1, 0) (p.take k)).1 : Nat) : Int) ∧ b = .int .u32 (((Adler.ab (1, 0) (p.take k)).2 : Nat) : Int)) (fun _ _ i => p.length - (intOf i).toNat)
  case atStart => exact ⟨0, Nat.zero_le _, rfl, rfl, rfl⟩
  case round =>
    obtain ⟨k, hk, rfl, rfl, rfl⟩ := hrel
    have hb := Adler.sum_bounds (p.take k)
    by_cases hlt : k < p.length
    · have hd : decide ((k : Int) < (p.length : Int)) = true := decide_eq_true (by omega)
      obtain ⟨ad, rfl, hcell, hc256⟩ := HR.out.at_ hlt
      have hsn := take_snoc p k hlt
      have hval := Adler.ab_snoc (1, 0) (p.take k) (p.getD k 0)
      rw [← hsn] at hval
      have hv1 := congrArg Prod.fst hval
      have hv2 := congrArg Prod.snd hval
      obtain ⟨hb1, hb2⟩ := hb
      generalize p.getD k 0 = c at *
      generalize (Adler.ab (1, 0) (p.take k)).1 = a at *
      generalize (Adler.ab (1, 0) (p.take k)).2 = b at *
      have Hv1 := Lib.hid hv1
      have Hv2 := Lib.hid hv2
      clear hsn hval hv1 hv2
      go_wp2
      go_round
      case rel => exact ⟨k + 1, by omega, by go_num, by rw [Hv1.out]; exact val_int (by omega), by rw [Hv2.out]; exact val_int (by omega)⟩
      case measure => simp [intOf]; omega
    · have hd : decide ((k : Int) < (p.length : Int)) = false := decide_eq_false (by omega)
      rw [List.take_of_length_le (by omega)] at hb ⊢
      obtain ⟨hb1, hb2⟩ := hb
      generalize ha : (Adler.ab (1, 0) p).1 = a at *
      generalize hb : (Adler.ab (1, 0) p).2 = b at *
      have Ha := Lib.hid ha
      have Hb := Lib.hid hb
      clear ha hb
      have ho : bits .or .u32 ((b : Int) * 65536) (a : Int) = ((b * 65536 + a : Nat) : Int) := by
        have h1 := u32_or_nat (b * 65536) a (by omega) (by omega)
        rw [nat_join 16 (b * 65536) a (by omega) (by omega)] at h1
        rw [← h1]; congr 1
      have Ho := Lib.hid ho
      clear ho
      go_wp2
      go_ret
      exact ⟨ret_int (by rw [Ho.out, Ha.out, Hb.out]; omega), rfl⟩
set_option maxRecDepth 100000 in
set_option maxHeartbeats 1000000 in
theorem refadler_any (A : Option Addr) (p : List Nat) (cap : Nat) (w : World) (hr : Rd w A p) :
    Calls Try.prog 20 #[.slice A p.length cap] w fun e w' => e = .returned (.int .u32 ((Adler.sum p : Nat) : Int)) ∧ w = w' := by
  have hlen := hr.1
  have HR := Lib.hid hr
  clear hr
  unfold Adler.sum
  go_enter Try.func20, Try.ntmps20
  go_wp2_with fail
  go_loop [3, 4, 5] (fun a b i => ∃ k : Nat, k ≤ p.length ∧ i = .int .i64 k ∧ a = .int .u32 (((Adler.ab (1, 0) (p.take k)).1 : Nat) : Int) ∧ b = .int .u32 (((Adler.ab (1, 0) (p.take k)).2 : Nat) : Int)) (fun _ _ i => p.length - (intOf i).toNat)
  case atStart => exact ⟨0, Nat.zero_le _, rfl, rfl, rfl⟩
  case round =>
    obtain ⟨k, hk, rfl, rfl, rfl⟩ := hrel
    have hb := Adler.sum_bounds (p.take k)
    by_cases hlt : k < p.length
    · have hd : decide ((k : Int) < (p.length : Int)) = true := decide_eq_true (by omega)
      obtain ⟨ad, rfl, hcell, hc256⟩ := HR.out.at_ hlt
      have hsn := take_snoc p k hlt
      have hval := Adler.ab_snoc (1, 0) (p.take k) (p.getD k 0)
      rw [← hsn] at hval
      have hv1 := congrArg Prod.fst hval
      have hv2 := congrArg Prod.snd hval
      obtain ⟨hb1, hb2⟩ := hb
      generalize p.getD k 0 = c at *
      generalize (Adler.ab (1, 0) (p.take k)).1 = a at *
      generalize (Adler.ab (1, 0) (p.take k)).2 = b at *
      have Hv1 := Lib.hid hv1
      have Hv2 := Lib.hid hv2
      clear hsn hval hv1 hv2
      go_wp2
      go_round
      case rel => exact ⟨k + 1, by omega, by go_num, by rw [Hv1.out]; exact val_int (by omega), by rw [Hv2.out]; exact val_int (by omega)⟩
      case measure => simp [intOf]; omega
    · have hd : decide ((k : Int) < (p.length : Int)) = false := decide_eq_false (by omega)
      rw [List.take_of_length_le (by omega)] at hb ⊢
      obtain ⟨hb1, hb2⟩ := hb
      generalize ha : (Adler.ab (1, 0) p).1 = a at *
      generalize hb : (Adler.ab (1, 0) p).2 = b at *
      have Ha := Lib.hid ha
      have Hb := Lib.hid hb
      clear ha hb
      go_wp2
      go_ret
      exact ⟨ret_int (by rw [Ha.out, Hb.out]), rfl⟩
end Go.Proofs.Ytebipgpbpgoocaa
