/- The walk of the law's own function flipped: the bits of a mask inverted from a place on. -/
import Derived.Test.YtebipgpbpgoocaaArg
namespace Go.Proofs.Ytebipgpbpgoocaa
open Go.RowKit
/-- the bit of a byte that is inverted: counted from the lowest, or from the highest -/
def bitv (high : Bool) (j : Nat) : Nat := if high then 2 ^ (7 - j) else 2 ^ j
def flipAt (high : Bool) (out : List Nat) (k : Nat) : List Nat := out.set (k / 8) (out.getD (k / 8) 0 ^^^ bitv high (k % 8))
structure FlipInv (p : List Nat) (at_ wide : Nat) (high : Bool) (Inv : Nat → List Nat → Bool → Prop) : Prop where
  start : Inv 0 p false
  skip : ∀ i out any, Inv i out any → Inv (i + 1) out any
  flip : ∀ i out any, i < wide → Inv i out any → at_ + i < 8 * p.length → Inv (i + 1) (flipAt high out (at_ + i)) true
  len : ∀ i out any, Inv i out any → out.length = p.length
  byte : ∀ i out any, Inv i out any → ∀ c ∈ out, c < 256
def FlipEnd (w : World) (Inv : Nat → List Nat → Bool → Prop) (wide : Nat) (e : Ending) (w' : World) : Prop :=
  ∃ v out any, e = .returned (.tuple #[v, .bool any]) ∧ OwnB w' w.heap.size 5 v out ∧ Inv wide out any ∧ Below w.heap.size w w'
theorem bitv_lt (high : Bool) (j : Nat) (hj : j < 8) : bitv high j < 256 := by
  unfold bitv
  have h1 : 2 ^ j < 2 ^ 8 := Nat.pow_lt_pow_right (by decide) hj
  have h2 : 2 ^ (7 - j) < 2 ^ 8 := Nat.pow_lt_pow_right (by decide) (by omega)
  split <;> omega
theorem lo_val (b : Nat) (h : b < 8) : (2 : Int) ^ b % 256 = ((2 ^ b : Nat) : Int) := by
  have : ∀ b : Fin 8, (2 : Int) ^ b.val % 256 = ((2 ^ b.val : Nat) : Int) := by decide
  exact this ⟨b, h⟩
theorem hi_val (b : Nat) (h : b < 8) : (128 : Int) / 2 ^ b = ((2 ^ (7 - b) : Nat) : Int) := by
  have : ∀ b : Fin 8, (128 : Int) / 2 ^ b.val = ((2 ^ (7 - b.val) : Nat) : Int) := by decide
  exact this ⟨b, h⟩
set_option maxRecDepth 100000 in
set_option maxHeartbeats 2000000 in
theorem flipped_any (A : Option Addr) (p : List Nat) (cap at_ mask wide : Nat) (high : Bool) (w : World) (hr : Rd w A p) (hp : 0 < p.length) (hl : p.length ≤ 600) (hat : at_ < 100000) (hm : mask < 4294967296) (hw : wide ≤ 32)
    (Inv : Nat → List Nat → Bool → Prop) (hI : FlipInv p at_ wide high Inv) :
    Calls Try.prog 23 #[.slice A p.length cap, .int .i64 (at_ : Int), .int .u32 (mask : Int), .int .i64 (wide : Int), .bool high] w (FlipEnd w Inv wide) := by
  have HR := Lib.hid hr
  have HI := Lib.hid hI
  clear hr hI
  go_enter Try.func23, Try.ntmps23
  go_wp2_with (at_builtin
               refine wpList_app_bytes rfl (.tmp 17) (.tmp 18) 22 rfl w.heap.size 5 und22 info5 (.slice none 0 0) [] rfl (OwnB.nil _ _ _) _ _ p rfl HR.out (by simp; omega) (Nat.le_refl _) ?_
               intro v1 w1 hO1 hG1 hat1
               have hB1 : Below w.heap.size w w1 := (Below.refl _ _).grown hG1 (Nat.le_refl _) (by simp [Value.ownBlock])
               rw [List.nil_append] at hO1
               obtain ⟨g, cap1, hv1, hg1, _⟩ := World.ownsRow.form hO1 hp
               subst hv1
               clear hG1 hat1)
  go_loopw [2, 13, 14] (fun vm va vi wr => ∃ (m i : Nat) (out : List Nat) (any : Bool), m < 4294967296 ∧ i ≤ wide ∧ vm = .int .u32 (m : Int) ∧ va = .bool any ∧ vi = .int .i64 (i : Int) ∧ Inv i out any ∧ OwnB wr w.heap.size 5 (.slice (some ⟨g, 0, none⟩) p.length cap1) out ∧ Below w.heap.size w wr) (fun _ _ vi _ => wide - (intOf vi).toNat)
  case atStart => exact ⟨mask, 0, p, false, hm, Nat.zero_le _, rfl, rfl, rfl, HI.out.start, hO1, hB1⟩
  case round =>
    clear hO1 hB1
    obtain ⟨m, i, out, any, hm, hi, rfl, rfl, rfl, hinv, hO, hB⟩ := hrel
    have HO := Lib.hid hO
    have HB := Lib.hid hB
    have HV := Lib.hid hinv
    have hol := HI.out.len _ _ _ hinv
    clear hO hB hinv
    by_cases hlt : i < wide
    · have hd : decide ((i : Int) < (wide : Int)) = true := decide_eq_true (by omega)
      have hkk : (at_ : Int) + (i : Int) = ((at_ + i : Nat) : Int) := by omega
      generalize hk : at_ + i = kk at *
      have HK := Lib.hid hk
      have hkb : kk < 100032 := by omega
      clear hk
      by_cases hbit : m % 2 = 1 ∧ kk < 8 * p.length
      · obtain ⟨hb1, hb2⟩ := hbit
        have hdb : ((m : Int) % 2 == 1) = true := by rw [beq_iff_eq]; omega
        have hdk : decide ((kk : Int) < 8 * (p.length : Int)) = true := decide_eq_true (by omega)
        have hq : (kk : Int) / 8 = ((kk / 8 : Nat) : Int) := by omega
        have hrm : (kk : Int) % 8 = ((kk % 8 : Nat) : Int) := by omega
        have hj8 : kk % 8 < 8 := Nat.mod_lt _ (by decide)
        have hjl : kk / 8 < p.length := by omega
        have hO' : World.ownsRow wr w.heap.size 5 1 (.slice (some ⟨g, 0, none⟩) p.length cap1) p.length (cellsB out) := by
          have h := HO.out
          unfold OwnB at h
          rwa [hol] at h
        have HO' := Lib.hid hO'
        clear hO'
        have hcell := (World.ownsRow.cellAt HO'.out (kk / 8) (by omega)).trans (cellsB_get out (kk / 8) (by rw [hol]; omega))
        have hfr := World.ownsRow.frozenAt HO'.out (kk / 8)
        have hc256 : out.getD (kk / 8) 0 < 256 := CrcM.bytes_getD (HI.out.byte _ _ _ HV.out) _
        have Hfl := Lib.hid (HI.out.flip i out any hlt HV.out (by rw [HK.out]; omega))
        rw [HK.out] at Hfl
        have Hset := Lib.hid (World.ownsRow.stored HO'.out (kk / 8) (.int .u8 ((out.getD (kk / 8) 0 ^^^ bitv high (kk % 8) : Nat) : Int))).1
        have hcs : (cellsB out).set (kk / 8) (.int .u8 ((out.getD (kk / 8) 0 ^^^ bitv high (kk % 8) : Nat) : Int)) = cellsB (flipAt high out kk) := by
          unfold flipAt; simp [cellsB, List.map_set]
        rw [hcs] at Hset
        have hfl : (flipAt high out kk).length = p.length := by unfold flipAt; rw [List.length_set]; exact hol
        have hO2 : OwnB (wr.setCell ⟨g, kk / 8, none⟩ (.int .u8 ((out.getD (kk / 8) 0 ^^^ bitv high (kk % 8) : Nat) : Int))) w.heap.size 5 (.slice (some ⟨g, 0, none⟩) p.length cap1) (flipAt high out kk) := by
          unfold OwnB; rw [hfl]; exact Hset.out
        have HO2 := Lib.hid hO2
        have hB2 := Lib.hid (HB.out.setCell (p := ⟨g, kk / 8, none⟩) hg1 (.int .u8 ((out.getD (kk / 8) 0 ^^^ bitv high (kk % 8) : Nat) : Int)))
        have hbv := bitv_lt high (kk % 8) hj8
        have HXL := Lib.hid (u8_xor_nat (out.getD (kk / 8) 0) (bitv high (kk % 8)) hc256 hbv)
        clear hcs hO2 Hset hfl
        generalize hqj : kk / 8 = j at *
        generalize hrb : kk % 8 = b at *
        clear hqj hrb
        have hcell' : wr.cell? ⟨g, j, none⟩ = some (.int .u8 ((out.getD j 0 : Nat) : Int)) := hcell
        clear hcell
        generalize out.getD j 0 = c at *
        cases high
        · have hx : bits .xor .u8 (c : Int) (2 ^ b % 256) = ((c ^^^ bitv false b : Nat) : Int) := by
            rw [← HXL.out, lo_val b hj8]; rfl
          clear hbv
          go_wp2
          go_roundw
          case rel => exact ⟨m / 2, i + 1, flipAt false out kk, true, by omega, by omega, by go_num, rfl, by go_num, Hfl.out, HO2.out, hB2.out⟩
          case measure => simp [intOf]; omega
        · have hx : bits .xor .u8 (c : Int) (128 / 2 ^ b) = ((c ^^^ bitv true b : Nat) : Int) := by
            rw [← HXL.out, hi_val b hj8]; rfl
          clear hbv
          go_wp2
          go_roundw
          case rel => exact ⟨m / 2, i + 1, flipAt true out kk, true, by omega, by omega, by go_num, rfl, by go_num, Hfl.out, HO2.out, hB2.out⟩
          case measure => simp [intOf]; omega
      · have hdd : ((m : Int) % 2 == 1) = false ∨ (((m : Int) % 2 == 1) = true ∧ decide ((kk : Int) < 8 * (p.length : Int)) = false) := by
          by_cases h1 : m % 2 = 1
          · exact .inr ⟨by rw [beq_iff_eq]; omega, decide_eq_false (by omega)⟩
          · exact .inl (by rw [beq_eq_false_iff_ne]; omega)
        have Hsk := Lib.hid (HI.out.skip i out any HV.out)
        clear hbit
        rcases hdd with hdb | ⟨hdb, hdk⟩
        all_goals
          go_wp2
          go_roundw
          case rel => exact ⟨m / 2, i + 1, out, any, by omega, by omega, by go_num, rfl, by go_num, Hsk.out, HO.out, HB.out⟩
          case measure => simp [intOf]; omega
    · have hd : decide ((i : Int) < (wide : Int)) = false := decide_eq_false (by omega)
      obtain rfl : i = wide := by omega
      go_wp2
      go_ret2
      exact ⟨_, out, any, rfl, HO.out, HV.out, HB.out⟩
theorem flip32 (p : List Nat) (hp : ∀ c ∈ p, c < 256) (at_ : Nat) : FlipInv p at_ 32 false fun i out any => CrcM.Flip32 CrcM.ones p at_ out any i where
  start := CrcM.Flip32.start _ hp at_
  skip _ _ _ h := h.skip
  flip _ _ _ _ h hk := h.flip hk
  len _ _ _ h := h.1
  byte _ _ _ h := h.2.1
theorem flip16 (p : List Nat) (hp : ∀ c ∈ p, c < 256) (at_ : Nat) : FlipInv p at_ 16 true fun i out any => Crc16.Flip 65535 p at_ out any i where
  start := Crc16.Flip.start _ hp at_
  skip _ _ _ h := h.skip
  flip _ _ _ hi h hk := h.flip (by omega) hk
  len _ _ _ h := h.1
  byte _ _ _ h := h.2.1
end Go.Proofs.Ytebipgpbpgoocaa
