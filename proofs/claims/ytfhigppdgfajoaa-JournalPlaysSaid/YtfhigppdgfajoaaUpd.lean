/- The walk of checksum.update: the register after some bytes. -/
import Derived.Test.YtfhigppdgfajoaaTab
namespace Go.Proofs.Ytfhigppdgfajoaa
open Go.RowKit
theorem take_snoc (p : List Nat) (k : Nat) (h : k < p.length) : p.take (k + 1) = p.take k ++ [p.getD k 0] := by
  rw [List.take_succ_eq_append_getElem h, List.getD_eq_getElem?_getD, List.getElem?_eq_getElem h]; rfl
theorem u32_xor_of (a b : Int) (m n : Nat) (ha : a = m) (hb : b = n) (hm : m < 4294967296) (hn : n < 4294967296) : bits .xor .u32 a b = ((m ^^^ n : Nat) : Int) := by
  subst ha; subst hb; exact u32_xor_nat m n hm hn
theorem u16_xor_of (a b : Int) (m n : Nat) (ha : a = m) (hb : b = n) (hm : m < 65536) (hn : n < 65536) : bits .xor .u16 a b = ((m ^^^ n : Nat) : Int) := by
  subst ha; subst hb; exact u16_xor_nat m n hm hn
theorem u8_xor_of (a b : Int) (m n : Nat) (ha : a = m) (hb : b = n) (hm : m < 256) (hn : n < 256) : bits .xor .u8 a b = ((m ^^^ n : Nat) : Int) := by
  subst ha; subst hb; exact u8_xor_nat m n hm hn
theorem upd_bytes {p : List Nat} (h : ∀ c ∈ p, c < 256) (k : Nat) : CrcM.Bytes (p.take k) := fun c hc => h c (List.mem_of_mem_take hc)
set_option maxRecDepth 100000 in
set_option maxHeartbeats 1000000 in
theorem update_any (x : Nat) (hx : x < 4294967296) (A : Option Addr) (p : List Nat) (cap : Nat) (w : World) (hr : Rd w A p) :
    Calls Try.prog 39 #[.int .u32 (x : Int), .slice A p.length cap] w fun e w' => e = .returned (.int .u32 ((CrcM.upd x p : Nat) : Int)) ∧ Below w.heap.size w w' := by
  have hlen := hr.1
  have HR := Lib.hid hr
  clear hr
  go_enter Try.func39, Try.ntmps39
  go_wp2_with fail
  refine (table_any _).mono ?_
  rintro e w1 ⟨rfl, hB1⟩
  unfold tabV
  go_wp2_with (first | (refine wpList_new rfl 84 rfl (.agg zs) info84 ?_; rw [cells_zs]; intro w2 hb2 hB2 hz2; have H2 := Lib.hid hz2; clear hz2) | refine wpList_store_row rfl 84 _ _ rfl _ (tabL 256).toArray rfl rfl 84 _ (by assumption) tab_size tab_same tab_one ?_)
  obtain ⟨w3, hw3, hb3, hB3⟩ : ∃ w3, Hid (w3 = w2.setRow w1.heap.size (tabL 256).toArray) ∧ Blk w3 w1.heap.size 84 (tabL 256).toArray ∧ Below w.heap.size w w3 :=
    ⟨_, rfl, hb2.setRow _, below_setRow ((hB1).trans (hB2.mono hB1.size)) hB1.size _⟩
  rw [← hw3.out]
  have HR3 := Lib.hid (HR.out.below hB3 (Nat.le_refl _))
  clear hb2 H2 hB2
  go_loop [0, 11] (fun v i => ∃ k : Nat, k ≤ p.length ∧ i = .int .i64 k ∧ v = .int .u32 ((CrcM.upd x (p.take k) : Nat) : Int)) (fun _ i => p.length - (intOf i).toNat)
  case atStart => exact ⟨0, Nat.zero_le _, rfl, by rw [List.take_zero, CrcM.upd_nil]⟩
  case round =>
    obtain ⟨k, hk, rfl, rfl⟩ := hrel
    by_cases hlt : k < p.length
    · have hd : decide ((k : Int) < (p.length : Int)) = true := decide_eq_true (by omega)
      obtain ⟨ad, rfl, hcell, hc256⟩ := HR3.out.at_ hlt
      have hsn := take_snoc p k hlt
      have hR := CrcM.upd_lt (x := x) (p := p.take k) hx (upd_bytes HR.out.2.1 k)
      have hval := CrcM.upd_snoc x (p.take k) (p.getD k 0)
      rw [CrcM.steps8_split] at hval
      rw [← hsn] at hval
      generalize p.getD k 0 = c at *
      generalize CrcM.upd x (p.take k) = r at *
      generalize hr1 : CrcM.upd x (p.take (k + 1)) = r1 at *
      have Hr1 := Lib.hid hr1
      clear hr1
      have hm : (r % 256) ^^^ c < 256 := Nat.xor_lt_two_pow (n := 8) (Nat.mod_lt _ (by decide)) hc256
      have hix : bits .xor .u8 ((r : Int) % 256) (c : Int) = (((r % 256) ^^^ c : Nat) : Int) := u8_xor_of _ _ _ _ (by omega) rfl (Nat.mod_lt _ (by decide)) hc256
      have htab := blk_cell hb3 ((r % 256) ^^^ c) _ (by rw [tab_get _ _ hm, if_pos hm])
      have hT : CrcM.steps 8 ((r % 256) ^^^ c) < 4294967296 := CrcM.steps_lt (by omega)
      have hfin : bits .xor .u32 ((r : Int) / 256) ((CrcM.steps 8 ((r % 256) ^^^ c) : Nat) : Int) = (r1 : Int) := by
        rw [hval]; exact u32_xor_of _ _ _ _ (by omega) rfl (by omega) hT
      have Hfin := Lib.hid hfin
      clear hsn hval hfin
      generalize CrcM.steps 8 ((r % 256) ^^^ c) = T at *
      generalize (r % 256) ^^^ c = m at *
      go_wp2
      go_round
      case rel => exact ⟨k + 1, by omega, by go_num, by rw [Hr1.out]; exact val_int Hfin.out⟩
      case measure => simp [intOf]; omega
    · have hd : decide ((k : Int) < (p.length : Int)) = false := decide_eq_false (by omega)
      rw [List.take_of_length_le (by omega)]
      go_wp2
      go_ret
      exact ⟨rfl, hB3⟩
end Go.Proofs.Ytfhigppdgfajoaa
