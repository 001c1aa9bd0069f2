/- The walks of the digest's methods and of the law's examples. -/
import Derived.Test.YtebipgpbpgoocaaPow
import Derived.Test.YtebipgpbpgoocaaSix
import Derived.Test.YtebipgpbpgoocaaAdl
import Derived.Lib.SlBytesConst
namespace Go.Proofs.Ytebipgpbpgoocaa
open Go.RowKit
/-- a digest in block g: its register, its count -/
def digL (x n : Nat) : Array Value := #[.int .u32 (x : Int), .int .i64 (n : Int), .bool true]
def Dig (w : World) (g x n : Nat) : Prop := Blk w g 52 (digL x n)
theorem Dig.c0 {w : World} {g x n : Nat} (h : Dig w g x n) : w.cell? ⟨g, 0, none⟩ = some (.int .u32 (x : Int)) := blk_cell h 0 _ rfl
theorem Dig.c1 {w : World} {g x n : Nat} (h : Dig w g x n) : w.cell? ⟨g, 1, none⟩ = some (.int .i64 (n : Int)) := blk_cell h 1 _ rfl
theorem Dig.c2 {w : World} {g x n : Nat} (h : Dig w g x n) : w.cell? ⟨g, 2, none⟩ = some (.bool true) := blk_cell h 2 _ rfl
theorem newDigest_any (w : World) :
    Calls Try.prog 25 #[] w fun e w' => e = .returned (.pointer (some ⟨w.heap.size, 0, none⟩)) ∧ Dig w' w.heap.size CrcM.ones 0 ∧ Below w.heap.size w w' ∧ w'.heap.size = w.heap.size + 1 := by
  have hd : digL CrcM.ones 0 = #[.int .u32 4294967295, .int .i64 0, .bool true] := by unfold digL; rw [ones_val]; rfl
  unfold Dig
  rw [hd]
  clear hd
  go_enter Try.func25, Try.ntmps25
  go_wp2
  go_ret
  exact ⟨rfl, Blk.new _ _ _, (Below.refl _ _).alloc (Nat.le_refl _) _, by simp⟩
theorem sum_any (w : World) (g x n : Nat) (hx : x < 4294967296) (h : Dig w g x n) :
    Calls Try.prog 28 #[.pointer (some ⟨g, 0, none⟩)] w fun e w' => e = .returned (.int .u32 ((x ^^^ CrcM.ones : Nat) : Int)) ∧ w = w' := by
  have h0 := h.c0
  have h2 := h.c2
  have Hn := Lib.hid (not_u32 _ hx)
  have hs : IntKind.u32.signed = false := rfl
  clear h
  go_enter Try.func28, Try.ntmps28
  go_wp2
  go_ret
  exact ⟨ret_int Hn.out, rfl⟩
theorem len_any (w : World) (g x n : Nat) (h : Dig w g x n) :
    Calls Try.prog 29 #[.pointer (some ⟨g, 0, none⟩)] w fun e w' => e = .returned (.int .i64 (n : Int)) ∧ w = w' := by
  have h1 := h.c1
  have h2 := h.c2
  clear h
  go_enter Try.func29, Try.ntmps29
  go_wp2
  go_ret
  exact ⟨rfl, rfl⟩
theorem clone_any (w : World) (g x n : Nat) (h : Dig w g x n) :
    Calls Try.prog 27 #[.pointer (some ⟨g, 0, none⟩)] w fun e w' => e = .returned (.pointer (some ⟨w.heap.size, 0, none⟩)) ∧ Dig w' w.heap.size x n ∧ Below w.heap.size w w' ∧ w'.heap.size = w.heap.size + 1 := by
  have h0 := h.c0
  have h1 := h.c1
  have h2 := h.c2
  clear h
  go_enter Try.func27, Try.ntmps27
  go_wp2
  go_ret
  exact ⟨rfl, Blk.new _ _ _, (Below.refl _ _).alloc (Nat.le_refl _) _, by simp⟩
theorem only_set {a w : World} {g : Nat} (h : a.grownBy w (some g)) (i : Nat) (u : Value) : a.grownBy (w.setCell ⟨g, i, none⟩ u) (some g) :=
  ⟨h.os, h.tape, h.output, by simpa [World.setCell] using h.size, fun k hk hne => (Below.heap_setCell w ⟨g, i, none⟩ u k (fun e => hne (by rw [e]))).trans (h.block k hk hne)⟩
theorem only_below {a w : World} (h : Below a.heap.size a w) (row : Option Nat) : a.grownBy w row := ⟨h.os, h.tape, h.output, h.size, fun i hi _ => h.block i hi⟩
theorem write_any (w : World) (g x n : Nat) (hx : x < 4294967296) (h : Dig w g x n) (A : Option Addr) (p : List Nat) (cap : Nat) (hn : n + p.length ≤ 4611686018427387904) (hr : Rd w A p) :
    Calls Try.prog 26 #[.pointer (some ⟨g, 0, none⟩), .slice A p.length cap] w fun e w' => e = .returned (.int .i64 0) ∧ Dig w' g (CrcM.upd x p) (n + p.length) ∧ w.grownBy w' (some g) := by
  have h0 := h.c0
  have h1 := h.c1
  have h2 := h.c2
  have HD := Lib.hid h
  have hl := hr.1
  clear h
  go_enter Try.func26, Try.ntmps26
  go_wp2_with fail
  refine (update_any x hx A p cap w hr).mono ?_
  rintro e w1 ⟨rfl, hB1⟩
  have hd1 : Blk w1 g 52 _ := Blk.below HD.out hB1 HD.out.lt
  have h0 := Dig.c0 hd1
  have h1 := Dig.c1 hd1
  have h2 := Dig.c2 hd1
  have f0 := hd1.frozen 0
  have f1 := hd1.frozen 1
  have HD1 := Lib.hid hd1
  clear hd1
  go_wp2
  go_ret
  refine ⟨rfl, ?_, only_set (only_set (only_below hB1 _) _ _) _ _⟩
  exact (Blk.set_ HD1.out 0 _).set_ 1 _

/-- the nine digits -/
def nine : List Nat := [49, 50, 51, 52, 53, 54, 55, 56, 57]
theorem nine_crc : CrcM.crc nine = 3421780262 := by decide +kernel
theorem nine_crc16 : Crc16.crc nine = 10673 := by decide +kernel
theorem nine_adler : Adler.sum nine = 152961502 := by decide +kernel
theorem nine_upd : CrcM.upd (CrcM.upd CrcM.ones (nine.take 3)) (nine.drop 3) = CrcM.upd CrcM.ones nine := by
  rw [← CrcM.upd_append, List.take_append_drop]
theorem nil_adler : Adler.sum [] = 1 := by decide +kernel
theorem nil_crc16 : Crc16.crc [] = 65535 := by decide +kernel
theorem five_three : CrcM.shift 5 0 ^^^ 3 = 6 := by decide +kernel
theorem Rd.nil (w : World) (A : Option Addr) : Rd w A [] := ⟨by simp, by simp, by simp⟩
def nineV : Array Value := #[.int .u8 49, .int .u8 50, .int .u8 51, .int .u8 52, .int .u8 53, .int .u8 54, .int .u8 55, .int .u8 56, .int .u8 57]
theorem Rd.of_row {w : World} {g : Nat} {t : TypeId} {cs : Array Value} {fr : Nat × Nat} (h : w.heap[g]? = some (.cells cs t fr)) (off : Nat) (p : List Nat) (hp : p.length ≤ 140737488351232) (hb : ∀ c ∈ p, c < 256)
    (hc : ∀ j, j < p.length → cs[off + j]? = some (.int .u8 ((p.getD j 0 : Nat) : Int))) : Rd w (some ⟨g, off, none⟩) p :=
  ⟨hp, hb, fun _ => by
    have hlt : g < w.heap.size := by
      rcases Nat.lt_or_ge g w.heap.size with hlt | hge
      · exact hlt
      · rw [Array.getElem?_eq_none hge] at h; cases h
    refine ⟨_, rfl, hlt, fun j hj => ?_⟩
    have ha : (⟨g, off, none⟩ : Addr).add j = ⟨g, off + j, none⟩ := by unfold Addr.add; split <;> simp_all
    rw [ha, cell_of_row w g _ cs t fr h]; exact hc j hj⟩
theorem Rd.grown {w w1 : World} {ad : Addr} {p : List Nat} {g : Nat} (h : Rd w (some ad) p) (hg : w.grownBy w1 (some g)) (hne : ad.block ≠ g) : Rd w1 (some ad) p :=
  ⟨h.1, h.2.1, fun h0 => by
    obtain ⟨ad', e, hl, hc⟩ := h.2.2 h0
    injection e with e
    subst e
    have hbl : ∀ j, (ad.add j).block = ad.block := fun j => by unfold Addr.add; split <;> rfl
    refine ⟨ad, rfl, Nat.lt_of_lt_of_le hl hg.size, fun j hj => (World.cell?_of_block (w := w) (hg.block _ (by rw [hbl]; exact hl) (by rw [hbl]; intro e; injection e with e; exact hne e))).trans (hc j hj)⟩⟩
theorem und22 : Try.prog.underlying 22 = some (.slice 5) := by kernel_rfl
theorem und5 : Try.prog.underlying 5 = some (.int .u8) := by kernel_rfl
theorem nine_cells (off : Nat) (h : off ≤ 9) : ∀ j, j < (nine.drop off).length → nineV[off + j]? = some (.int .u8 (((nine.drop off).getD j 0 : Nat) : Int)) := by
  intro j hj
  have h1 : off + j < 9 := by simp [nine] at hj; omega
  have e : (nine.drop off).getD j 0 = nine.getD (off + j) 0 := by simp [List.getD_eq_getElem?_getD, List.getElem?_drop]
  rw [e]
  have : ∀ k, k < 9 → nineV[k]? = some (.int .u8 ((nine.getD k 0 : Nat) : Int)) := fun k hk => by
    match k, hk with
    | 0, _ | 1, _ | 2, _ | 3, _ | 4, _ | 5, _ | 6, _ | 7, _ | 8, _ => rfl
  exact this _ h1
theorem nine_cells3 : ∀ j, j < (nine.take 3).length → nineV[0 + j]? = some (.int .u8 (((nine.take 3).getD j 0 : Nat) : Int)) := by
  have : ∀ k, k < 3 → nineV[0 + k]? = some (.int .u8 (((nine.take 3).getD k 0 : Nat) : Int)) := fun k hk => by
    match k, hk with
    | 0, _ | 1, _ | 2, _ => rfl
  intro j hj
  exact this j (by simpa [nine] using hj)
theorem nine_bytes : CrcM.Bytes nine := by unfold CrcM.Bytes; decide
theorem nine_bytes3 : CrcM.Bytes (nine.take 3) := by unfold CrcM.Bytes; decide
theorem grown_row {w w1 : World} {g k : Nat} {o : Obj} (h : w.heap[k]? = some o) (hg : w.grownBy w1 (some g)) (hne : k ≠ g) : w1.heap[k]? = some o := by
  have hlt : k < w.heap.size := by
    rcases Nat.lt_or_ge k w.heap.size with hlt | hge
    · exact hlt
    · rw [Array.getElem?_eq_none hge] at h; cases h
  exact (hg.block k hlt (fun e => hne (by injection e))).trans h
set_option maxRecDepth 100000 in
set_option maxHeartbeats 1000000 in
theorem example_any (w : World) :
    Calls Try.prog 16 #[] w fun e w' => e = .returned (.bool true) ∧ Below w.heap.size w w' := by
  have hcv := fun (n c : Nat) => Lib.run_convert_bytes_const (P := Try.prog) w 22 5 nineV n c und22 und5
  unfold nineV at hcv
  go_enter Try.func16, Try.ntmps16
  go_wp2_with fail
  clear hcv
  obtain ⟨w1, hw1, hb1, hB1, hz1⟩ : ∃ w1, w1 = w.alloc (.cells nineV 5 (9, 10)) ∧ w1.heap[w.heap.size]? = some (.cells nineV 5 (9, 10)) ∧ Below w.heap.size w w1 ∧ Hid (w1.heap.size = w.heap.size + 1) :=
    ⟨_, rfl, heap_alloc_new _ _, (Below.refl _ _).alloc (Nat.le_refl _) _, by unfold Hid; simp⟩
  unfold nineV at hw1
  rw [← hw1]
  clear hw1
  refine (newDigest_any w1).mono ?_
  rintro e w2 ⟨rfl, hd2, hB2, hz2⟩
  have HZ2 := Lib.hid hz2
  clear hz2
  rw [hz1.out] at hd2 hB2
  have hb2 := (hB2.block w.heap.size (by omega)).trans hb1
  have hBB2 : Below w.heap.size w w2 := hB1.trans (hB2.mono (by omega))
  have r3 : Rd w2 (some ⟨w.heap.size, 0, none⟩) (nine.take 3) := Rd.of_row hb2 0 _ (by decide) (by decide) nine_cells3
  rw [hz1.out]
  clear hB1 hB2 hb1
  have HB2 := Lib.hid hb2
  clear hb2
  go_wp2_with fail
  refine (write_any w2 _ CrcM.ones 0 CrcM.ones_lt hd2 _ (nine.take 3) 9 (by decide) r3).mono ?_
  rintro e w3 ⟨rfl, hd3, hg3⟩
  have hb3 := Lib.hid (grown_row HB2.out hg3 (by omega))
  have r6 : Rd w3 (some ⟨w.heap.size, 3, none⟩) (nine.drop 3) := Rd.of_row hb3.out 3 _ (by decide) (by decide) (nine_cells 3 (by decide))
  have hG3 : Below w.heap.size w w3 := hBB2.grown hg3 (by have := hBB2.size; omega) (by intro k hk; injection hk with hk; omega)
  go_wp2_with fail
  refine (write_any w3 _ (CrcM.upd CrcM.ones (nine.take 3)) 3 (CrcM.upd_lt CrcM.ones_lt nine_bytes3) hd3 _ (nine.drop 3) 6 (by decide) r6).mono ?_
  rintro e w4 ⟨rfl, hd4, hg4⟩
  rw [nine_upd] at hd4
  have hb4 := Lib.hid (grown_row hb3.out hg4 (by omega))
  have hG4 : Below w.heap.size w w4 := hG3.grown hg4 (by have := hG3.size; omega) (by intro k hk; injection hk with hk; omega)
  have r9 : Rd w4 (some ⟨w.heap.size, 0, none⟩) nine := Rd.of_row hb4.out 0 _ (by decide) (by decide) (nine_cells 0 (by decide))
  have hc : (CrcM.upd CrcM.ones nine) ^^^ CrcM.ones = 3421780262 := nine_crc
  go_wp2_with fail
  refine (sum_any w4 _ _ 9 (CrcM.upd_lt CrcM.ones_lt nine_bytes) hd4).mono ?_
  rintro e w5 ⟨rfl, rfl⟩
  rw [hc]
  go_wp2_with fail
  refine (len_any w4 _ _ 9 hd4).mono ?_
  rintro e w5 ⟨rfl, rfl⟩
  go_wp2_with fail
  have hc53 := combine_any 5 3 0 (by decide) (by decide) (by decide) w4
  rw [five_three] at hc53
  refine Calls.mono hc53 ?_
  rintro e w5 ⟨rfl, rfl⟩
  clear hc53
  go_wp2_with fail
  refine (crc_any _ nine 9 w4 r9).mono ?_
  rintro e w5 ⟨rfl, hB5⟩
  rw [nine_crc]
  have r9' := r9.below hB5 (Nat.le_refl _)
  have hG5 := below_of hG4 hG4.size hB5
  go_wp2_with fail
  refine (crc16_any _ nine 9 w5 r9').mono ?_
  rintro e w6 ⟨rfl, rfl⟩
  rw [nine_crc16]
  go_wp2_with fail
  refine (adler_any _ nine 9 w5 r9').mono ?_
  rintro e w6 ⟨rfl, rfl⟩
  rw [nine_adler]
  go_wp2_with fail
  refine (adler_any none [] 0 w5 (Rd.nil _ _)).mono ?_
  rintro e w6 ⟨rfl, rfl⟩
  rw [nil_adler]
  go_wp2_with fail
  refine (crc16_any none [] 0 w5 (Rd.nil _ _)).mono ?_
  rintro e w6 ⟨rfl, rfl⟩
  rw [nil_crc16]
  go_wp2
  go_ret
  exact ⟨rfl, hG5⟩
end Go.Proofs.Ytebipgpbpgoocaa
