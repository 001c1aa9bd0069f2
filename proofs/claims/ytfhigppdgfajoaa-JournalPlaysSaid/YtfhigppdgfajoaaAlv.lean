/- The walk of alive: the chapter's examples. -/
import Derived.Test.YtfhigppdgfajoaaThy
import Derived.Lib.SlBytesConst
namespace Go.Proofs.Ytfhigppdgfajoaa
open Go.RowKit Go.MuLone Go.Deep
theorem ex_enc0 : enc [] = [0, 0, 0, 0, 33, 68, 223, 28] := by decide +kernel
theorem ex_str0 : (strN (enc [])).toList = ([0, 0, 0, 0, 33, 68, 223, 28] : List UInt8) := by
  rw [ex_enc0, strN, ByteArray.toList_mk]; rfl
theorem conv22 (w : World) (C : Array Value) (n c : Nat) : (convert 22 22 (.slice (some ⟨w.heap.size, 0, none⟩) n c)).run Try.prog (w.alloc (.cells C 5)) = .ok (.slice (some ⟨w.heap.size, 0, none⟩) n c) (w.alloc (.cells C 5 (C.size, C.size + 1))) :=
  Go.Lib.run_convert_bytes_const w 22 5 C n c Try.underlying22 (by kernel_rfl)
theorem sl_nil (w : World) : Sl w none [] 0 := ⟨Rd.nil_ w none, by simp, by simp, .inl ⟨rfl, rfl, rfl⟩⟩
theorem rd_lit {w : World} {g : Nat} {p : List Nat} {cs : Array Value} {fr : Nat × Nat} (h : w.heap[g]? = some (.cells cs 5 fr)) (hcs : cs = (cellsB p).toArray) (hp : p.length ≤ 140737488351232) (hb : ∀ c ∈ p, c < 256) : Rd w (some ⟨g, 0, none⟩) p := by
  refine ⟨hp, hb, fun _ => ⟨_, rfl, (Array.getElem?_eq_some_iff.1 h).1, fun j hj => ?_⟩⟩
  rw [Addr.add_lit, Nat.zero_add, cell_of_row _ _ _ _ _ _ h, hcs, List.getElem?_toArray]
  exact cellsB_get p j hj
theorem ex_rcv0 : rcv [] = ([], 0) := rcvF_nil _
theorem good1 : ∀ p ∈ [[97]], Good p := by
  intro p hp
  simp only [List.mem_singleton] at hp
  subst hp
  exact ⟨by simp, by simp⟩
set_option maxRecDepth 100000 in
set_option maxHeartbeats 4000000 in
theorem alive_any (w : World) : Calls Try.prog 8 #[] w fun e w' => e = .returned (.bool true) ∧ Below w.heap.size w w' := by
  go_enter Try.func8, Try.ntmps8
  go_wp2_with fail
  refine (record_any none [] 0 w (Rd.nil_ w none)).mono ?_
  rintro e w1 ⟨v1, rfl, hR1, hB1⟩
  have hO1 : ∃ u, v1 = .tuple #[u, .int .i64 0] ∧ OwnB w1 w.heap.size 5 u (enc []) := by
    rcases hR1 with ⟨h, _⟩ | ⟨_, u, e, h⟩
    · simp at h
    · exact ⟨u, e, h⟩
  clear hR1
  obtain ⟨u, rfl, hO1⟩ := hO1
  obtain ⟨A1, c1, rfl, hR1⟩ := hO1.slice (by rw [enc_len]; simp) (enc_bytes (by simp))
  have hw1 := hB1.size
  go_wp2_with fail
  refine (open_any none [] 0 _ (sl_nil _)).mono ?_
  rintro e w2 ⟨v2, rfl, hR2, hB2⟩
  have hJ2 : ∃ g, v2 = .tuple #[.pointer (some ⟨g, 0, none⟩), .int .i64 0] ∧ Jr w2 w.heap.size g [] := by
    unfold OpnR at hR2
    rw [if_pos (by simp), ex_rcv0] at hR2
    obtain ⟨g, e, h⟩ := hR2
    exact ⟨g, e, h.mono hw1⟩
  obtain ⟨g, rfl, hJ2⟩ := hJ2
  have hBw2 := hB1.trans (hB2.mono hw1)
  have hR12 := hR1.below hB2 (Nat.le_refl _)
  have hst := run_conv hR12 c1
  have HST := Lib.hid ex_str0
  obtain ⟨sa, hsa⟩ : ∃ sa, Hid (sa = strN (enc [])) := ⟨_, Lib.hid rfl⟩
  rw [← hsa.out] at hst HST
  have hss : (sa.toList == ([0, 0, 0, 0, 33, 68, 223, 28] : List UInt8)) = true := by rw [beq_iff_eq]; exact HST.out
  obtain ⟨L, hL⟩ : ∃ L, Hid (L = (enc []).length) := ⟨_, Lib.hid rfl⟩
  rw [← hL.out] at hst ⊢
  have HJ2 := Lib.hid hJ2
  have HB2 := Lib.hid hBw2
  clear hR2 hJ2 hB2 hO1 hR1 hR12 hBw2 hB1
  have HCV := conv22
  go_wp2_with fail
  have hbl := heap_alloc_new w2 (.cells #[.int .u8 97] 5 (1, 2))
  have hBa : Below w2.heap.size w2 (w2.alloc (.cells #[.int .u8 97] 5 (1, 2))) := (Below.refl _ _).alloc (Nat.le_refl _) _
  refine (append_any w.heap.size g [] _ [97] 1 _ (HJ2.out.below hBa) (rd_lit hbl rfl (by simp) (by simp))).mono ?_
  rintro e w3 ⟨rfl, hJ3, hT3⟩
  have hJ3 : Jr w3 w.heap.size g [[97]] := hJ3
  have HJ3 := Lib.hid hJ3
  have HB3 := Lib.hid (HB2.out.trans ((hBa.mono HB2.out.size).trans (hT3.below (by have := HB2.out.size; simp; omega))))
  clear hbl hBa hJ3 hT3
  go_wp2_with fail
  have hbl := heap_alloc_new w3 (.cells #[.int .u8 98, .int .u8 99] 5 (2, 3))
  have hBa : Below w3.heap.size w3 (w3.alloc (.cells #[.int .u8 98, .int .u8 99] 5 (2, 3))) := (Below.refl _ _).alloc (Nat.le_refl _) _
  refine (append_any w.heap.size g [[97]] _ [98, 99] 2 _ (HJ3.out.below hBa) (rd_lit hbl rfl (by simp) (by simp))).mono ?_
  rintro e w4 ⟨rfl, hJ4, hT4⟩
  have hJ4 : Jr w4 w.heap.size g [[97], [98, 99]] := hJ4
  have HJ4 := Lib.hid hJ4
  have HB4 := Lib.hid (HB3.out.trans ((hBa.mono HB3.out.size).trans (hT4.below (by have := HB3.out.size; simp; omega))))
  clear hbl hBa hJ4 hT4
  go_wp2_with fail
  refine (bytes_any w.heap.size g [[97], [98, 99]] _ HJ4.out).mono ?_
  rintro e w5 ⟨v5, rfl, hO5, hB5⟩
  have hb2 : ∀ p ∈ [[97], [98, 99]], ∀ c ∈ p, c < 256 := by decide
  obtain ⟨A5, c5, rfl, _⟩ := hO5.slice (by rw [encs_len]; decide) (encs_bytes hb2)
  rw [show (encs [[97], [98, 99]]).length = 19 by rw [encs_len]; rfl]
  have HJ5 := Lib.hid (HJ4.out.below hB5)
  have HB5 := Lib.hid (HB4.out.trans (hB5.mono HB4.out.size))
  clear hO5 hB5 hb2
  go_wp2_with fail
  refine (truncate_any w.heap.size g [[97], [98, 99]] 1 _ HJ5.out).mono ?_
  rintro e w6 ⟨rfl, hJ6, hG6⟩
  have hJ6 : Jr w6 w.heap.size g [[97]] := hJ6
  obtain ⟨hgl, _, vv, hbb, _⟩ := HJ5.out
  have HB6 := Lib.hid (HB5.out.trans ((Bt.of_grown (base := w.heap.size) hG6 hbb (.inl rfl) hgl).below HB5.out.size))
  have HJ6 := Lib.hid hJ6
  clear hbb hG6 hJ6
  go_wp2_with fail
  refine (bytes_any w.heap.size g [[97]] _ HJ6.out).mono ?_
  rintro e w7 ⟨v7, rfl, hO7, hB7⟩
  obtain ⟨A7, c7, rfl, hS7⟩ := hO7.sl (by rw [encs_len]; decide) (encs_bytes (fun p hp => (good1 p hp).2))
  have HJ7 := Lib.hid (HJ6.out.below hB7)
  have HB7 := Lib.hid (HB6.out.trans (hB7.mono HB6.out.size))
  have HS7 := Lib.hid hS7
  clear hO7 hB7 hS7
  go_wp2_with fail
  refine (recover_any A7 (encs [[97]]) c7 _ HS7.out).mono ?_
  rintro e w8 ⟨v8, rfl, hR8, hB8⟩
  unfold RcvR at hR8
  rw [rcv_encs (by decide) good1] at hR8
  obtain ⟨u8, rfl, hO8⟩ := hR8
  have HJ8 := Lib.hid (HJ7.out.below hB8)
  have HB8 := Lib.hid (HB7.out.trans (hB8.mono HB7.out.size))
  obtain ⟨A8, c8, rfl, hRS8⟩ := hO8.rds (by decide) (by decide)
  obtain ⟨bk, of_, Aj, cj, rfl, hbk, hcj, hSj⟩ := hRS8.at_ (j := 0) (by decide)
  have hcj : w8.cell? ⟨bk, of_, none⟩ = some (.slice Aj 1 cj) := hcj
  have hcv := run_conv hSj.1 cj
  have hcv : (convert 22 9 (.slice Aj 1 cj)).run Try.prog w8 = .ok (.string (strN [97])) w8 := hcv
  have hs1 : (strN [97]).toList = ([97] : List UInt8) := by rw [strN, ByteArray.toList_mk]; rfl
  obtain ⟨sb, hsb⟩ : ∃ sb, Hid (sb = strN [97]) := ⟨_, Lib.hid rfl⟩
  rw [← hsb.out] at hcv hs1
  have HRS8 := Lib.hid hRS8
  have HSB := Lib.hid hs1
  have hss1 : (sb.toList == ([97] : List UInt8)) = true := by rw [beq_iff_eq]; exact HSB.out
  clear hO8 hB8 hRS8 hSj hs1
  go_wp2_with (first | (go_at_call 18; refine (records_any w.heap.size g [[97]] _ HJ8.out).mono ?_; rintro e w9 ⟨v9, rfl, hO9, hB9⟩; have hR9 := hO9.rds (by decide) (by decide); obtain ⟨A9, c9, rfl, hR9⟩ := hR9) | (go_at_call 13; refine (same_any A9 (some ⟨bk, of_, none⟩) [[97]] [[97]] c9 c8 _ hR9 (HRS8.out.below hB9 (Nat.le_refl _))).mono ?_; rintro e w10 ⟨rfl, hB10⟩))
  go_ret
  exact ⟨rfl, (HB8.out.trans (hB9.mono HB8.out.size)).trans (hB10.mono (HB8.out.trans (hB9.mono HB8.out.size)).size)⟩
end Go.Proofs.Ytfhigppdgfajoaa
