/- The walk of written. -/
import Derived.Test.YtfhigppdgfajoaaArl
namespace Go.Proofs.Ytfhigppdgfajoaa
open Go.RowKit Go.ChangeShapes Go.WideShapes Go.ChangeAt
theorem sz_len (ps : List (List Nat)) : ps.length * 8 ≤ sz ps := by
  induction ps with
  | nil => simp [sz]
  | cons p ps ih => simp only [List.length_cons, sz]; omega
theorem sz_mem {ps : List (List Nat)} {p : List Nat} (h : p ∈ ps) : p.length + 8 ≤ sz ps := by
  induction ps with
  | nil => cases h
  | cons a ps ih =>
    rw [sz]
    rcases List.mem_cons.1 h with rfl | h
    · omega
    · have := ih h; omega
theorem RdS.take {w : World} {A : Option Addr} {ps : List (List Nat)} (h : RdS w A ps) (k : Nat) : RdS w A (ps.take k) :=
  ⟨by rw [List.length_take]; have := h.1; omega, fun j p hp => by
    rw [List.getElem?_take] at hp
    split at hp
    · exact h.2 j p hp
    · cases hp⟩
theorem open_argLL {H : Type} {enc : TypeId × Value → H} {W : World} {base : Nat} {v : Value} {d : DataW H} {p : List MemPlace} (hv : Value.okWide Try.prog W .any base 27 v) (h : DataW.Trod enc Try.prog W 0 (fun _ => true) true 27 v d p) :
    ∃ A L c, v = .slice A (L : List ElT).length c ∧ ArgL W A L ∧ L.length ≤ c ∧ c ≤ 9223372036854775807 := by
  obtain ⟨a1, l1, c1, rfl⟩ := okWide_slice Try.underlying27 hv
  obtain ⟨fuel, hf⟩ := h
  obtain ⟨A, L, c, e, h1, h2, h3⟩ := open_argL hf
  simp [Value.cells] at e
  obtain ⟨rfl, rfl, rfl⟩ := e
  exact ⟨_, _, _, rfl, h1, h2, h3⟩
set_option maxRecDepth 100000 in
set_option maxHeartbeats 2000000 in
theorem written_any (A : Option Addr) (ps : List (List Nat)) (c : Nat) (w : World) (hr : RdS w A ps) (hs : sz ps ≤ 3000) :
    Calls Try.prog 15 #[.slice A ps.length c] w fun e w' => ∃ g, e = .returned (.tuple #[.pointer (some ⟨g, 0, none⟩), .bool true]) ∧ Jr w' w.heap.size g ps ∧ Below w.heap.size w w' := by
  have HR := Lib.hid hr
  have hl := sz_len ps
  have hl2 : ps.length ≤ 375 := by omega
  clear hr hl
  go_enter Try.func15, Try.ntmps15
  go_wp2_with fail
  refine (open_any none [] 0 _ (sl_nil _)).mono ?_
  rintro e w2 ⟨v2, rfl, hR2, hB2⟩
  have hJ2 : ∃ g, v2 = .tuple #[.pointer (some ⟨g, 0, none⟩), .int .i64 0] ∧ Jr w2 w.heap.size g [] := by
    unfold OpnR at hR2
    rw [if_pos (by simp), ex_rcv0] at hR2
    exact hR2
  obtain ⟨g, rfl, hJ2⟩ := hJ2
  have HJ2 := Lib.hid hJ2
  have HB2 := Lib.hid hB2
  clear hJ2 hB2 hR2
  go_wp2_with fail
  go_loopw [19] (fun vi wr => ∃ i : Nat, i ≤ ps.length ∧ vi = .int .i64 (i : Int) ∧ Jr wr w.heap.size g (ps.take i) ∧ Below w.heap.size w wr) (fun vi _ => ps.length - (intOf vi).toNat)
  case atStart => exact ⟨0, Nat.zero_le _, rfl, HJ2.out, HB2.out⟩
  case round =>
    obtain ⟨i, hi, rfl, hJ, hB⟩ := hrel
    have HJ := Lib.hid hJ
    have HB := Lib.hid hB
    have R1 := HR.out.below hB (Nat.le_refl _)
    clear hJ hB
    by_cases hd : i < ps.length
    · have hdd : decide ((i : Int) < (ps.length : Int)) = true := decide_eq_true (by omega)
      have hi0 : (0 : Int) ≤ (i : Int) := by omega
      have hi1 : (i : Int) < (ps.length : Int) := by omega
      have hwi : IntKind.i64.wrap ((i : Int) + 1) = ((i + 1 : Nat) : Int) := by rw [IntKind.wrap_i64]; omega
      obtain ⟨bk, of_, Aj, cj, rfl, hbk, hcj, hSj⟩ := R1.at_ hd
      obtain ⟨p, hp⟩ : ∃ p, Hid (p = ps.getD i []) := ⟨_, Lib.hid rfl⟩
      rw [← hp.out] at hcj hSj
      have hpm : p ∈ ps := by rw [hp.out, List.getD_eq_getElem?_getD, List.getElem?_eq_getElem hd]; exact List.getElem_mem hd
      have hp4 := sz_mem hpm
      have T1 : ps.take (i + 1) = ps.take i ++ [p] := by rw [List.take_add_one, hp.out, List.getD_eq_getElem?_getD, List.getElem?_eq_getElem hd]; rfl
      have T1 := Lib.hid T1
      have hz1 := sz_take ps i
      have HE := Lib.hid (show apE (ps.take i) p = 0 by
        unfold apE
        rw [if_neg (by omega), if_neg]
        rw [List.length_take]
        omega)
      have HP := Lib.hid hSj.1
      clear hz1 hSj R1
      go_wp2_with fail
      refine (append_any w.heap.size g (ps.take i) Aj p cj _ HJ.out HP.out).mono ?_
      rintro e w3 ⟨rfl, hJ3, hT3⟩
      rw [HE.out]
      unfold apS at hJ3
      rw [HE.out, if_pos rfl, ← T1.out] at hJ3
      have HB3 := Lib.hid (HB.out.trans (hT3.below HB.out.size))
      have HJ3 := Lib.hid hJ3
      clear hJ3 hT3
      go_wp2_with fail
      go_roundw
      case rel => exact ⟨i + 1, by omega, by go_num, HJ3.out, HB3.out⟩
      case measure => simp [intOf]; omega
    · have hdd : decide ((i : Int) < (ps.length : Int)) = false := decide_eq_false (by omega)
      obtain rfl : i = ps.length := by omega
      go_wp2_with fail
      go_ret2
      exact ⟨g, rfl, by have := HJ.out; rwa [List.take_length] at this, HB.out⟩
end Go.Proofs.Ytfhigppdgfajoaa
