/- The walk of Bounds: the box of the dark pixels. -/
import Derived.Test.YticbpifgjjcjmaaDot
namespace Go.Proofs.Yticbpifgjjcjmaa
open Go.RowKit Go.Maps
theorem info58 : (Try.prog.info? 58).bind (·.zero) = some (.agg #[.int .i64 0, .int .i64 0, .int .i64 0, .int .i64 0]) := by kernel_rfl
theorem size58 : (Try.prog.info? 58).map (·.size) = some 4 := by kernel_rfl
def boxA (x y a b : Int) : Array Value := #[.int .i64 x, .int .i64 y, .int .i64 a, .int .i64 b]
theorem boxA_one (x y a b : Int) : (boxA x y a b).all (·.oneCell') = true := by simp [boxA, Value.oneCell']
/-- what Bounds returns -/
def BndR (v : Value) (W : Nat) (P : List Nat) : Prop :=
  (P = [] ∧ v = .tuple #[.agg (boxA 0 0 0 0), .bool false]) ∨
  ∃ f l : Nat, ∃ x a : Int, P[0]? = some f ∧ P[P.length - 1]? = some l ∧ v = .tuple #[.agg (boxA x ((f / W : Nat) : Int) a (((l / W : Nat) : Int) - ((f / W : Nat) : Int) + 1)), .bool true]
attribute [local go_sem] max2_int min2_int max_two min_two
set_option maxRecDepth 100000 in
set_option maxHeartbeats 2000000 in
theorem bounds_any (W H : Nat) (A : Option Addr) (D : List Bool) (c : Nat) (w : World) (hr : RdB w A D) (hs : sndB W H D.length = true) :
    Calls Try.prog 36 #[.agg (matA W H A D.length c)] w fun e w' => ∃ v, e = .returned v ∧ BndR v W (dks D D.length) ∧ Below w.heap.size w w' := by
  obtain ⟨W', H', e1, e2, hW1, hW2, hH1, hH2, hD, hDl⟩ := snd_nat hs
  obtain rfl : W = W' := by omega
  obtain rfl : H = H' := by omega
  clear e1 e2
  have HR := Lib.hid hr
  clear hD hr
  have hPl := dks_len D D.length
  have hPm : ∀ j i, (dks D D.length)[j]? = some i → i < D.length := fun j i h => by
    have := List.mem_of_getElem? h
    unfold dks at this
    rw [List.mem_filter, List.mem_range] at this
    exact this.1
  obtain ⟨P, hPe⟩ : ∃ P, Hid (P = dks D D.length) := ⟨_, Lib.hid rfl⟩
  rw [← hPe.out] at hPl hPm ⊢
  unfold matA
  go_enter Try.func36, Try.ntmps36
  go_wp2_with (first | (refine wpList_box rfl 24 _ rfl _ rfl ?_; intro w1 hb1 hB1 hz1; have hb1 : Blk w1 w.heap.size 24 (matA W H A D.length c) := hb1; have H1 := Lib.hid hz1; clear hz1; refine wpList_new rfl 58 rfl _ info58 ?_; intro w2 hn2 hB2 hz2; rw [H1.out] at hn2; have hb2 := hb1.below hB2 (by have := H1.out; omega); obtain ⟨c0, c1, c2⟩ := mat_cells hb2; have HBB := Lib.hid (hB1.trans (hB2.mono (by have := H1.out; omega))); rw [H1.out]; have H2 : w2.heap.size = w.heap.size + 2 := by have := H1.out; omega))
  refine (dots_any W H A D c _ (HR.out.below HBB.out (Nat.le_refl _)) hs).mono ?_
  rintro e w3 ⟨A', c', rfl, hRd, hB3⟩
  rw [← hPe.out] at hRd ⊢
  have HBBB := Lib.hid (HBB.out.trans (hB3.mono HBB.out.size))
  have HN : Hid (Blk w3 (w.heap.size + 1) 58 (boxA 0 0 0 0)) := Lib.hid (hn2.below hB3 (by omega))
  have H3 := hB3.size
  have HRd := Lib.hid hRd
  have HPm := Lib.hid hPm
  clear c0 c1 c2 hn2 hRd hB3 hPm hb2
  by_cases hP : P = []
  · subst hP
    go_wp2_with (refine wpList_store_row rfl 58 _ _ rfl (w.heap.size + 1) (boxA 0 0 0 0) rfl rfl 58 _ HN.out size58 rfl (boxA_one _ _ _ _) ?_)
    refine bodyPost_ret (results_mat rfl _ _ (w.heap.size + 1) 58 (boxA 0 0 0 0) (0, 0) _ rfl (HN.out.setRow _) Try.underlying58 rfl size58) rfl ?_
    exact ⟨_, rfl, .inl ⟨rfl, rfl⟩, below_setRow HBBB.out (by omega) _⟩
  · have hn0 : 0 < P.length := List.length_pos_iff.2 hP
    obtain ⟨g, rfl, hg, hcl⟩ := HRd.out hn0
    obtain ⟨f, hf⟩ : ∃ f, P[0]? = some f := ⟨_, List.getElem?_eq_getElem hn0⟩
    obtain ⟨l, hl⟩ : ∃ l, P[P.length - 1]? = some l := ⟨_, List.getElem?_eq_getElem (by omega)⟩
    obtain ⟨f0, f1⟩ := hcl 0 f hf
    obtain ⟨l0, l1⟩ := hcl (P.length - 1) l hl
    have HCL := Lib.hid hcl
    have HF := Lib.hid hf
    have HL := Lib.hid hl
    have hfm := Nat.mod_lt f (show 0 < W by omega)
    have hfd : f / W ≤ f := Nat.div_le_self _ _
    have hld : l / W ≤ l := Nat.div_le_self _ _
    have hfb := HPm.out _ _ hf
    have hlb := HPm.out _ _ hl
    have hz : ((P.length : Int) == 0) = false := by rw [beq_eq_false_iff_ne]; omega
    have hpc : (P.length : Int) - 1 = ((P.length - 1 : Nat) : Int) := by omega
    simp only [Nat.zero_mul, Nat.zero_add] at f0 f1
    clear hf hl hcl hP
    generalize hfx : f % W = fx at *
    generalize hfy : f / W = fy at *
    generalize hly : l / W = ly at *
    generalize l % W = lx at *
    have HFY := Lib.hid hfy
    have HLY := Lib.hid hly
    clear hfx hfy hly
    go_wp2_with fail
    go_loopw [5, 6, 7] (fun va vb vi wr => ∃ k : Nat, ∃ x y : Int, k ≤ P.length ∧ vi = .int .i64 (k : Int) ∧ va = .int .i64 x ∧ vb = .int .i64 y ∧ 0 ≤ x ∧ x ≤ 4096 ∧ 0 ≤ y ∧ y ≤ 4096 ∧ wr = w3) (fun _ _ vi _ => P.length - (intOf vi).toNat)
    case atStart => exact ⟨0, _, _, Nat.zero_le _, rfl, rfl, rfl, by omega, by omega, by omega, by omega, rfl⟩
    case round =>
      obtain ⟨k, x, y, hk, rfl, rfl, rfl, hx1, hx2, hy1, hy2, rfl⟩ := hrel
      by_cases hlt : k < P.length
      · have hd : decide ((k : Int) < (P.length : Int)) = true := decide_eq_true (by omega)
        obtain ⟨i, hi⟩ : ∃ i, P[k]? = some i := ⟨_, List.getElem?_eq_getElem hlt⟩
        obtain ⟨k0, k1⟩ := HCL.out k i hi
        have him := Nat.mod_lt i (show 0 < W by omega)
        clear hi
        generalize i % W = ix at *
        go_wp2_with fail
        go_roundw
        case rel => exact ⟨k + 1, _, _, by omega, by go_num, rfl, rfl, by omega, by omega, by omega, by omega, trivial⟩
        case measure => simp [intOf]; omega
      · have hd : decide ((k : Int) < (P.length : Int)) = false := decide_eq_false (by omega)
        go_wp2_with (refine wpList_store_row rfl 58 _ _ rfl (w.heap.size + 1) (boxA x fy (y - x + 1) ((ly : Int) - (fy : Int) + 1)) rfl rfl 58 _ HN.out size58 rfl (boxA_one _ _ _ _) ?_)
        refine bodyPost_ret (results_mat rfl _ _ (w.heap.size + 1) 58 (boxA x fy (y - x + 1) ((ly : Int) - (fy : Int) + 1)) (0, 0) _ rfl (HN.out.setRow _) Try.underlying58 rfl size58) rfl ?_
        exact ⟨_, rfl, .inr ⟨f, l, x, y - x + 1, HF.out, HL.out, by rw [HFY.out, HLY.out]; rfl⟩, below_setRow HBBB.out (by omega) _⟩
end Go.Proofs.Yticbpifgjjcjmaa
