/- The walks of Profile and of the reference's Profile. -/
import Derived.Test.YticbpifgjjcjmaaEnx
import Derived.Test.YticbpifgjjcjmaaApp
namespace Go.Proofs.Yticbpifgjjcjmaa
open Go.RowKit Go.Maps
namespace Skew
theorem cn_same {D : List Bool} {f : Nat → Nat} {a b y : Nat} (hab : a ≤ b) (h : ∀ i, a ≤ i → i < b → f i ≠ y) : cn D f b y = cn D f a y := by
  induction b with
  | zero => obtain rfl : a = 0 := by omega
            rfl
  | succ b ih =>
    rcases Nat.lt_or_ge b a with h1 | h1
    · obtain rfl : a = b + 1 := by omega
      rfl
    · rw [cn, ih h1 (fun i hi hi2 => h i hi (by omega)), if_neg (fun e => h b h1 (by omega) e.2), Nat.add_zero]
/-- the number of dark pixels of a row -/
def pf (W : Nat) (D : List Bool) (y : Nat) : Nat := cn D (fun i => i / W) D.length y
theorem pf_start {W : Nat} {D : List Bool} (hW : 1 ≤ W) (y : Nat) : cn D (fun i => i / W) (y * W) y = 0 := by
  rw [cn_same (a := 0) (Nat.zero_le _) (fun i _ hi e => by
    have := (Nat.div_lt_iff_lt_mul (show 0 < W by omega)).2 hi
    omega)]
  rfl
theorem pf_end {W H : Nat} {D : List Bool} (hW : 1 ≤ W) (hD : D.length = W * H) {y : Nat} (hy : y < H) : cn D (fun i => i / W) (y * W + W) y = pf W D y := by
  unfold pf
  have hle : y * W + W ≤ D.length := by
    have := Nat.mul_le_mul (show y + 1 ≤ H from hy) (Nat.le_refl W)
    rw [hD, Nat.mul_comm W H]; rw [Nat.add_mul] at this; omega
  rw [cn_same hle (fun i hi _ e => by
    have := (Nat.le_div_iff_mul_le (show 0 < W by omega)).2 (show (y + 1) * W ≤ i by rw [Nat.add_mul]; omega)
    omega)]
end Skew
/-- a slice value reads as the numbers f 0 .. f (L - 1) -/
def RdN (w : World) (A : Option Addr) (f : Nat → Nat) (L : Nat) : Prop :=
  0 < L → ∃ ad : Addr, A = some ad ∧ ad.block < w.heap.size ∧ ∀ j, j < L → w.cell? (ad.add j) = some (.int .i64 ((f j : Nat) : Int))
theorem RdN.below {w w1 : World} {A : Option Addr} {f : Nat → Nat} {L : Nat} {B : Nat} (h : RdN w A f L) (hb : Below B w w1) (hB : w.heap.size ≤ B) : RdN w1 A f L := fun h0 => by
  obtain ⟨ad, e, hl, hc⟩ := h h0
  have := hb.size
  refine ⟨ad, e, by omega, fun j hj => ?_⟩
  have hbl : (ad.add j).block = ad.block := by unfold Addr.add; split <;> rfl
  exact (hb.cell (by rw [hbl]; omega)).trans (hc j hj)
theorem RdN.at_ {w : World} {A : Option Addr} {f : Nat → Nat} {L : Nat} (h : RdN w A f L) {j : Nat} (hj : j < L) : ∃ ad : Addr, A = some ad ∧ w.cell? (ad.add j) = some (.int .i64 ((f j : Nat) : Int)) := by
  obtain ⟨ad, e, _, hc⟩ := h (by omega)
  exact ⟨ad, e, hc j hj⟩
theorem RdN.of_blk {w : World} {g : Nat} {f : Nat → Nat} {L : Nat} (h : Blk w g 3 (numL f L).toArray) : RdN w (some ⟨g, 0, none⟩) f L := fun _ => ⟨_, rfl, h.lt, fun j hj => by
  have ha : (⟨g, 0, none⟩ : Addr).add j = ⟨g, j, none⟩ := by unfold Addr.add; split <;> simp_all
  rw [ha]
  exact blk_cell h j _ (by rw [List.getElem?_toArray]; exact numL_get f L j hj)⟩
theorem OwnV.nums {w : World} {base : Nat} {v : Value} {f : Nat → Nat} {L : Nat} (h : OwnV w base 3 v (numL f L)) : ∃ A c, v = .slice A L c ∧ RdN w A f L := by
  rcases Nat.eq_zero_or_pos L with h0 | h0
  · obtain ⟨A, c, hv⟩ := h.slice
    rw [numL_len] at hv
    exact ⟨A, c, hv, fun h1 => by omega⟩
  · obtain ⟨g, cap, hv, _, hlt, hc, _⟩ := h.form (by rw [numL_len]; exact h0)
    rw [numL_len] at hv
    refine ⟨_, cap, hv, fun _ => ⟨_, rfl, hlt, fun j hj => ?_⟩⟩
    have ha : (⟨g, 0, none⟩ : Addr).add j = ⟨g, j, none⟩ := by unfold Addr.add; split <;> simp_all
    rw [ha]
    exact hc j _ (numL_get f L j hj)
/-- what Profile returns -/
def ProfR (w : World) (v : Value) (W H : Int) (D : List Bool) : Prop :=
  ∃ A c, v = .tuple #[.slice A (if sndB W H D.length = true then H.toNat else 0) c, .int .i64 (if sndB W H D.length = true then 0 else 1)] ∧ RdN w A (Skew.pf W.toNat D) (if sndB W H D.length = true then H.toNat else 0)
theorem numL_zero (f : Nat → Nat) (h : ∀ y, f y = 0) (L : Nat) : numL f L = List.replicate L (.int .i64 0) := by
  unfold numL
  rw [show (fun y => Value.int .i64 ((f y : Nat) : Int)) = fun _ => Value.int .i64 0 from funext fun y => by rw [h y]; rfl, List.map_const', List.length_range]
set_option maxRecDepth 100000 in
set_option maxHeartbeats 2000000 in
theorem profile_any (W H : Int) (A : Option Addr) (D : List Bool) (c : Nat) (w : World) (hr : RdB w A D) :
    Calls Try.prog 26 #[.agg (matA W H A D.length c)] w fun e w' => ∃ v, e = .returned v ∧ ProfR w' v W H D ∧ Below w.heap.size w w' := by
  have HR := Lib.hid hr
  clear hr
  unfold ProfR
  cases hs : sndB W H D.length
  · simp only [Bool.false_eq_true, ↓reduceIte]
    unfold matA
    go_enter Try.func26, Try.ntmps26
    go_wp2_with (refine wpList_box rfl 24 _ rfl _ rfl ?_; intro w1 hb1 hB1 hz1; have hb1 : Blk w1 w.heap.size 24 (matA W H A D.length c) := hb1; obtain ⟨c0, c1, c2⟩ := mat_cells hb1; have H1 := Lib.hid hz1; clear hz1)
    refine (check_any W H A D.length c _).mono ?_
    rintro e w2 ⟨rfl, hB2⟩
    rw [hs]
    have HBB := Lib.hid (hB1.trans (hB2.mono (by have := H1.out; omega)))
    go_wp2_with fail
    go_ret2
    exact ⟨_, rfl, ⟨none, 0, rfl, fun h => absurd h (Nat.not_lt_zero _)⟩, HBB.out⟩
  · simp only [↓reduceIte]
    obtain ⟨W, H, rfl, rfl, hW1, hW2, hH1, hH2, hD, hDl⟩ := snd_nat hs
    rw [Int.toNat_natCast, Int.toNat_natCast]
    have HD := Lib.hid hD
    clear hD
    unfold matA
    go_enter Try.func26, Try.ntmps26
    go_wp2_with (refine wpList_box rfl 24 _ rfl _ rfl ?_; intro w1 hb1 hB1 hz1; have hb1 : Blk w1 w.heap.size 24 (matA W H A D.length c) := hb1; obtain ⟨c0, c1, c2⟩ := mat_cells hb1; have H1 := Lib.hid hz1; clear hz1)
    refine (check_any W H A D.length c _).mono ?_
    rintro e w2 ⟨rfl, hB2⟩
    rw [hs]
    clear hs
    have HBB := Lib.hid (hB1.trans (hB2.mono (by have := H1.out; omega)))
    have HM := Lib.hid (hb1.below hB2 (by have := H1.out; omega))
    have hsz2 : w.heap.size + 1 ≤ w2.heap.size := by have := H1.out; have := hB2.size; omega
    obtain ⟨c0', c1', c2'⟩ := mat_cells HM.out
    clear c0 c1 c2 hB1 hB2 hb1
    go_wp2_with (refine wpList_make1 rfl 44 _ _ rfl 3 _ 8 Try.underlying44 info3 rfl .i64 .i64 H rfl rfl (by omega) (by omega) ?_; intro w3 hb3 hB3 hz3; have HM3 := Lib.hid (HM.out.below hB3 (by omega)); obtain ⟨e0, e1, e2⟩ := mat_cells HM3.out; have HB3 := Lib.hid (HBB.out.trans (hB3.mono HBB.out.size)); clear c0' c1' c2' hz3 hB3)
    rw [← numL_zero (Skew.cn D (fun i => i / W) 0) (fun _ => rfl) H] at hb3
    have HO := Lib.hid hb3
    clear hb3 e0 e1 e2
    generalize hg : w2.heap.size = g at *
    clear hg
    go_loopw [19] (fun vi wr => ∃ k : Nat, k ≤ D.length ∧ vi = .int .i64 (k : Int) ∧ Blk wr g 3 (numL (Skew.cn D (fun i => i / W) k) H).toArray ∧ Blk wr w.heap.size 24 (matA W H A D.length c) ∧ Below w.heap.size w wr) (fun vi _ => D.length - (intOf vi).toNat)
    case atStart => exact ⟨0, Nat.zero_le _, rfl, HO.out, HM3.out, HB3.out⟩
    case round =>
      clear HO HM3 HB3 HM HBB
      obtain ⟨k, hk, rfl, hO, hM, hB⟩ := hrel
      have HO := Lib.hid hO
      have HM := Lib.hid hM
      have HB := Lib.hid hB
      have HRR := Lib.hid (HR.out.below hB (Nat.le_refl _))
      obtain ⟨m0, m1, m2⟩ := mat_cells hM
      clear hO hM hB
      by_cases hlt : k < D.length
      · have hd : decide ((k : Int) < (D.length : Int)) = true := decide_eq_true (by omega)
        obtain ⟨ad, rfl, hcell⟩ := HRR.out.at_ hlt
        rw [show D.getD k false = Skew.dk D k from rfl] at hcell
        cases hdk : Skew.dk D k
        · rw [hdk] at hcell
          have HL := Lib.hid (show numL (Skew.cn D (fun i => i / W) (k + 1)) H = numL (Skew.cn D (fun i => i / W) k) H from numL_congr _ _ _ (fun y _ => Skew.cn_light hdk y))
          clear hdk
          go_wp2_with fail
          go_roundw
          case rel => exact ⟨k + 1, by omega, by go_num, by rw [HL.out]; exact HO.out, HM.out, HB.out⟩
          case measure => simp [intOf]; omega
        · rw [hdk] at hcell
          have hq : k / W < H := (Nat.div_lt_iff_lt_mul (show 0 < W by omega)).2 (by rw [Nat.mul_comm]; have := HD.out; omega)
          have hcnl := Skew.cn_le D (fun i => i / W) k (k / W)
          have hcd : ∀ y, Skew.cn D (fun i => i / W) (k + 1) y = Skew.cn D (fun i => i / W) k y + (if k / W = y then 1 else 0) := fun y => Skew.cn_dark hdk y
          have hset := HO.out.set_ (k / W) (.int .i64 ((Skew.cn D (fun i => i / W) (k + 1) (k / W) : Nat) : Int))
          rw [List.setIfInBounds_toArray, numL_set _ (Skew.cn D (fun i => i / W) (k + 1)) H (k / W) (fun i _ hi => by rw [hcd, if_neg (fun e => hi e.symm)]; rfl)] at hset
          have hcr := hcd (k / W)
          rw [if_pos rfl] at hcr
          rw [hcr] at hset
          have HSET := Lib.hid hset
          have hco := blk_cell HO.out (k / W) _ (by rw [List.getElem?_toArray]; exact numL_get _ H _ hq)
          have hfz := HO.out.frozen (k / W)
          have t1 : (k : Int).tdiv (W : Int) = ((k / W : Nat) : Int) := (Int.ofNat_tdiv k W).symm
          have hW0 : ((W : Int) == 0) = false := by rw [beq_eq_false_iff_ne]; omega
          clear hset hcd hcr hdk
          generalize Skew.cn D (fun i => i / W) k (k / W) = cr at *
          generalize k / W = q at *
          go_wp2_with fail
          go_roundw
          case rel => exact ⟨k + 1, by omega, by go_num, HSET.out, HM.out.far (by simp; omega) _, HB.out.setCell (by simp; omega) _⟩
          case measure => simp [intOf]; omega
      · have hd : decide ((k : Int) < (D.length : Int)) = false := decide_eq_false (by omega)
        obtain rfl : k = D.length := by omega
        go_wp2_with fail
        go_ret2
        exact ⟨_, rfl, ⟨some ⟨g, 0, none⟩, H, rfl, RdN.of_blk HO.out⟩, HB.out⟩
end Go.Proofs.Yticbpifgjjcjmaa
