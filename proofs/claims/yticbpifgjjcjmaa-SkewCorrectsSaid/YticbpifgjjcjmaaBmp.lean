/- The walk of bitmap: a bitmap out of a string. -/
import Derived.Test.YticbpifgjjcjmaaShr
import Derived.Deep.AppendLies
import Derived.Deep.RegionLaw
namespace Go.Proofs.Yticbpifgjjcjmaa
open Go.RowKit Go.Maps
section
variable {P : Program} {w : World}
/-- append(v, u) of one cell, at a step of a region that draws its order; the cell's box is known whole -/
theorem step_app1V {ops : Array Oper} {o : Oper} {a : Act} {K : Act → World → Prop} {Q : Exit → Act → World → Prop} {E : Prop} (hgd : o.guard = none) (s x : Operand) (t : TypeId)
    (ho : o.op = .call { callee := .builtin .append, args := #[s, x], argTypes := #[t, t] })
    (base : Nat) (e : TypeId) (z : Value) (bytes : Nat) (ht : P.underlying t = some (.slice e)) (hinfo : (P.info? e).map (fun i => (i.zero, i.size, i.bytes)) = some (some z, 1, bytes))
    (hzs : z.cells.size = 1) (hb0 : 0 < bytes) (v : Value) (q : List Value) (hs : a.eval s = v) (hown : OwnV w base e v q) (gb : Nat) (u : Value) (hb : Blk w gb e #[u]) (hu : u.oneCell' = true)
    (hx : a.eval x = .slice (some ⟨gb, 0, none⟩) 1 1) (hl : (q.length + 1) * bytes ≤ 140737488355328) (hbase : base ≤ w.heap.size)
    (h : ∀ A c w', OwnV w' base e (.slice A (q.length + 1) c) (q ++ [u]) → w.grownBy w' v.ownBlock → K (a.put o.dst (.slice A (q.length + 1) c)) w') :
    if Region.wanted o (yielded ops a.tmps) = true then Oper.wp P o a w K Q else E := by
  have hw : Region.wanted o (yielded ops a.tmps) = true := by simp [Region.wanted, hgd]
  rw [if_pos hw]
  have hr : Src w (some ⟨gb, 0, none⟩) 1 1 [u] := by
    refine ⟨rfl, fun _ => ⟨_, rfl, hb.lt, fun j u' hu' => ?_⟩⟩
    have hj0 : j = 0 := by
      rcases Nat.eq_zero_or_pos j with h0 | h0
      · exact h0
      · rw [List.getElem?_eq_none (show [u].length ≤ j from h0)] at hu'; cases hu'
    subst hj0
    have ha : (⟨gb, 0, none⟩ : Addr).add 0 = ⟨gb, 0, none⟩ := by unfold Addr.add; simp
    rw [ha]
    exact blk_cell hb 0 _ (by simpa using hu')
  obtain ⟨v', w', hrun, h2, h3, _⟩ := run_app (P := P) base t o.type e z 1 bytes ht hinfo hzs (by decide) hb0 v q.length q hown (some ⟨gb, 0, none⟩) 1 1 [u] hr (by intro u' hu'; rw [List.mem_singleton] at hu'; subst hu'; exact hu) hl hbase
  have h2' : OwnV w' base e v' (q ++ [u]) := by unfold OwnV; rw [List.length_append]; exact h2
  obtain ⟨A, c, hv⟩ := h2'.slice
  rw [List.length_append, List.length_singleton] at hv
  subst hv
  unfold Oper.wp execOp
  simp only [ho, resolve, invoke, builtin, Sem.run_bind, Sem.run_pure, Result.andThen_ok, List.map_toArray, List.map_cons, List.map_nil, hs, hx, hrun]
  exact h A c w' h2' h3
end
theorem OwnV.setCell_below {w : World} {base : Nat} {e : TypeId} {v : Value} {xs : List Value} (h : OwnV w base e v xs) {a : Addr} (ha : a.block < base) (u : Value) : OwnV (w.setCell a u) base e v xs :=
  ownsRow_setCell_below h ha u
def bitOf (s : ByteArray) (i : Nat) : Bool := if h : i < s.size then (((s[i]'h).toNat : Int) == 49) else false
def bitsOf (s : ByteArray) (k : Nat) : List Bool := (List.range k).map (bitOf s)
theorem bitsOf_len (s : ByteArray) (k : Nat) : (bitsOf s k).length = k := by simp [bitsOf]
theorem bitsOf_succ (s : ByteArray) (k : Nat) (h : k < s.size) : cellsL (bitsOf s (k + 1)) = cellsL (bitsOf s k) ++ [.bool (((s[k]'h).toNat : Int) == 49)] := by
  simp [bitsOf, cellsL, List.range_succ, bitOf, h]
/-- a bitmap in a world -/
def MatB (w : World) (v : Value) (W H : Int) (D : List Bool) : Prop := ∃ A c, v = .agg (matA W H A D.length c) ∧ RdB w A D
set_option maxRecDepth 100000 in
set_option maxHeartbeats 2000000 in
theorem bitmap_any (W H : Int) (s : ByteArray) (hs : s.size ≤ 1000) (w : World) :
    Calls Try.prog 29 #[.int .i64 W, .int .i64 H, .string s] w fun e w' => ∃ v, e = .returned v ∧ MatB w' v W H (bitsOf s s.size) ∧ Below w.heap.size w w' := by
  go_enter Try.func29, Try.ntmps29
  go_wp2_with fail
  obtain ⟨w0, hw0, hb0, hb1, hO, hB, hsz⟩ : ∃ w0, w0 = (w.alloc (.cells #[.int .i64 0, .int .i64 0, .slice none 0 0] 24)).alloc (.cells #[.int .i64 W, .int .i64 H, .slice none 0 0] 24) ∧ Blk w0 w.heap.size 24 (matA 0 0 none 0 0) ∧
      Blk w0 (w.heap.size + 1) 24 (matA W H none 0 0) ∧ OwnV w0 (w.heap.size + 2) 4 (.slice none 0 0) (cellsL (bitsOf s 0)) ∧ Below w.heap.size w w0 ∧ w.heap.size + 2 ≤ w0.heap.size :=
    ⟨_, rfl, (Blk.new w 24 _).alloc _, Blk.alloc_new (by simp) rfl, OwnV.nil _ _ _, ((Below.refl _ _).alloc (Nat.le_refl _) _).alloc (by simp) _, by simp⟩
  rw [← hw0]
  have Hb0 := Lib.hid hb0
  have Hb1 := Lib.hid hb1
  have HO := Lib.hid hO
  have HB := Lib.hid hB
  clear hw0 hb0 hb1 hO hB
  go_loopw [8] (fun vi wr => ∃ k : Nat, ∃ A c, k ≤ s.size ∧ vi = .int .i64 (k : Int) ∧ Blk wr w.heap.size 24 (matA 0 0 none 0 0) ∧ Blk wr (w.heap.size + 1) 24 (matA W H A k c) ∧ OwnV wr (w.heap.size + 2) 4 (.slice A k c) (cellsL (bitsOf s k)) ∧ Below w.heap.size w wr ∧ w.heap.size + 2 ≤ wr.heap.size) (fun vi _ => s.size - (intOf vi).toNat)
  case atStart => exact ⟨0, none, 0, Nat.zero_le _, rfl, Hb0.out, Hb1.out, HO.out, HB.out, hsz⟩
  case round =>
    clear Hb0 Hb1 HO HB hsz
    obtain ⟨k, A, c, hk, rfl, hb0, hb1, hO, hB, hsz⟩ := hrel
    have Hb0 := Lib.hid hb0
    have Hb1 := Lib.hid hb1
    have HO := Lib.hid hO
    have HB := Lib.hid hB
    obtain ⟨c0, c1, c2⟩ := mat_cells hb1
    have hf2 := hb1.frozen 2
    clear hb0 hb1 hO hB
    by_cases hlt : k < s.size
    · have hd : decide ((k : Int) < (s.size : Int)) = true := decide_eq_true (by omega)
      have hk0 : (0 : Int) ≤ (k : Int) := by omega
      have hk1 : (k : Int) < (s.size : Int) := by omega
      have hne := World.new_ne wr ⟨w.heap.size + 1, 2, none⟩ c2
      have hfa : ∀ o, (wr.alloc o).drew.frozen? ⟨w.heap.size + 1, 2, none⟩ = false := fun o => Blk.frozen (Hb1.out.alloc o) 2
      go_wp2_with fail
      have hca : ∀ o, (wr.alloc o).drew.cell? ⟨w.heap.size + 1, 2, none⟩ = some (.slice A k c) := fun o => blk_cell (Hb1.out.alloc o) 2 _ rfl
      have hcw : wr.drew.cell? ⟨w.heap.size + 1, 2, none⟩ = some (.slice A k c) := c2
      go_region_law ((refine step_app1V (by rfl) _ _ 22 (by rfl) (w.heap.size + 2) 4 (.bool false) 1 Try.underlying22 info4 (by rfl) (by decide) _ (cellsL (bitsOf s k)) (by rfl) (HO.out.below (((Below.refl _ _).alloc (Nat.le_refl _) _).drew)) wr.heap.size _ (Blk.new wr 4 _) (by rfl) (by rfl) (by rw [cellsL_len, bitsOf_len]; omega) (by simp; omega) ?_; intro A1 c1 wn HO1 hg1; have hcn : wn.cell? ⟨w.heap.size + 1, 2, none⟩ = some (.slice A k c) := (hg1.cell_far _ (by simp; omega) (fun e => by have := HO.out.base_ _ e.symm; simp at this)).trans (hca _); have hfn : wn.frozen? ⟨w.heap.size + 1, 2, none⟩ = false := (hg1.frozen_far _ (by simp; omega) (fun e => by have := HO.out.base_ _ e.symm; simp at this)).trans (hfa _)))
      all_goals
        have hb1n := (Blk.grown (show Blk (wr.alloc (.cells #[.bool (((s[k]'hlt).toNat : Int) == 49)] 4)).drew (w.heap.size + 1) 24 (matA W H A k c) from Hb1.out.alloc _) hg1 (fun e => by have := HO.out.base_ _ e.symm; simp at this)).set_ 2 (.slice A1 ((cellsL (bitsOf s k)).length + 1) c1)
        have hb0n := (Blk.grown (show Blk (wr.alloc (.cells #[.bool (((s[k]'hlt).toNat : Int) == 49)] 4)).drew w.heap.size 24 (matA 0 0 none 0 0) from Hb0.out.alloc _) hg1 (fun e => by have := HO.out.base_ _ e.symm; omega)).far (p := ⟨w.heap.size + 1, 2, none⟩) (by simp) (.slice A1 ((cellsL (bitsOf s k)).length + 1) c1)
        have hBn := ((HB.out.alloc (by omega) (.cells #[.bool (((s[k]'hlt).toNat : Int) == 49)] 4)).drew.grown hg1 (by simp; omega) (fun j hj => by have := HO.out.base_ _ hj; omega)).setCell (p := ⟨w.heap.size + 1, 2, none⟩) (by simp) (.slice A1 ((cellsL (bitsOf s k)).length + 1) c1)
        have hOn : OwnV (wn.setCell ⟨w.heap.size + 1, 2, none⟩ (.slice A1 ((cellsL (bitsOf s k)).length + 1) c1)) (w.heap.size + 2) 4 (.slice A1 ((cellsL (bitsOf s k)).length + 1) c1) (cellsL (bitsOf s k) ++ [.bool (((s[k]'hlt).toNat : Int) == 49)]) := HO1.setCell_below (show w.heap.size + 1 < w.heap.size + 2 by omega) _
        have hsn : w.heap.size + 2 ≤ (wn.setCell ⟨w.heap.size + 1, 2, none⟩ (.slice A1 ((cellsL (bitsOf s k)).length + 1) c1)).heap.size := by have := hg1.size; simp at this ⊢; omega
        rw [← bitsOf_succ s k hlt] at hOn
        rw [cellsL_len, bitsOf_len] at hb1n hb0n hBn hOn hsn ⊢
        go_wp2_with fail
        go_roundw
        case rel => exact ⟨k + 1, A1, c1, by omega, by go_num, hb0n, hb1n, hOn, hBn, hsn⟩
        case measure => simp [intOf]; omega
    · have hd : decide ((k : Int) < (s.size : Int)) = false := decide_eq_false (by omega)
      obtain rfl : k = s.size := by omega
      obtain ⟨A', c', hv, hR⟩ := HO.out.bools
      rw [bitsOf_len] at hv
      injection hv with e1 _ e3
      subst e1 e3
      have HRR := Lib.hid hR
      go_wp2_with (refine wpList_store_row rfl 24 _ _ rfl w.heap.size (matA W H A s.size c) rfl rfl 24 _ Hb0.out size24 rfl (matA_one _ _ _ _ _) ?_)
      refine bodyPost_ret (v := .agg (matA W H A s.size c)) (results_cell_row rfl _ _ w.heap.size 24 (matA W H A s.size c) (0, 0) _ rfl (Hb0.out.setRow _) Try.underlying24 rfl size24) rfl ?_
      have hRD : RdB (wr.setRow w.heap.size (matA W H A s.size c)) A (bitsOf s s.size) := fun h0 => by
        obtain ⟨ad, e, hl, hc⟩ := HRR.out h0
        have hbs := HO.out.base_ ad.block (by rw [e]; rfl)
        refine ⟨ad, e, by simpa using hl, fun j hj => ?_⟩
        have hbl : (ad.add j).block = ad.block := by unfold Addr.add; split <;> rfl
        exact (World.cell?_of_block (setRow_other wr w.heap.size _ _ (by rw [hbl]; omega))).trans (hc j hj)
      exact ⟨_, rfl, ⟨A, c, by rw [bitsOf_len], hRD⟩, below_setRow HB.out (by omega) _⟩
end Go.Proofs.Yticbpifgjjcjmaa
