/- Rows of the call's own that grow by append: what they hold, one element at a time. -/
import Derived.Test.YticbpifgjjcjmaaEng
namespace Go.Proofs.Yticbpifgjjcjmaa
open Go.RowKit
/-- A row of one-cell elements of the call's own. -/
def OwnV (w : World) (base : Nat) (e : TypeId) (v : Value) (xs : List Value) : Prop := w.ownsRow base e 1 v xs.length xs
theorem OwnV.nil (w : World) (base : Nat) (e : TypeId) : OwnV w base e (.slice none 0 0) [] := World.ownsRow_nil w base e 1
theorem OwnV.base_ {w : World} {base : Nat} {e : TypeId} {v : Value} {p : List Value} (h : OwnV w base e v p) : ∀ k, v.ownBlock = some k → base ≤ k := fun k hk => (World.ownsRow.lt h k hk).1
theorem OwnV.below {w w1 : World} {base : Nat} {e : TypeId} {v : Value} {p : List Value} (h : OwnV w base e v p) (hb : Below w.heap.size w w1) : OwnV w1 base e v p :=
  World.ownsRow.kept h ⟨hb.os, hb.tape, hb.output, hb.size, fun i hi _ => hb.block i hi⟩ (row := none) (by cases v.ownBlock <;> simp)
theorem OwnV.drewN {w : World} {base : Nat} {e : TypeId} {v : Value} {p : List Value} (h : OwnV w base e v p) (n : Nat) : OwnV (w.drewN n) base e v p := h
/-- the shape of a row that is not empty -/
theorem OwnV.form {w : World} {base : Nat} {e : TypeId} {v : Value} {xs : List Value} (h : OwnV w base e v xs) (hx : 0 < xs.length) :
    ∃ g cap, v = .slice (some ⟨g, 0, none⟩) xs.length cap ∧ base ≤ g ∧ g < w.heap.size ∧ (∀ j u, xs[j]? = some u → w.cell? ⟨g, j, none⟩ = some u) ∧ (∀ j, w.frozen? ⟨g, j, none⟩ = false) ∧
      (∀ j u, j < xs.length → OwnV (w.setCell ⟨g, j, none⟩ u) base e v (xs.set j u)) := by
  have h' := h
  rcases h.2 with ⟨_, h0⟩ | ⟨g, cap, cur, rfl, hb, hg, hn, hm, hs, ht⟩
  · omega
  · have hb' : Blk w g e cur := hg
    rw [Nat.mul_one] at hs ht
    refine ⟨g, cap, rfl, hb, hb'.lt, fun j u hu => ?_, fun j => hb'.frozen j, fun j u hj => ⟨by simp, .inr ⟨g, cap, cur.setIfInBounds j u, by simp, hb, hb'.set_ j u, by simpa using hn, hm, by simpa using hs, ?_⟩⟩⟩
    · rw [hb'.cell j]
      rw [← ht, List.getElem?_take] at hu
      split at hu
      · simpa using hu
      · cases hu
    · rw [Array.toList_setIfInBounds, Nat.mul_one, List.length_set, List.take_set, ht]
/-- the value of a row: a slice of its length -/
theorem OwnV.slice {w : World} {base : Nat} {e : TypeId} {v : Value} {xs : List Value} (h : OwnV w base e v xs) : ∃ A c, v = .slice A xs.length c := by
  rcases h.2 with ⟨rfl, h0⟩ | ⟨g, cap, cur, rfl, _⟩
  · exact ⟨none, 0, by rw [h0]⟩
  · exact ⟨_, cap, rfl⟩
theorem below_grownV {base : Nat} {w0 W w1 : World} {v : Value} {e : TypeId} {p : List Value} (hb : Below base w0 W) (hB : base ≤ W.heap.size) (hO : OwnV W base e v p) (hg : W.grownBy w1 v.ownBlock) : Below base w0 w1 :=
  hb.grown hg hB (fun k hk => hO.base_ k hk)
/-- a row of bools that was grown reads as them -/
theorem OwnV.bools {w : World} {base : Nat} {e : TypeId} {v : Value} {D : List Bool} (h : OwnV w base e v (cellsL D)) : ∃ A c, v = .slice A D.length c ∧ RdB w A D := by
  rcases Nat.eq_zero_or_pos D.length with h0 | h0
  · obtain ⟨A, c, hv⟩ := h.slice
    rw [cellsL_len] at hv
    exact ⟨A, c, hv, fun h1 => by omega⟩
  · obtain ⟨g, cap, hv, _, hlt, hc, _⟩ := h.form (by rw [cellsL_len]; exact h0)
    rw [cellsL_len] at hv
    refine ⟨_, cap, hv, fun _ => ⟨_, rfl, hlt, fun j hj => ?_⟩⟩
    have ha : (⟨g, 0, none⟩ : Addr).add j = ⟨g, j, none⟩ := by unfold Addr.add; split <;> simp_all
    rw [ha]
    exact hc j _ (cellsL_get D j hj)
section
variable {P : Program} {W : World}
/-- append(v, u) of one cell: the goal's world is the variadic's box laid. -/
theorem wpList_app1V {ops : Array Oper} {rest : List Oper} {o : Oper} {a : Act} {Q : Exit → Act → World → Prop} (hgd : o.guard = none) (s x : Operand) (t : TypeId)
    (ho : o.op = .call { callee := .builtin .append, args := #[s, x], argTypes := #[t, t] })
    (base : Nat) (e : TypeId) (z : Value) (bytes : Nat) (ht : P.underlying t = some (.slice e)) (hinfo : (P.info? e).map (fun i => (i.zero, i.size, i.bytes)) = some (some z, 1, bytes))
    (hzs : z.cells.size = 1) (hb0 : 0 < bytes) (v : Value) (q : List Value) (hs : a.eval s = v) (hown : OwnV W base e v q) (y u : Value) (hy : y = u) (hu : u.oneCell' = true)
    (hx : a.eval x = .slice (some ⟨W.heap.size, 0, none⟩) 1 1) (hl : (q.length + 1) * bytes ≤ 140737488355328) (hbase : base ≤ W.heap.size)
    (h : ∀ v1 w1, OwnV w1 base e v1 (q ++ [u]) → W.grownBy w1 v.ownBlock → (v1.ownBlock = v.ownBlock ∨ ∃ b, v1.ownBlock = some b ∧ W.heap.size ≤ b) → wpList P ops Q rest (a.put o.dst v1) w1) :
    wpList P ops Q (o :: rest) a (W.alloc (.cells #[y] e)) := by
  subst hy
  have hr : Src (W.alloc (.cells #[y] e)) (some ⟨W.heap.size, 0, none⟩) 1 1 [y] := by
    refine ⟨rfl, fun _ => ⟨_, rfl, by simp, fun j u' hu' => ?_⟩⟩
    have hj0 : j = 0 := by
      rcases Nat.eq_zero_or_pos j with h0 | h0
      · exact h0
      · rw [List.getElem?_eq_none (show [y].length ≤ j from h0)] at hu'; cases hu'
    subst hj0
    have ha : (⟨W.heap.size, 0, none⟩ : Addr).add 0 = ⟨W.heap.size, 0, none⟩ := by unfold Addr.add; simp
    rw [ha, cell_of_row _ _ _ _ _ _ (heap_alloc_new W _)]
    simpa using hu'
  have hO : OwnV (W.alloc (.cells #[y] e)) base e v q := World.ownsRow.alloc hown _
  refine wpList_app hgd s x t ho base e z 1 bytes ht hinfo hzs (by decide) hb0 v q.length q hs hO _ 1 1 [y] hx hr (by intro u' hu'; rw [List.mem_singleton] at hu'; subst hu'; exact hu) hl (by simp; omega) ?_
  intro v1 w1 h1 h2 h3
  refine h v1 w1 (by unfold OwnV; rw [List.length_append]; exact h1) ⟨h2.os, h2.tape, h2.output, Nat.le_trans (by simp) h2.size, fun k hk hne => ?_⟩ ?_
  · exact (h2.block k (by simp; omega) hne).trans (Below.heap_alloc W _ k hk)
  · rcases h3 with h3 | h3
    · exact .inl h3
    · exact .inr ⟨_, h3, by simp⟩
end
/-- numbers by their place -/
def numL (f : Nat → Nat) (L : Nat) : List Value := (List.range L).map fun y => .int .i64 ((f y : Nat) : Int)
theorem numL_len (f : Nat → Nat) (L : Nat) : (numL f L).length = L := by simp [numL]
theorem numL_get (f : Nat → Nat) (L i : Nat) (hi : i < L) : (numL f L)[i]? = some (.int .i64 ((f i : Nat) : Int)) := by
  simp [numL, List.getElem?_map, List.getElem?_range hi]
theorem numL_succ (f : Nat → Nat) (L : Nat) : numL f (L + 1) = numL f L ++ [.int .i64 ((f L : Nat) : Int)] := by
  simp [numL, List.range_succ]
theorem numL_set (f f' : Nat → Nat) (L k : Nat) (h : ∀ i, i < L → i ≠ k → f i = f' i) : (numL f L).set k (.int .i64 ((f' k : Nat) : Int)) = numL f' L := by
  apply List.ext_getElem?
  intro i
  rw [List.getElem?_set]
  by_cases hi : i < L
  · rw [numL_get f L i hi, numL_get f' L i hi]
    by_cases hik : k = i
    · subst hik; rw [if_pos rfl, if_pos (by rw [numL_len]; exact hi)]
    · rw [if_neg hik, h i hi (fun e => hik e.symm)]
  · rw [List.getElem?_eq_none (by rw [numL_len]; omega), List.getElem?_eq_none (by rw [numL_len]; omega)]
    split
    · rename_i hk; subst hk
      rw [if_neg (by rw [numL_len]; exact hi)]
    · rfl
theorem numL_congr (f f' : Nat → Nat) (L : Nat) (h : ∀ i, i < L → f i = f' i) : numL f L = numL f' L := by
  unfold numL
  apply List.map_congr_left
  intro i hi
  rw [h i (List.mem_range.1 hi)]
attribute [irreducible] numL
end Go.Proofs.Yticbpifgjjcjmaa
