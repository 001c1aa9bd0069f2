/- Rows of the call's own that hold slices of bytes: lists of contents. -/
import Derived.Test.YtfhigppdgfajoaaDec
import Derived.Laws.OwnMore
import Derived.Deep.Onto
namespace Go.Proofs.Ytfhigppdgfajoaa
open Go.RowKit
/-- A row of one-cell elements of the call's own. -/
def OwnV (w : World) (base : Nat) (e : TypeId) (v : Value) (xs : List Value) : Prop := w.ownsRow base e 1 v xs.length xs
theorem OwnV.base_ {w : World} {base : Nat} {e : TypeId} {v : Value} {p : List Value} (h : OwnV w base e v p) : ∀ k, v.ownBlock = some k → base ≤ k := fun k hk => (World.ownsRow.lt h k hk).1
theorem OwnV.below {w w1 : World} {base : Nat} {e : TypeId} {v : Value} {p : List Value} (h : OwnV w base e v p) (hb : Below w.heap.size w w1) : OwnV w1 base e v p :=
  World.ownsRow.kept h ⟨hb.os, hb.tape, hb.output, hb.size, fun i hi _ => hb.block i hi⟩ (row := none) (by cases v.ownBlock <;> simp)
/-- the shape of a row that is not empty -/
theorem OwnV.form {w : World} {base : Nat} {e : TypeId} {v : Value} {xs : List Value} (h : OwnV w base e v xs) (hx : 0 < xs.length) :
    ∃ g cap, v = .slice (some ⟨g, 0, none⟩) xs.length cap ∧ base ≤ g ∧ g < w.heap.size ∧ (∃ cur, Blk w g e cur) ∧ (∀ j u, xs[j]? = some u → w.cell? ⟨g, j, none⟩ = some u) ∧ (∀ j, w.frozen? ⟨g, j, none⟩ = false) ∧
      (∀ j u, j < xs.length → OwnV (w.setCell ⟨g, j, none⟩ u) base e v (xs.set j u)) := by
  rcases h.2 with ⟨_, h0⟩ | ⟨g, cap, cur, rfl, hb, hg, hn, hm, hs, ht⟩
  · omega
  · have hb' : Blk w g e cur := hg
    rw [Nat.mul_one] at hs ht
    refine ⟨g, cap, rfl, hb, hb'.lt, ⟨cur, hb'⟩, fun j u hu => ?_, fun j => hb'.frozen j, fun j u hj => ⟨by simp, .inr ⟨g, cap, cur.setIfInBounds j u, by simp, hb, hb'.set_ j u, by simpa using hn, hm, by simpa using hs, ?_⟩⟩⟩
    · rw [hb'.cell j]
      rw [← ht, List.getElem?_take] at hu
      split at hu
      · simpa using hu
      · cases hu
    · rw [Array.toList_setIfInBounds, Nat.mul_one, List.length_set, List.take_set, ht]
theorem OwnV.slice {w : World} {base : Nat} {e : TypeId} {v : Value} {xs : List Value} (h : OwnV w base e v xs) : ∃ A c, v = .slice A xs.length c := by
  rcases h.2 with ⟨rfl, h0⟩ | ⟨g, cap, cur, rfl, _⟩
  · exact ⟨none, 0, by rw [h0]⟩
  · exact ⟨_, cap, rfl⟩
theorem OwnV.lit (w : World) (base : Nat) (hb : base ≤ w.heap.size) (e : TypeId) (u : Value) : OwnV (w.alloc (.cells #[u] e)) base e (.slice (some ⟨w.heap.size, 0, none⟩) 1 1) [u] :=
  ⟨rfl, .inr ⟨w.heap.size, 1, #[u], rfl, hb, heap_alloc_new w _, Nat.le_refl _, by decide, rfl, rfl⟩⟩
/-- a row and a block of another type -/
theorem ownsRow_ne_blk {w : World} {base : Nat} {e t : TypeId} {size n g : Nat} {v : Value} {xs : List Value} {cs : Array Value} (h : w.ownsRow base e size v n xs) (hb : Blk w g t cs) (hte : e ≠ t) : v.ownBlock = none ∨ v.ownBlock ≠ some g := by
  rcases h.2 with ⟨rfl, _⟩ | ⟨g', cap, cur, rfl, _, hg, _⟩
  · exact .inl rfl
  · refine .inr fun he => ?_
    have : g' = g := by simpa [Value.ownBlock] using he
    subst this
    unfold Blk at hb
    rw [hg] at hb
    injection hb with hb
    injection hb with _ hb _
    exact hte hb
theorem ownsRow_ne_row {w : World} {base base' : Nat} {e e' : TypeId} {size size' n n' : Nat} {v v' : Value} {xs xs' : List Value} (h : w.ownsRow base e size v n xs) (h' : w.ownsRow base' e' size' v' n' xs') (hte : e ≠ e') : v.ownBlock = none ∨ v.ownBlock ≠ v'.ownBlock := by
  rcases h'.2 with ⟨rfl, _⟩ | ⟨g', cap, cur, rfl, _, hg, _⟩
  · rcases h.2 with ⟨rfl, _⟩ | ⟨g, _, _, rfl, _⟩
    · exact .inl rfl
    · exact .inr (by simp [Value.ownBlock])
  · have hb : Blk w g' e' cur := hg
    exact ownsRow_ne_blk h hb hte
theorem row_ne_blk {w : World} {base : Nat} {e t : TypeId} {size n g : Nat} {v : Value} {xs : List Value} {cs : Array Value} (h : w.ownsRow base e size v n xs) (hb : Blk w g t cs) (hte : e ≠ t) : some g ≠ v.ownBlock := by
  rcases ownsRow_ne_blk h hb hte with h1 | h1
  · rw [h1]; simp
  · exact fun he => h1 he.symm
theorem Blk.grown_ {w w1 : World} {g : Nat} {t : TypeId} {cs : Array Value} {row : Option Nat} (h : Blk w g t cs) (hg : w.grownBy w1 row) (hne : some g ≠ row) : Blk w1 g t cs := (hg.block g h.lt hne).trans h
section
variable {P : Program} {W : World}
/-- append(v, u) of one cell: the goal's world is the variadic's box laid. -/
theorem wpList_app1V {ops : Array Oper} {rest : List Oper} {o : Oper} {a : Act} {Q : Exit → Act → World → Prop} (hgd : o.guard = none) (s x : Operand) (t : TypeId)
    (ho : o.op = .call { callee := .builtin .append, args := #[s, x], argTypes := #[t, t] })
    (base : Nat) (e : TypeId) (z : Value) (bytes : Nat) (ht : P.underlying t = some (.slice e)) (hinfo : (P.info? e).map (fun i => (i.zero, i.size, i.bytes)) = some (some z, 1, bytes))
    (hzs : z.cells.size = 1) (hb0 : 0 < bytes) (v : Value) (q : List Value) (hs : a.eval s = v) (hown : OwnV W base e v q) (y u : Value) (hy : y = u) (hu : u.oneCell' = true)
    (hx : a.eval x = .slice (some ⟨W.heap.size, 0, none⟩) 1 1) (hl : (q.length + 1) * bytes ≤ 140737488355328) (hbase : base ≤ W.heap.size)
    (h : ∀ v1 w1, OwnV w1 base e v1 (q ++ [u]) → W.grownBy w1 v.ownBlock → wpList P ops Q rest (a.put o.dst v1) w1) :
    wpList P ops Q (o :: rest) a (W.alloc (.cells #[y] e)) := by
  subst hy
  have hr : Src (W.alloc (.cells #[y] e)) (some ⟨W.heap.size, 0, none⟩) 1 1 [y] := by
    refine ⟨rfl, fun _ => ⟨_, rfl, by simp, fun j u' hu' => ?_⟩⟩
    have hj0 : j = 0 := by
      rcases Nat.eq_zero_or_pos j with h0 | h0
      · exact h0
      · rw [List.getElem?_eq_none (show [y].length ≤ j from h0)] at hu'; cases hu'
    subst hj0
    have ha : (⟨W.heap.size, 0, none⟩ : Addr).add 0 = ⟨W.heap.size, 0, none⟩ := by unfold Addr.add; simp
    rw [ha, cell_of_row _ _ _ _ _ _ (heap_alloc_new W _)]
    simpa using hu'
  have hO : OwnV (W.alloc (.cells #[y] e)) base e v q := World.ownsRow.alloc hown _
  refine wpList_app hgd s x t ho base e z 1 bytes ht hinfo hzs (by decide) hb0 v q.length q hs hO _ 1 1 [y] hx hr (by intro u' hu'; rw [List.mem_singleton] at hu'; subst hu'; exact hu) hl (by simp; omega) ?_
  intro v1 w1 h1 h2 _
  exact h v1 w1 (by unfold OwnV; rw [List.length_append]; exact h1) ⟨h2.os, h2.tape, h2.output, Nat.le_trans (by simp) h2.size, fun k hk hne => (h2.block k (by simp; omega) hne).trans (Below.heap_alloc W _ k hk)⟩
end
theorem grown_set (w : World) (g i : Nat) (u : Value) : w.grownBy (w.setCell ⟨g, i, none⟩ u) (some g) :=
  ⟨by simp [World.setCell], by simp [World.setCell], by simp [World.setCell], by simp [World.setCell], fun k _ hk => Below.heap_setCell w _ u k (fun e => hk (by rw [e]))⟩
theorem info22 : (Try.prog.info? 22).map (fun i => (i.zero, i.size, i.bytes)) = some (some (.slice none 0 0), 1, 24) := by kernel_rfl
theorem OwnV.nil (w : World) (base : Nat) (e : TypeId) : OwnV w base e (.slice none 0 0) [] := World.ownsRow_nil w base e 1
/-- a slice of slices of bytes of the call's own -/
def OwnS (w : World) (base : Nat) (v : Value) (ps : List (List Nat)) : Prop :=
  ∃ xs : List Value, xs.length = ps.length ∧ OwnV w base 22 v xs ∧ ∀ (j : Nat) (u : Value) (p : List Nat), xs[j]? = some u → ps[j]? = some p → OwnB w base 5 u p ∧ ∀ c ∈ p, c < 256
theorem OwnS.nil (w : World) (base : Nat) : OwnS w base (.slice none 0 0) [] := ⟨[], rfl, OwnV.nil _ _ _, fun j u p h => by simp at h⟩
theorem OwnS.below {w w1 : World} {base : Nat} {v : Value} {ps : List (List Nat)} (h : OwnS w base v ps) (hb : Below w.heap.size w w1) : OwnS w1 base v ps := by
  obtain ⟨xs, hl, hv, hx⟩ := h
  exact ⟨xs, hl, hv.below hb, fun j u p h1 h2 => ⟨(hx j u p h1 h2).1.below hb, (hx j u p h1 h2).2⟩⟩
theorem OwnS.base_ {w : World} {base : Nat} {v : Value} {ps : List (List Nat)} (h : OwnS w base v ps) : ∀ k, v.ownBlock = some k → base ≤ k := by
  obtain ⟨xs, _, hv, _⟩ := h
  exact hv.base_
theorem OwnS.slice {w : World} {base : Nat} {v : Value} {ps : List (List Nat)} (h : OwnS w base v ps) : ∃ A c, v = .slice A ps.length c := by
  obtain ⟨xs, hl, hv, _⟩ := h
  obtain ⟨A, c, e⟩ := hv.slice
  exact ⟨A, c, by rw [e, hl]⟩
theorem OwnS.mono {w : World} {base b' : Nat} {v : Value} {ps : List (List Nat)} (h : OwnS w base v ps) (hb : b' ≤ base) : OwnS w b' v ps := by
  obtain ⟨xs, hl, hv, hx⟩ := h
  exact ⟨xs, hl, World.ownsRow.mono hv hb, fun j u p h1 h2 => ⟨World.ownsRow.mono (hx j u p h1 h2).1 hb, (hx j u p h1 h2).2⟩⟩
theorem OwnS.app {w w1 : World} {base : Nat} {v v1 u : Value} {ps : List (List Nat)} {p : List Nat} {xs : List Value} (hl : xs.length = ps.length) (hv : OwnV w base 22 v xs)
    (hx : ∀ (j : Nat) (u : Value) (p : List Nat), xs[j]? = some u → ps[j]? = some p → OwnB w base 5 u p ∧ ∀ c ∈ p, c < 256) (hu : OwnB w base 5 u p) (hp : ∀ c ∈ p, c < 256) (h1 : OwnV w1 base 22 v1 (xs ++ [u])) (hg : w.grownBy w1 v.ownBlock) : OwnS w1 base v1 (ps ++ [p]) := by
  refine ⟨xs ++ [u], by simp [hl], h1, fun j a q ha hq => ?_⟩
  have key : ∀ (a : Value) (q : List Nat), OwnB w base 5 a q → OwnB w1 base 5 a q := fun a q h => World.ownsRow.kept h hg (ownsRow_ne_row h hv (by decide))
  rw [List.getElem?_append] at ha hq
  rw [← hl] at hq
  split at ha
  · rename_i hj
    rw [if_pos hj] at hq
    obtain ⟨k1, k2⟩ := hx j a q ha hq
    exact ⟨key a q k1, k2⟩
  · rename_i hj
    rw [if_neg hj] at hq
    rcases Nat.eq_zero_or_pos (j - xs.length) with h0 | h0
    · rw [h0] at ha hq
      simp at ha hq
      subst ha hq
      exact ⟨key _ _ hu, hp⟩
    · rw [List.getElem?_eq_none (by simp; omega)] at ha; cases ha
end Go.Proofs.Ytfhigppdgfajoaa
