/- Rows of the call's own that hold pointers and slices; the digests and their bytes. -/
import Derived.Test.YtebipgpbpgoocaaDig
import Derived.Test.YtebipgpbpgoocaaApp
import Derived.Laws.OwnMore
import Derived.Deep.Onto
namespace Go.Proofs.Ytebipgpbpgoocaa
open Go.RowKit
/-- A row of one-cell elements of the call's own. -/
def OwnV (w : World) (base : Nat) (e : TypeId) (v : Value) (xs : List Value) : Prop := w.ownsRow base e 1 v xs.length xs
theorem OwnV.base_ {w : World} {base : Nat} {e : TypeId} {v : Value} {p : List Value} (h : OwnV w base e v p) : ∀ k, v.ownBlock = some k → base ≤ k := fun k hk => (World.ownsRow.lt h k hk).1
theorem OwnV.below {w w1 : World} {base : Nat} {e : TypeId} {v : Value} {p : List Value} (h : OwnV w base e v p) (hb : Below w.heap.size w w1) : OwnV w1 base e v p :=
  World.ownsRow.kept h ⟨hb.os, hb.tape, hb.output, hb.size, fun i hi _ => hb.block i hi⟩ (row := none) (by cases v.ownBlock <;> simp)
/-- the shape of a row that is not empty -/
theorem OwnV.form {w : World} {base : Nat} {e : TypeId} {v : Value} {xs : List Value} (h : OwnV w base e v xs) (hx : 0 < xs.length) :
    ∃ g cap, v = .slice (some ⟨g, 0, none⟩) xs.length cap ∧ base ≤ g ∧ g < w.heap.size ∧ (∃ cur, Blk w g e cur) ∧ (∀ j u, xs[j]? = some u → w.cell? ⟨g, j, none⟩ = some u) ∧ (∀ j, w.frozen? ⟨g, j, none⟩ = false) ∧
      (∀ j u, j < xs.length → OwnV (w.setCell ⟨g, j, none⟩ u) base e v (xs.set j u)) := by
  rcases h.2 with ⟨_, h0⟩ | ⟨g, cap, cur, rfl, hb, hg, hn, hm, hs, ht⟩
  · omega
  · have hb' : Blk w g e cur := hg
    rw [Nat.mul_one] at hs ht
    refine ⟨g, cap, rfl, hb, hb'.lt, ⟨cur, hb'⟩, fun j u hu => ?_, fun j => hb'.frozen j, fun j u hj => ⟨by simp, .inr ⟨g, cap, cur.setIfInBounds j u, by simp, hb, hb'.set_ j u, by simpa using hn, hm, by simpa using hs, ?_⟩⟩⟩
    · rw [hb'.cell j]
      rw [← ht, List.getElem?_take] at hu
      split at hu
      · simpa using hu
      · cases hu
    · rw [Array.toList_setIfInBounds, Nat.mul_one, List.length_set, List.take_set, ht]
theorem OwnV.slice {w : World} {base : Nat} {e : TypeId} {v : Value} {xs : List Value} (h : OwnV w base e v xs) : ∃ A c, v = .slice A xs.length c := by
  rcases h.2 with ⟨rfl, h0⟩ | ⟨g, cap, cur, rfl, _⟩
  · exact ⟨none, 0, by rw [h0]⟩
  · exact ⟨_, cap, rfl⟩
theorem OwnV.lit (w : World) (base : Nat) (hb : base ≤ w.heap.size) (e : TypeId) (u : Value) : OwnV (w.alloc (.cells #[u] e)) base e (.slice (some ⟨w.heap.size, 0, none⟩) 1 1) [u] :=
  ⟨rfl, .inr ⟨w.heap.size, 1, #[u], rfl, hb, heap_alloc_new w _, Nat.le_refl _, by decide, rfl, rfl⟩⟩
/-- a row and a block of another type -/
theorem ownsRow_ne_blk {w : World} {base : Nat} {e t : TypeId} {size n g : Nat} {v : Value} {xs : List Value} {cs : Array Value} (h : w.ownsRow base e size v n xs) (hb : Blk w g t cs) (hte : e ≠ t) : v.ownBlock = none ∨ v.ownBlock ≠ some g := by
  rcases h.2 with ⟨rfl, _⟩ | ⟨g', cap, cur, rfl, _, hg, _⟩
  · exact .inl rfl
  · refine .inr fun he => ?_
    have : g' = g := by simpa [Value.ownBlock] using he
    subst this
    unfold Blk at hb
    rw [hg] at hb
    injection hb with hb
    injection hb with _ hb _
    exact hte hb
theorem ownsRow_ne_row {w : World} {base base' : Nat} {e e' : TypeId} {size size' n n' : Nat} {v v' : Value} {xs xs' : List Value} (h : w.ownsRow base e size v n xs) (h' : w.ownsRow base' e' size' v' n' xs') (hte : e ≠ e') : v.ownBlock = none ∨ v.ownBlock ≠ v'.ownBlock := by
  rcases h'.2 with ⟨rfl, _⟩ | ⟨g', cap, cur, rfl, _, hg, _⟩
  · rcases h.2 with ⟨rfl, _⟩ | ⟨g, _, _, rfl, _⟩
    · exact .inl rfl
    · exact .inr (by simp [Value.ownBlock])
  · have hb : Blk w g' e' cur := hg
    exact ownsRow_ne_blk h hb hte
theorem row_ne_blk {w : World} {base : Nat} {e t : TypeId} {size n g : Nat} {v : Value} {xs : List Value} {cs : Array Value} (h : w.ownsRow base e size v n xs) (hb : Blk w g t cs) (hte : e ≠ t) : some g ≠ v.ownBlock := by
  rcases ownsRow_ne_blk h hb hte with h1 | h1
  · rw [h1]; simp
  · exact fun he => h1 he.symm
theorem Blk.grown_ {w w1 : World} {g : Nat} {t : TypeId} {cs : Array Value} {row : Option Nat} (h : Blk w g t cs) (hg : w.grownBy w1 row) (hne : some g ≠ row) : Blk w1 g t cs := (hg.block g h.lt hne).trans h
section
variable {P : Program} {W : World}
/-- append(v, u) of one cell: the goal's world is the variadic's box laid. -/
theorem wpList_app1V {ops : Array Oper} {rest : List Oper} {o : Oper} {a : Act} {Q : Exit → Act → World → Prop} (hgd : o.guard = none) (s x : Operand) (t : TypeId)
    (ho : o.op = .call { callee := .builtin .append, args := #[s, x], argTypes := #[t, t] })
    (base : Nat) (e : TypeId) (z : Value) (bytes : Nat) (ht : P.underlying t = some (.slice e)) (hinfo : (P.info? e).map (fun i => (i.zero, i.size, i.bytes)) = some (some z, 1, bytes))
    (hzs : z.cells.size = 1) (hb0 : 0 < bytes) (v : Value) (q : List Value) (hs : a.eval s = v) (hown : OwnV W base e v q) (y u : Value) (hy : y = u) (hu : u.oneCell' = true)
    (hx : a.eval x = .slice (some ⟨W.heap.size, 0, none⟩) 1 1) (hl : (q.length + 1) * bytes ≤ 140737488355328) (hbase : base ≤ W.heap.size)
    (h : ∀ v1 w1, OwnV w1 base e v1 (q ++ [u]) → W.grownBy w1 v.ownBlock → wpList P ops Q rest (a.put o.dst v1) w1) :
    wpList P ops Q (o :: rest) a (W.alloc (.cells #[y] e)) := by
  subst hy
  have hr : Src (W.alloc (.cells #[y] e)) (some ⟨W.heap.size, 0, none⟩) 1 1 [y] := by
    refine ⟨rfl, fun _ => ⟨_, rfl, by simp, fun j u' hu' => ?_⟩⟩
    have hj0 : j = 0 := by
      rcases Nat.eq_zero_or_pos j with h0 | h0
      · exact h0
      · rw [List.getElem?_eq_none (show [y].length ≤ j from h0)] at hu'; cases hu'
    subst hj0
    have ha : (⟨W.heap.size, 0, none⟩ : Addr).add 0 = ⟨W.heap.size, 0, none⟩ := by unfold Addr.add; simp
    rw [ha, cell_of_row _ _ _ _ _ _ (heap_alloc_new W _)]
    simpa using hu'
  have hO : OwnV (W.alloc (.cells #[y] e)) base e v q := World.ownsRow.alloc hown _
  refine wpList_app hgd s x t ho base e z 1 bytes ht hinfo hzs (by decide) hb0 v q.length q hs hO _ 1 1 [y] hx hr (by intro u' hu'; rw [List.mem_singleton] at hu'; subst hu'; exact hu) hl (by simp; omega) ?_
  intro v1 w1 h1 h2 _
  exact h v1 w1 (by unfold OwnV; rw [List.length_append]; exact h1) ⟨h2.os, h2.tape, h2.output, Nat.le_trans (by simp) h2.size, fun k hk hne => (h2.block k (by simp; omega) hne).trans (Below.heap_alloc W _ k hk)⟩
end
/-! the digests: a block, the bytes added so far, the slice that holds them -/
abbrev DgS := Nat × List Nat × Value
def StD (w : World) (base : Nat) (S : List DgS) : Prop :=
  ∀ (j : Nat) (s : DgS), S[j]? = some s → Dig w s.1 (CrcM.upd CrcM.ones s.2.1) s.2.1.length ∧ base ≤ s.1 ∧ OwnB w base 5 s.2.2 s.2.1 ∧ CrcM.Bytes s.2.1
def StI (S : List DgS) : Prop := ∀ (i j : Nat) (a b : DgS), S[i]? = some a → S[j]? = some b → a.1 = b.1 → i = j
def ptrs (S : List DgS) : List Value := S.map fun s => .pointer (some ⟨s.1, 0, none⟩)
def vals (S : List DgS) : List Value := S.map fun s => s.2.2
theorem ptrs_get {S : List DgS} {j : Nat} {s : DgS} (h : S[j]? = some s) : (ptrs S)[j]? = some (.pointer (some ⟨s.1, 0, none⟩)) := by simp [ptrs, h]
theorem vals_get {S : List DgS} {j : Nat} {s : DgS} (h : S[j]? = some s) : (vals S)[j]? = some s.2.2 := by simp [vals, h]
theorem ptrs_len (S : List DgS) : (ptrs S).length = S.length := by simp [ptrs]
theorem vals_len (S : List DgS) : (vals S).length = S.length := by simp [vals]
theorem StD.below {w w1 : World} {base : Nat} {S : List DgS} (h : StD w base S) (hb : Below w.heap.size w w1) : StD w1 base S := fun j s hs => by
  obtain ⟨h1, h2, h3, h4⟩ := h j s hs
  exact ⟨Blk.below h1 hb (Blk.lt h1), h2, h3.below hb, h4⟩
/-- a row of another type grows -/
theorem StD.app {w w1 : World} {base : Nat} {S : List DgS} (h : StD w base S) {b' size n : Nat} {e : TypeId} {v : Value} {xs : List Value} (hO : w.ownsRow b' e size v n xs) (h52 : e ≠ 52) (h5 : (5 : TypeId) ≠ e) (hg : w.grownBy w1 v.ownBlock) : StD w1 base S := fun j s hs => by
  obtain ⟨h1, h2, h3, h4⟩ := h j s hs
  exact ⟨Blk.grown_ h1 hg (row_ne_blk hO h1 h52), h2, World.ownsRow.kept h3 hg (ownsRow_ne_row h3 hO h5), h4⟩
theorem StD.set_ {w : World} {base : Nat} {S : List DgS} (h : StD w base S) {g i : Nat} {e : TypeId} {cur : Array Value} (hb : Blk w g e cur) (h52 : e ≠ 52) (h5 : (5 : TypeId) ≠ e) (u : Value) : StD (w.setCell ⟨g, i, none⟩ u) base S := fun j s hs => by
  obtain ⟨h1, h2, h3, h4⟩ := h j s hs
  have hne : s.1 ≠ g := fun e1 => by
    unfold Dig Blk at h1
    unfold Blk at hb
    rw [e1, hb] at h1
    injection h1 with h1
    injection h1 with _ h1 _
    exact h52 h1
  refine ⟨Blk.far h1 (p := ⟨g, i, none⟩) hne u, h2, ?_, h4⟩
  exact World.ownsRow.kept h3 (row := some g) ⟨by simp [World.setCell], by simp [World.setCell], by simp [World.setCell], by simp [World.setCell], fun k _ hk => Below.heap_setCell w _ u k (fun e => hk (by rw [e]))⟩ (ownsRow_ne_blk h3 hb h5)
/-- bytes are added to one digest -/
theorem StD.write {w w1 : World} {base : Nat} {S : List DgS} (h : StD w base S) (hI : StI S) {k : Nat} {s : DgS} (hs : S[k]? = some s) (hg : w.grownBy w1 (some s.1)) :
    ∀ (j : Nat) (a : DgS), S[j]? = some a → (j ≠ k → Dig w1 a.1 (CrcM.upd CrcM.ones a.2.1) a.2.1.length) ∧ base ≤ a.1 ∧ OwnB w1 base 5 a.2.2 a.2.1 ∧ CrcM.Bytes a.2.1 := fun j a ha => by
  obtain ⟨h1, h2, h3, h4⟩ := h j a ha
  obtain ⟨d1, _⟩ := h k s hs
  refine ⟨fun hjk => Blk.grown_ h1 hg (fun e => ?_), h2, World.ownsRow.kept h3 hg (ownsRow_ne_blk h3 d1 (by decide)), h4⟩
  injection e with e
  exact hjk (hI j k a s ha hs e)
theorem StI.set {S : List DgS} (hI : StI S) {k : Nat} {s s' : DgS} (hs : S[k]? = some s) (he : s'.1 = s.1) : StI (S.set k s') := fun i j a b ha hb hab => by
  have key : ∀ (i : Nat) (a : DgS), (S.set k s')[i]? = some a → ∃ a' : DgS, S[i]? = some a' ∧ a'.1 = a.1 := fun i a ha => by
    rw [List.getElem?_set] at ha
    split at ha
    · rename_i hk
      subst hk
      split at ha
      · injection ha with ha
        subst ha
        exact ⟨s, hs, he.symm⟩
      · cases ha
    · exact ⟨a, ha, rfl⟩
  obtain ⟨a', h1, e1⟩ := key i a ha
  obtain ⟨b', h2, e2⟩ := key j b hb
  exact hI i j a' b' h1 h2 (by rw [e1, e2, hab])
theorem StI.snoc {S : List DgS} (hI : StI S) {s : DgS} (hn : ∀ (j : Nat) (a : DgS), S[j]? = some a → a.1 ≠ s.1) : StI (S ++ [s]) := fun i j a b ha hb hab => by
  have key : ∀ (i : Nat) (a : DgS), (S ++ [s])[i]? = some a → (i < S.length ∧ S[i]? = some a) ∨ (i = S.length ∧ a = s) := fun i a ha => by
    rw [List.getElem?_append] at ha
    split at ha
    · rename_i h; exact .inl ⟨h, ha⟩
    · rename_i h
      rcases Nat.eq_zero_or_pos (i - S.length) with h0 | h0
      · rw [h0] at ha
        simp at ha
        exact .inr ⟨by omega, ha.symm⟩
      · rw [List.getElem?_eq_none (by simp; omega)] at ha; cases ha
  rcases key i a ha with ⟨h1, h2⟩ | ⟨h1, h2⟩ <;> rcases key j b hb with ⟨h3, h4⟩ | ⟨h3, h4⟩
  · exact hI i j a b h2 h4 hab
  · subst h4; exact absurd hab (hn i a h2)
  · subst h2; exact absurd hab.symm (hn j b h4)
  · omega
/-- one digest has taken bytes, and its slice is a new one -/
theorem StD.written {w w3 w5 : World} {base k gk : Nat} {S : List DgS} {pk p : List Nat} {vk v5 : Value} (h : StD w base S) (hI : StI S) (hS : S[k]? = some (gk, pk, vk)) (hg : w.grownBy w3 (some gk))
    (hD : Dig w3 gk (CrcM.upd CrcM.ones (pk ++ p)) (pk ++ p).length) (hB : Below w3.heap.size w3 w5) (hO5 : OwnB w5 w3.heap.size 5 v5 (pk ++ p)) (hbase : base ≤ w3.heap.size) (hp : CrcM.Bytes (pk ++ p)) : StD w5 base (S.set k (gk, pk ++ p, v5)) := fun j s hs => by
  rw [List.getElem?_set] at hs
  split at hs
  · rename_i hk
    subst hk
    split at hs
    · injection hs with hs
      subst hs
      exact ⟨Blk.below hD hB (Blk.lt hD), (h k _ hS).2.1, World.ownsRow.mono hO5 hbase, hp⟩
    · cases hs
  · rename_i hk
    obtain ⟨h1, h2, h3, h4⟩ := h.write hI hS hg j s hs
    have h1 := h1 (fun e => hk e.symm)
    exact ⟨Blk.below h1 hB (Blk.lt h1), h2, h3.below hB, h4⟩
theorem StD.snoc {w : World} {base : Nat} {S : List DgS} (h : StD w base S) {s : DgS} (hs : Dig w s.1 (CrcM.upd CrcM.ones s.2.1) s.2.1.length ∧ base ≤ s.1 ∧ OwnB w base 5 s.2.2 s.2.1 ∧ CrcM.Bytes s.2.1) : StD w base (S ++ [s]) := fun j a ha => by
  rw [List.getElem?_append] at ha
  split at ha
  · exact h j a ha
  · rcases Nat.eq_zero_or_pos (j - S.length) with h0 | h0
    · rw [h0] at ha
      simp at ha
      subst ha
      exact hs
    · rw [List.getElem?_eq_none (by simp; omega)] at ha; cases ha
theorem ptrs_set {S : List DgS} {k : Nat} {s s' : DgS} (hs : S[k]? = some s) (he : s'.1 = s.1) : ptrs (S.set k s') = ptrs S := by
  unfold ptrs
  rw [List.map_set]
  apply List.ext_getElem?
  intro i
  rw [List.getElem?_set]
  split
  · rename_i hk
    subst hk
    split
    · simp [hs, he]
    · rename_i h; rw [List.getElem?_eq_none (by omega)]
  · rfl
theorem vals_set (S : List DgS) (k : Nat) (s : DgS) : vals (S.set k s) = (vals S).set k s.2.2 := by
  unfold vals; rw [List.map_set]
theorem ptrs_snoc (S : List DgS) (s : DgS) : ptrs (S ++ [s]) = ptrs S ++ [.pointer (some ⟨s.1, 0, none⟩)] := by unfold ptrs; simp
theorem vals_snoc (S : List DgS) (s : DgS) : vals (S ++ [s]) = vals S ++ [s.2.2] := by unfold vals; simp
theorem grown_set (w : World) (g i : Nat) (u : Value) : w.grownBy (w.setCell ⟨g, i, none⟩ u) (some g) :=
  ⟨by simp [World.setCell], by simp [World.setCell], by simp [World.setCell], by simp [World.setCell], fun k _ hk => Below.heap_setCell w _ u k (fun e => hk (by rw [e]))⟩
attribute [irreducible] ptrs vals
theorem info42 : (Try.prog.info? 42).map (fun i => (i.zero, i.size, i.bytes)) = some (some (.pointer none), 1, 8) := by kernel_rfl
theorem info22 : (Try.prog.info? 22).map (fun i => (i.zero, i.size, i.bytes)) = some (some (.slice none 0 0), 1, 24) := by kernel_rfl
end Go.Proofs.Ytebipgpbpgoocaa
