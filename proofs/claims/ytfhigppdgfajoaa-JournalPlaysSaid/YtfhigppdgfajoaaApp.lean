/- append onto a row of the call's own, the source nil, empty or not; rows of bytes. -/
import Derived.Test.YtfhigppdgfajoaaBase
import Derived.Maps.AppendAt
import Derived.Deep.AppendLies
namespace Go.Proofs.Ytfhigppdgfajoaa
open Go.RowKit
/-- A slice value's cells, nil let in. -/
def Src (w : World) (A : Option Addr) (m size : Nat) (news : List Value) : Prop :=
  news.length = m * size ∧ (0 < m → ∃ ad : Addr, A = some ad ∧ ad.block < w.heap.size ∧ ∀ j u, news[j]? = some u → w.cell? (ad.add j) = some u)
section
variable {P : Program} {w : World}
theorem run_app_nil (base : Nat) (t ty e : TypeId) (i : TypeInfo) (size : Nat) (ht : P.underlying t = some (.slice e)) (hi : P.info? e = some i)
    (v : Value) (n : Nat) (xs : List Value) (hown : w.ownsRow base e size v n xs) (c : Nat) : (Builtin.append_ #[t, t] ty #[v, .slice none 0 c]).run P w = .ok v w := by
  rcases hown.2 with ⟨rfl, rfl⟩ | ⟨g, cap, cur, rfl, _, _, hnc, _⟩
  · simp [Builtin.append_, run_underlying ht, sizeOf, typeInfo, hi, Builtin.lenOf, Builtin.firstCells]
  · simp [Builtin.append_, run_underlying ht, sizeOf, typeInfo, hi, Builtin.lenOf, Builtin.firstCells, hnc, storeCells]
theorem run_app (base : Nat) (t ty e : TypeId) (z : Value) (size bytes : Nat) (ht : P.underlying t = some (.slice e)) (hinfo : (P.info? e).map (fun i => (i.zero, i.size, i.bytes)) = some (some z, size, bytes))
    (hzs : z.cells.size = size) (hsz : 0 < size) (hb0 : 0 < bytes) (v : Value) (n : Nat) (xs : List Value) (hown : w.ownsRow base e size v n xs)
    (A : Option Addr) (m c : Nat) (news : List Value) (hr : Src w A m size news) (h1 : ∀ u ∈ news, u.oneCell' = true) (hbytes : (n + m) * bytes ≤ 140737488355328) (hbase : base ≤ w.heap.size) :
    ∃ v' w', (Builtin.append_ #[t, t] ty #[v, .slice A m c]).run P w = .ok v' w' ∧ w'.ownsRow base e size v' (n + m) (xs ++ news) ∧ w.grownBy w' v.ownBlock ∧ (v'.ownBlock = v.ownBlock ∨ v'.ownBlock = some w.heap.size) := by
  obtain ⟨i, hi, hzz⟩ := Option.map_eq_some_iff.1 hinfo
  simp only [Prod.mk.injEq] at hzz
  obtain ⟨hz, hz1, hz2⟩ := hzz
  have h63 : n + m ≤ maxLen := by
    have := Nat.le_mul_of_pos_right (n + m) hb0
    simp only [maxLen]; omega
  rcases A with _ | ad
  · have hm : m = 0 := by
      rcases Nat.eq_zero_or_pos m with h0 | h0
      · exact h0
      · obtain ⟨ad, h, _⟩ := hr.2 h0
        cases h
    subst hm
    have hn : news = [] := List.eq_nil_of_length_eq_zero (by simpa using hr.1)
    subst hn
    exact ⟨v, w, run_app_nil base t ty e i size ht hi v n xs hown c, by simpa using hown, ⟨rfl, rfl, rfl, Nat.le_refl _, fun _ _ _ => rfl⟩, .inl rfl⟩
  · have hcells : ∀ j u, news[j]? = some u → w.cell? (ad.add j) = some u := by
      intro j u hu
      rcases Nat.eq_zero_or_pos m with h0 | h0
      · subst h0
        have hn : news = [] := List.eq_nil_of_length_eq_zero (by simpa using hr.1)
        subst hn
        simp at hu
      · obtain ⟨ad', h, _, hc⟩ := hr.2 h0
        injection h with h
        subst h
        exact hc j u hu
    obtain ⟨v', w', hrun, h2, h3, _, h5⟩ := run_append_own_at (P := P) w base t ty e i z size bytes ht hi hz hz1 hz2 hzs hsz v n xs hown ad m c news hr.1 hcells h1 h63 hbytes hbase
    exact ⟨v', w', hrun, h2, h3, h5⟩
theorem wpList_app {ops : Array Oper} {rest : List Oper} {o : Oper} {a : Act} {Q : Exit → Act → World → Prop} (hgd : o.guard = none) (s x : Operand) (t : TypeId)
    (ho : o.op = .call { callee := .builtin .append, args := #[s, x], argTypes := #[t, t] })
    (base : Nat) (e : TypeId) (z : Value) (size bytes : Nat) (ht : P.underlying t = some (.slice e)) (hinfo : (P.info? e).map (fun i => (i.zero, i.size, i.bytes)) = some (some z, size, bytes))
    (hzs : z.cells.size = size) (hsz : 0 < size) (hb0 : 0 < bytes) (v : Value) (n : Nat) (xs : List Value) (hs : a.eval s = v) (hown : w.ownsRow base e size v n xs)
    (A : Option Addr) (m c : Nat) (news : List Value) (hx : a.eval x = .slice A m c) (hr : Src w A m size news) (h1 : ∀ u ∈ news, u.oneCell' = true) (hbytes : (n + m) * bytes ≤ 140737488355328) (hbase : base ≤ w.heap.size)
    (h : ∀ v' w', w'.ownsRow base e size v' (n + m) (xs ++ news) → w.grownBy w' v.ownBlock → (v'.ownBlock = v.ownBlock ∨ v'.ownBlock = some w.heap.size) → wpList P ops Q rest (a.put o.dst v') w') : wpList P ops Q (o :: rest) a w := by
  refine wpList_plain hgd fun K hK => ?_
  obtain ⟨v', w', hrun, h2, h3, h4⟩ := run_app (P := P) base t o.type e z size bytes ht hinfo hzs hsz hb0 v n xs hown A m c news hr h1 hbytes hbase
  unfold Oper.wp execOp
  simp only [ho, resolve, invoke, builtin, Sem.run_bind, Sem.run_pure, Result.andThen_ok, List.map_toArray, List.map_cons, List.map_nil, hs, hx, hrun]
  exact hK _ _ (h v' w' h2 h3 h4)
end
/-- The cells of bytes. -/
def cellsB (p : List Nat) : List Value := p.map fun c => .int .u8 ((c : Nat) : Int)
theorem cellsB_len (p : List Nat) : (cellsB p).length = p.length := by simp [cellsB]
theorem cellsB_one (p : List Nat) : ∀ u ∈ cellsB p, u.oneCell' = true := by
  intro u hu
  obtain ⟨c, _, rfl⟩ := List.mem_map.1 hu
  rfl
theorem cellsB_app (p q : List Nat) : cellsB (p ++ q) = cellsB p ++ cellsB q := by simp [cellsB]
theorem cellsB_get (p : List Nat) (j : Nat) (hj : j < p.length) : (cellsB p)[j]? = some (.int .u8 ((p.getD j 0 : Nat) : Int)) := by
  simp [cellsB, List.getD_eq_getElem?_getD, List.getElem?_eq_getElem hj]
theorem Rd.src {w : World} {A : Option Addr} {p : List Nat} (h : Rd w A p) : Src w A p.length 1 (cellsB p) :=
  ⟨by rw [cellsB_len, Nat.mul_one], fun h0 => by
    obtain ⟨ad, e, hl, hc⟩ := h.2.2 h0
    refine ⟨ad, e, hl, fun j u hu => ?_⟩
    have hj : j < p.length := by
      rcases Nat.lt_or_ge j p.length with hj | hj
      · exact hj
      · rw [List.getElem?_eq_none (by rw [cellsB_len]; exact hj)] at hu; cases hu
    rw [cellsB_get p j hj] at hu
    injection hu with hu
    rw [← hu]; exact hc j hj⟩
/-- A row of bytes of the call's own. -/
def OwnB (w : World) (base : Nat) (e : TypeId) (v : Value) (p : List Nat) : Prop := w.ownsRow base e 1 v p.length (cellsB p)
theorem OwnB.nil (w : World) (base : Nat) (e : TypeId) : OwnB w base e (.slice none 0 0) [] := World.ownsRow_nil w base e 1
theorem OwnB.slice {w : World} {base : Nat} {e : TypeId} {v : Value} {p : List Nat} (h : OwnB w base e v p) (hp : p.length ≤ 140737488351232) (hb : ∀ c ∈ p, c < 256) : ∃ A c, v = .slice A p.length c ∧ Rd w A p := by
  rcases h.2 with ⟨rfl, h0⟩ | ⟨g, cap, cur, rfl, hg, hh, _⟩
  · refine ⟨none, 0, by rw [h0], hp, hb, fun h1 => by omega⟩
  · have hlt : g < w.heap.size := by
      rcases Nat.lt_or_ge g w.heap.size with hlt | hge
      · exact hlt
      · rw [Array.getElem?_eq_none hge] at hh; cases hh
    exact ⟨_, cap, rfl, hp, hb, fun _ => ⟨_, rfl, hlt, fun j hj => World.ownsRow.cells h (g := g) rfl j _ (cellsB_get p j hj)⟩⟩
theorem OwnB.base_ {w : World} {base : Nat} {e : TypeId} {v : Value} {p : List Nat} (h : OwnB w base e v p) : ∀ k, v.ownBlock = some k → base ≤ k := fun k hk => (World.ownsRow.lt h k hk).1
theorem OwnB.below {w w1 : World} {base : Nat} {e : TypeId} {v : Value} {p : List Nat} (h : OwnB w base e v p) (hb : Below w.heap.size w w1) : OwnB w1 base e v p :=
  World.ownsRow.kept h ⟨hb.os, hb.tape, hb.output, hb.size, fun i hi _ => hb.block i hi⟩ (row := none) (by cases v.ownBlock <;> simp)
section
variable {P : Program} {w : World}
theorem wpList_app_bytes {ops : Array Oper} {rest : List Oper} {o : Oper} {a : Act} {Q : Exit → Act → World → Prop} (hgd : o.guard = none) (s x : Operand) (t : TypeId)
    (ho : o.op = .call { callee := .builtin .append, args := #[s, x], argTypes := #[t, t] })
    (base : Nat) (e : TypeId) (ht : P.underlying t = some (.slice e)) (hinfo : (P.info? e).map (fun i => (i.zero, i.size, i.bytes)) = some (some (.int .u8 0), 1, 1))
    (v : Value) (q : List Nat) (hs : a.eval s = v) (hown : OwnB w base e v q)
    (A : Option Addr) (c : Nat) (p : List Nat) (hx : a.eval x = .slice A p.length c) (hr : Rd w A p) (hl : q.length + p.length ≤ 140737488355328) (hbase : base ≤ w.heap.size)
    (h : ∀ v' w', OwnB w' base e v' (q ++ p) → w.grownBy w' v.ownBlock → (v'.ownBlock = v.ownBlock ∨ v'.ownBlock = some w.heap.size) → wpList P ops Q rest (a.put o.dst v') w') : wpList P ops Q (o :: rest) a w :=
  wpList_app hgd s x t ho base e (.int .u8 0) 1 1 ht hinfo rfl (by decide) (by decide) v q.length (cellsB q) hs hown A p.length c (cellsB p) hx hr.src (cellsB_one p) (by omega) hbase
    fun v' w' h1 h2 h3 => h v' w' (by unfold OwnB; rw [List.length_append, cellsB_app]; exact h1) h2 h3
end
/-- Two rows that never share a block. -/
def Apart (v v' : Value) : Prop := ∀ k, v.ownBlock = some k → v'.ownBlock ≠ some k
theorem Apart.symm {v v' : Value} (h : Apart v v') : Apart v' v := fun k h1 h2 => h k h2 h1
theorem Apart.nil (v : Value) : Apart (.slice none 0 0) v := fun k h => by simp [Value.ownBlock] at h
theorem Apart.or {v v' : Value} (h : Apart v v') : v.ownBlock = none ∨ v.ownBlock ≠ v'.ownBlock := by
  cases hv : v.ownBlock with
  | none => exact .inl rfl
  | some k => exact .inr fun e => h k hv e.symm
theorem Apart.app {W : World} {base : Nat} {e : TypeId} {v v1 v' : Value} {p' : List Nat} (h : Apart v v') (hO : OwnB W base e v' p') (hat : v1.ownBlock = v.ownBlock ∨ ∃ b, v1.ownBlock = some b ∧ W.heap.size ≤ b) : Apart v1 v' := by
  intro k hk h'
  have hlt := (World.ownsRow.lt hO k h').2
  rcases hat with e1 | ⟨b, e1, hb⟩
  · exact h k (e1.symm.trans hk) h'
  · rw [e1] at hk; injection hk with hk; omega
theorem OwnB.kept {w w1 : World} {base : Nat} {e : TypeId} {v v' : Value} {p : List Nat} (h : OwnB w base e v p) (hg : w.grownBy w1 v'.ownBlock) (ha : Apart v v') : OwnB w1 base e v p := World.ownsRow.kept h hg ha.or
theorem below_grown {base : Nat} {w0 W w1 : World} {v : Value} {e : TypeId} {p : List Nat} (hb : Below base w0 W) (hB : base ≤ W.heap.size) (hO : OwnB W base e v p) (hg : W.grownBy w1 v.ownBlock) : Below base w0 w1 :=
  hb.grown hg hB (fun k hk => hO.base_ k hk)
section
variable {P : Program} {W : World}
/-- append(v, y) of one byte: the goal's world is the variadic's box laid. -/
theorem wpList_app1 {ops : Array Oper} {rest : List Oper} {o : Oper} {a : Act} {Q : Exit → Act → World → Prop} (hgd : o.guard = none) (s x : Operand) (t : TypeId)
    (ho : o.op = .call { callee := .builtin .append, args := #[s, x], argTypes := #[t, t] })
    (base : Nat) (e : TypeId) (ht : P.underlying t = some (.slice e)) (hinfo : (P.info? e).map (fun i => (i.zero, i.size, i.bytes)) = some (some (.int .u8 0), 1, 1))
    (v : Value) (q : List Nat) (hs : a.eval s = v) (hown : OwnB W base e v q) (y : Int) (c : Nat) (hy : y = c) (hc : c < 256)
    (hx : a.eval x = .slice (some ⟨W.heap.size, 0, none⟩) 1 1) (hl : q.length + 1 ≤ 140737488355328) (hbase : base ≤ W.heap.size)
    (h : ∀ v1 w1, OwnB w1 base e v1 (q ++ [c]) → W.grownBy w1 v.ownBlock → (v1.ownBlock = v.ownBlock ∨ ∃ b, v1.ownBlock = some b ∧ W.heap.size ≤ b) → wpList P ops Q rest (a.put o.dst v1) w1) :
    wpList P ops Q (o :: rest) a (W.alloc (.cells #[.int .u8 y] e)) := by
  subst hy
  have hr : Rd (W.alloc (.cells #[.int .u8 (c : Int)] e)) (some ⟨W.heap.size, 0, none⟩) [c] := by
    refine ⟨by simp, by simpa using hc, fun _ => ⟨_, rfl, by simp, fun j hj => ?_⟩⟩
    have hj0 : j = 0 := by simpa using hj
    subst hj0
    have ha : (⟨W.heap.size, 0, none⟩ : Addr).add 0 = ⟨W.heap.size, 0, none⟩ := by unfold Addr.add; simp
    rw [ha, cell_of_row _ _ _ _ _ _ (heap_alloc_new W _)]
    rfl
  have hO : OwnB (W.alloc (.cells #[.int .u8 (c : Int)] e)) base e v q := World.ownsRow.alloc hown _
  refine wpList_app_bytes hgd s x t ho base e ht hinfo v q hs hO _ 1 [c] hx hr (by simpa using hl) (by simp; omega) ?_
  intro v1 w1 h1 h2 h3
  refine h v1 w1 h1 ⟨h2.os, h2.tape, h2.output, Nat.le_trans (by simp) h2.size, fun k hk hne => ?_⟩ ?_
  · exact (h2.block k (by simp; omega) hne).trans (Below.heap_alloc W _ k hk)
  · rcases h3 with h3 | h3
    · exact .inl h3
    · exact .inr ⟨_, h3, by simp⟩
end
end Go.Proofs.Ytfhigppdgfajoaa
