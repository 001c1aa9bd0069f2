/- The walk of Append. -/
import Derived.Test.YtfhigppdgfajoaaByt
namespace Go.Proofs.Ytfhigppdgfajoaa
open Go.RowKit Go.MuLone
section
variable {P : Program} {w : World}
theorem wp_app {o : Oper} {a : Act} {K : Act → World → Prop} {Q : Exit → Act → World → Prop} (s x : Operand) (t : TypeId)
    (ho : o.op = .call { callee := .builtin .append, args := #[s, x], argTypes := #[t, t] })
    (base : Nat) (e : TypeId) (z : Value) (size bytes : Nat) (ht : P.underlying t = some (.slice e)) (hinfo : (P.info? e).map (fun i => (i.zero, i.size, i.bytes)) = some (some z, size, bytes))
    (hzs : z.cells.size = size) (hsz : 0 < size) (hb0 : 0 < bytes) (v : Value) (n : Nat) (xs : List Value) (hs : a.eval s = v) (hown : w.ownsRow base e size v n xs)
    (A : Option Addr) (m c : Nat) (news : List Value) (hx : a.eval x = .slice A m c) (hr : Src w A m size news) (h1 : ∀ u ∈ news, u.oneCell' = true) (hbytes : (n + m) * bytes ≤ 140737488355328) (hbase : base ≤ w.heap.size)
    (h : ∀ v' w', w'.ownsRow base e size v' (n + m) (xs ++ news) → w.grownBy w' v.ownBlock → (v'.ownBlock = v.ownBlock ∨ v'.ownBlock = some w.heap.size) → K (a.put o.dst v') w') : Oper.wp P o a w K Q := by
  obtain ⟨v', w', hrun, h2, h3, h4⟩ := run_app (P := P) base t o.type e z size bytes ht hinfo hzs hsz hb0 v n xs hown A m c news hr h1 hbytes hbase
  unfold Oper.wp execOp
  simp only [ho, resolve, invoke, builtin, Sem.run_bind, Sem.run_pure, Result.andThen_ok, List.map_toArray, List.map_cons, List.map_nil, hs, hx, hrun]
  exact h v' w' h2 h3 h4
end
/-- 'append([]byte{}, p...)', the empty row laid -/
theorem wp_fresh {W : World} {o : Oper} {a : Act} {K : Act → World → Prop} {Q : Exit → Act → World → Prop} (s x : Operand)
    (ho : o.op = .call { callee := .builtin .append, args := #[s, x], argTypes := #[22, 22] })
    (base : Nat) (hs : a.eval s = .slice (some ⟨W.heap.size, 0, none⟩) 0 0) (A : Option Addr) (c : Nat) (p : List Nat) (hx : a.eval x = .slice A p.length c) (hr : Rd W A p) (hbase : base ≤ W.heap.size)
    (h : ∀ v1 w1, OwnB w1 base 5 v1 p → Below W.heap.size W w1 → K (a.put o.dst v1) w1) :
    Oper.wp Try.prog o a (W.alloc (.cells #[] 5)) K Q := by
  have hb0 : Below W.heap.size W (W.alloc (.cells #[] 5)) := (Below.refl _ _).alloc (Nat.le_refl _) _
  refine wp_app s x 22 ho base 5 (.int .u8 0) 1 1 Try.underlying22 info5 rfl (by decide) (by decide) (.slice (some ⟨W.heap.size, 0, none⟩) 0 0) 0 [] hs (World.ownsRow_made W #[] 0 hbase (by decide) rfl) A p.length c (cellsB p) hx (hr.below hb0 (Nat.le_refl _)).src (cellsB_one p) (by have := hr.1; omega) (by simp; omega) ?_
  intro v1 w1 h1 h2 _
  rw [List.nil_append, Nat.zero_add] at h1
  exact h v1 w1 h1 (hb0.grown h2 (by simp) (fun z hz => by simp [Value.ownBlock] at hz; omega))
/-- append(v, u) of one slice: the goal's world is the variadic's box laid -/
theorem wp_app1V {W : World} {o : Oper} {a : Act} {K : Act → World → Prop} {Q : Exit → Act → World → Prop} (s x : Operand)
    (ho : o.op = .call { callee := .builtin .append, args := #[s, x], argTypes := #[27, 27] })
    (base : Nat) (v : Value) (q : List Value) (hs : a.eval s = v) (hown : OwnV W base 22 v q) (u : Value) (hu : u.oneCell' = true)
    (hx : a.eval x = .slice (some ⟨W.heap.size, 0, none⟩) 1 1) (hl : (q.length + 1) * 24 ≤ 140737488355328) (hbase : base ≤ W.heap.size)
    (h : ∀ v1 w1, OwnV w1 base 22 v1 (q ++ [u]) → W.grownBy w1 v.ownBlock → K (a.put o.dst v1) w1) :
    Oper.wp Try.prog o a (W.alloc (.cells #[u] 22)) K Q := by
  have hr : Src (W.alloc (.cells #[u] 22)) (some ⟨W.heap.size, 0, none⟩) 1 1 [u] := by
    refine ⟨rfl, fun _ => ⟨_, rfl, by simp, fun j u' hu' => ?_⟩⟩
    have hj0 : j = 0 := by
      rcases Nat.eq_zero_or_pos j with h0 | h0
      · exact h0
      · rw [List.getElem?_eq_none (show [u].length ≤ j from h0)] at hu'; cases hu'
    subst hj0
    have ha : (⟨W.heap.size, 0, none⟩ : Addr).add 0 = ⟨W.heap.size, 0, none⟩ := by unfold Addr.add; simp
    rw [ha, cell_of_row _ _ _ _ _ _ (heap_alloc_new W _)]
    simpa using hu'
  have hO : OwnV (W.alloc (.cells #[u] 22)) base 22 v q := World.ownsRow.alloc hown _
  refine wp_app s x 27 ho base 22 (.slice none 0 0) 1 24 Try.underlying27 info22 rfl (by decide) (by decide) v q.length q hs hO _ 1 1 [u] hx hr (by intro u' hu'; rw [List.mem_singleton] at hu'; subst hu'; exact hu) hl (by simp; omega) ?_
  intro v1 w1 h1 h2 _
  exact h v1 w1 (by unfold OwnV; rw [List.length_append]; exact h1) ⟨h2.os, h2.tape, h2.output, Nat.le_trans (by simp) h2.size, fun k hk hne => (h2.block k (by simp; omega) hne).trans (Below.heap_alloc W _ k hk)⟩
/-- All blocks below base, and all that are neither a journal nor a row of slices, are as they were. -/
def Bt (base : Nat) (w w' : World) : Prop :=
  w'.os = w.os ∧ w'.tape = w.tape ∧ w'.output = w.output ∧ w.heap.size ≤ w'.heap.size ∧ ∀ k, k < w.heap.size → (k < base ∨ ∃ t cs, Blk w k t cs ∧ t ≠ 64 ∧ t ≠ 22) → w'.heap[k]? = w.heap[k]?
theorem Bt.of_below {w w' : World} (base : Nat) (h : Below w.heap.size w w') : Bt base w w' := ⟨h.os, h.tape, h.output, h.size, fun k hk _ => h.block k hk⟩
theorem Bt.trans {base : Nat} {a b c : World} (h : Bt base a b) (k : Bt base b c) : Bt base a c := by
  obtain ⟨h1, h2, h3, h4, h5⟩ := h
  obtain ⟨k1, k2, k3, k4, k5⟩ := k
  refine ⟨k1.trans h1, k2.trans h2, k3.trans h3, by omega, fun i hi hor => ?_⟩
  have e := h5 i hi hor
  refine (k5 i (by omega) ?_).trans e
  rcases hor with hb | ⟨t, cs, hB, ht⟩
  · exact .inl hb
  · exact .inr ⟨t, cs, e.trans hB, ht⟩
theorem Bt.below {base : Nat} {w w' : World} (h : Bt base w w') (hb : base ≤ w.heap.size) : Below base w w' := ⟨h.1, h.2.1, h.2.2.1, h.2.2.2.1, fun k hk => h.2.2.2.2 k (by omega) (.inl hk)⟩
theorem Blk.bt {base g : Nat} {w w' : World} {t : TypeId} {cs : Array Value} (h : Blk w g t cs) (hb : Bt base w w') (h1 : t ≠ 64) (h2 : t ≠ 22) : Blk w' g t cs := (hb.2.2.2.2 g h.lt (.inr ⟨t, cs, h, h1, h2⟩)).trans h
theorem Bt.of_grown {w w' : World} {g base : Nat} {cs : Array Value} {t : TypeId} (h : w.grownBy w' (some g)) (hb : Blk w g t cs) (ht : t = 64 ∨ t = 22) (hg : base ≤ g) : Bt base w w' :=
  ⟨h.os, h.tape, h.output, h.size, fun k hk hor => h.block k hk (by
    intro e
    injection e with e
    subst e
    rcases hor with hlt | ⟨t', cs', hB, h1, h2⟩
    · omega
    · unfold Blk at hb hB
      rw [hb] at hB
      injection hB with hB
      injection hB with _ hB _
      rcases ht with rfl | rfl
      · exact h1 hB.symm
      · exact h2 hB.symm)⟩
theorem Bt.of_row {w w' : World} {base : Nat} {v : Value} {xs : List Value} (h : w.grownBy w' v.ownBlock) (hv : OwnV w base 22 v xs) : Bt base w w' := by
  rcases hv.2 with ⟨rfl, _⟩ | ⟨g, cap, cur, rfl, hg, hb, _⟩
  · exact ⟨h.os, h.tape, h.output, h.size, fun k hk _ => h.block k hk (by simp [Value.ownBlock])⟩
  · have hb' : Blk w g 22 cur := hb
    exact Bt.of_grown (g := g) h hb' (.inr rfl) hg
/-- the error of Append -/
def apE (ps : List (List Nat)) (p : List Nat) : Nat :=
  if 4194304 < p.length then 4 else if 65536 ≤ ps.length ∨ 16777216 < sz ps + p.length + 8 then 16 else 0
def apS (ps : List (List Nat)) (p : List Nat) : List (List Nat) := if apE ps p = 0 then ps ++ [p] else ps
/-- locked, and unlocked -/
theorem lock_none {w : World} {g base : Nat} {ps : List (List Nat)} (h : Jr w base g ps) : Jr ((w.setCell ⟨g, 0, none⟩ (.int .i32 1)).setCell ⟨g, 0, none⟩ (.int .i32 0)) base g ps ∧ Below w.heap.size w ((w.setCell ⟨g, 0, none⟩ (.int .i32 1)).setCell ⟨g, 0, none⟩ (.int .i32 0)) := by
  obtain ⟨h1, h2, v, h3, h4⟩ := h
  have hB := (lock_frame h3 (Below.refl _ _)).2
  exact ⟨⟨h1, h2, v, h3.below hB h3.lt, h4.below hB⟩, hB⟩
theorem Rd.grown64 {w w' : World} {A : Option Addr} {p : List Nat} {g n : Nat} {st : Int} {v : Value} (h : Rd w A p) (hb : Blk w g 64 (jrA st v n)) (hv : v ≠ .int .u8 ((p.getD 0 0 : Nat) : Int)) (hg : w.grownBy w' (some g)) : Rd w' A p :=
  ⟨h.1, h.2.1, fun h0 => by
    obtain ⟨ad, e, hl, hc⟩ := h.2.2 h0
    have hne : ad.block ≠ g := by
      intro he
      have h1 := hc 0 h0
      have hbl : (ad.add 0).block = g := by unfold Addr.add; split <;> exact he
      unfold World.cell? at h1
      rw [hbl, show w.heap[g]? = some (.cells (jrA st v n) 64 (0, 0)) from hb] at h1
      generalize (ad.add 0).off = i at h1
      unfold jrA at h1
      rcases i with _ | _ | _ | _ | _ | i <;> simp at h1
      exact hv (by simpa using h1.2)
    refine ⟨ad, e, Nat.lt_of_lt_of_le hl hg.size, fun j hj => ?_⟩
    have hbl : (ad.add j).block = ad.block := by unfold Addr.add; split <;> rfl
    exact hg.cell (hc j hj) (by rw [hbl]; intro e; injection e with e; exact hne e)⟩
set_option maxRecDepth 100000 in
set_option maxHeartbeats 4000000 in
theorem append_any (base g : Nat) (ps : List (List Nat)) (A : Option Addr) (p : List Nat) (cap : Nat) (w : World) (hj : Jr w base g ps) (hr : Rd w A p) :
    Calls Try.prog 21 #[.pointer (some ⟨g, 0, none⟩), .slice A p.length cap] w fun e w' => e = .returned (.int .i64 ((apE ps p : Nat) : Int)) ∧ Jr w' base g (apS ps p) ∧ Bt base w w' := by
  have HJ := Lib.hid hj
  obtain ⟨hbg, ⟨hp1, hp2, hp3⟩, v, hb, hO⟩ := hj
  have hpl := hr.1
  have HR := Lib.hid hr
  have HP3 := Lib.hid hp3
  have hO1 : OwnS (w.setCell ⟨g, 0, none⟩ (.int .i32 1)) base v ps := hO.kept64 hb (grown_lock _ _ _)
  obtain ⟨xs, hxl, hV, hX⟩ := hO1
  obtain ⟨Ao, co, hv⟩ := hV.slice
  rw [hxl] at hv
  subst hv
  have hb1 : Blk (w.setCell ⟨g, 0, none⟩ (.int .i32 1)) g 64 (jrA 1 (.slice Ao ps.length co) (sz ps)) := hb.set_ 0 _
  obtain ⟨c0, c2, c3, c4, cf⟩ := jr_cells hb
  have C0 := Lib.hid c0
  have CF := Lib.hid cf
  have HXL := Lib.hid hxl
  have HB := Lib.hid hb
  obtain ⟨s, hs⟩ : ∃ s, Hid (s = sz ps) := ⟨_, Lib.hid rfl⟩
  rw [← hs.out] at hp2 hb1 HB
  clear hO hb c0 c2 c3 c4 cf hp3 hr hxl
  go_enter_defers Try.func21, Try.ntmps21
  by_cases h4 : 4194304 < p.length
  · have hd : decide (4194304 < (p.length : Int)) = true := decide_eq_true (by omega)
    have hd' : decide (4194304 < p.length) = true := decide_eq_true h4
    have HE := Lib.hid (show apE ps p = 4 by unfold apE; rw [if_pos h4])
    have HS := Lib.hid (show apS ps p = ps by unfold apS; rw [HE.out]; rfl)
    go_wp2_with (go_at_call 31; refine (lock_free muLib ⟨g, 0, none⟩ _ C0.out (CF.out 0)).mono ?_; rintro e w1 ⟨rfl, h31⟩; rw [← h31] at hV hb1 hX; have H31 := Lib.hid h31; clear h31; obtain ⟨_, d2, d3, d4, df⟩ := jr_cells hb1)
    refine leaves_cons (f := 32) (args := #[.pointer (some ⟨g, 0, none⟩)]) (by simp) (by simp [go_sem]) ?_
    refine (unlock_deferred muLib ⟨g, 0, none⟩ .returning _ (jr_cells hb1).1 ((hb1).frozen 0)).mono ?_
    rintro e u' w'' ⟨rfl, rfl, rfl⟩
    refine ⟨_, results_tmp rfl _ _ _, ?_⟩
    rw [HE.out]
    have hln := lock_none HJ.out
    rw [← H31.out] at hln
    exact ⟨rfl, by rw [HS.out]; exact hln.1, Bt.of_below _ hln.2⟩
  · have hd : decide (4194304 < (p.length : Int)) = false := decide_eq_false (by omega)
    have hd' : decide (4194304 < p.length) = false := decide_eq_false h4
    obtain ⟨k, hk⟩ : ∃ k : Nat, Hid (k = s + p.length) := ⟨_, Lib.hid rfl⟩
    obtain ⟨m, hm⟩ : ∃ m : Nat, Hid (m = k + 8) := ⟨_, Lib.hid rfl⟩
    obtain ⟨l, hl⟩ : ∃ l : Nat, Hid (l = p.length + 8) := ⟨_, Lib.hid rfl⟩
    have hw1 : IntKind.i64.wrap ((s : Int) + (p.length : Int)) = (k : Int) := by rw [IntKind.wrap_i64]; have := hk.out; omega
    have hw2 : IntKind.i64.wrap ((k : Int) + 8) = (m : Int) := by rw [IntKind.wrap_i64]; have := hk.out; have := hm.out; omega
    have hw3 : IntKind.i64.wrap ((p.length : Int) + 8) = (l : Int) := by rw [IntKind.wrap_i64]; have := hl.out; omega
    have hw4 : IntKind.i64.wrap ((s : Int) + (l : Int)) = (m : Int) := by rw [IntKind.wrap_i64]; have := hl.out; have := hk.out; have := hm.out; omega
    by_cases hfull : 65536 ≤ ps.length
    · have hf : decide (65536 ≤ (ps.length : Int)) = true := decide_eq_true (by omega)
      have hf' : decide (65536 ≤ ps.length) = true := decide_eq_true hfull
      have HE := Lib.hid (show apE ps p = 16 by unfold apE; rw [if_neg h4, if_pos (.inl hfull)])
      have HS := Lib.hid (show apS ps p = ps by unfold apS; rw [HE.out]; rfl)
      go_wp2_with (go_at_call 31; refine (lock_free muLib ⟨g, 0, none⟩ _ C0.out (CF.out 0)).mono ?_; rintro e w1 ⟨rfl, h31⟩; rw [← h31] at hV hb1 hX; have H31 := Lib.hid h31; clear h31; obtain ⟨_, d2, d3, d4, df⟩ := jr_cells hb1)
      refine leaves_cons (f := 32) (args := #[.pointer (some ⟨g, 0, none⟩)]) (by simp) (by simp [go_sem]) ?_
      refine (unlock_deferred muLib ⟨g, 0, none⟩ .returning _ (jr_cells hb1).1 ((hb1).frozen 0)).mono ?_
      rintro e u' w'' ⟨rfl, rfl, rfl⟩
      refine ⟨_, results_tmp rfl _ _ _, ?_⟩
      rw [HE.out]
      have hln := lock_none HJ.out
      rw [← H31.out] at hln
      exact ⟨rfl, by rw [HS.out]; exact hln.1, Bt.of_below _ hln.2⟩
    · have hf : decide (65536 ≤ (ps.length : Int)) = false := decide_eq_false (by omega)
      have hf' : decide (65536 ≤ ps.length) = false := decide_eq_false hfull
      by_cases hbig : 16777216 < m
      · have hg : decide (16777216 < (m : Int)) = true := decide_eq_true (by omega)
        have hg' : decide (16777216 < m) = true := decide_eq_true hbig
        have HE := Lib.hid (show apE ps p = 16 by unfold apE; rw [if_neg h4, if_pos (.inr (by have := hs.out; have := hk.out; have := hm.out; omega))])
        have HS := Lib.hid (show apS ps p = ps by unfold apS; rw [HE.out]; rfl)
        go_wp2_with (go_at_call 31; refine (lock_free muLib ⟨g, 0, none⟩ _ C0.out (CF.out 0)).mono ?_; rintro e w1 ⟨rfl, h31⟩; rw [← h31] at hV hb1 hX; have H31 := Lib.hid h31; clear h31; obtain ⟨_, d2, d3, d4, df⟩ := jr_cells hb1)
        refine leaves_cons (f := 32) (args := #[.pointer (some ⟨g, 0, none⟩)]) (by simp) (by simp [go_sem]) ?_
        refine (unlock_deferred muLib ⟨g, 0, none⟩ .returning _ (jr_cells hb1).1 ((hb1).frozen 0)).mono ?_
        rintro e u' w'' ⟨rfl, rfl, rfl⟩
        refine ⟨_, results_tmp rfl _ _ _, ?_⟩
        rw [HE.out]
        have hln := lock_none HJ.out
        rw [← H31.out] at hln
        exact ⟨rfl, by rw [HS.out]; exact hln.1, Bt.of_below _ hln.2⟩
      · have hg : decide (16777216 < (m : Int)) = false := decide_eq_false (by omega)
        have hg' : decide (16777216 < m) = false := decide_eq_false hbig
        have HE := Lib.hid (show apE ps p = 0 by unfold apE; rw [if_neg h4, if_neg (by have := hs.out; have := hk.out; have := hm.out; omega)])
        have HS := Lib.hid (show apS ps p = ps ++ [p] by unfold apS; rw [HE.out]; rfl)
        go_wp2_with (go_at_call 31; refine (lock_free muLib ⟨g, 0, none⟩ _ C0.out (CF.out 0)).mono ?_; rintro e w1 ⟨rfl, h31⟩; rw [← h31] at hV hb1 hX; have H31 := Lib.hid h31; clear h31; obtain ⟨_, d2, d3, d4, df⟩ := jr_cells hb1)
        have hBC : Below w1.heap.size w1 w1.drew := (Below.refl _ _).drew
        refine wp_region_seq (S := fun w' => Blk w' g 64 (jrA 1 (.slice Ao ps.length co) s)) 10 [(0, true), (1, true), (2, true), (3, true), (4, true), (6, true), (5, false), (7, false), (8, false), (9, false)] (by kernel_rfl) rfl (by kernel_rfl) (hb1.below hBC hb1.lt) ?_
        generalize w1.drew = wd at hBC ⊢
        simp only [List.map_cons, List.map_nil, List.getD_cons_succ, List.getD_cons_zero, List.drop_succ_cons, List.drop_zero]
        have HV := Lib.hid hV
        have HX := Lib.hid hX
        have hbd := hb1.below hBC hb1.lt
        have HB1 := Lib.hid hb1
        clear hV hX hb1 d2 d3 d4 df
        iterate 6
          refine wpSeq_take (v := ?_) (by rfl) ?_ ?_
          rotate_left
          · intro w' hw'
            have k3 := (jr_cells hw').2.2.1
            clear hw'
            go_simp
            try with_reducible rfl
          simp only [Act.put, List.setIfInBounds_toArray, List.set_cons_zero, List.set_cons_succ]
        refine wpSeq_step fun K hK => ?_
        go_simp
        refine hK.out _ _ (hbd.alloc _) ?_
        clear hK K
        try simp only [Act.put, List.setIfInBounds_toArray, List.set_cons_zero, List.set_cons_succ]
        refine wpSeq_step fun K hK => ?_
        rw [if_pos (by rfl)]
        have hbdl := hbd.lt
        have hRd : Rd wd A p := by
          have h31 := H31.out
          have h1 : Rd w1 A p := by
            rw [h31]
            exact HR.out.grown64 HB.out (by simp) (grown_lock w g _)
          exact h1.below hBC (Nat.le_refl _)
        refine wp_fresh _ _ rfl base rfl A cap p rfl hRd (by omega) ?_
        intro v3 w3 hO3 hB3
        have hb3 := hbd.below hB3 hbdl
        obtain ⟨A3, c3, rfl, _⟩ := hO3.slice (by omega) HR.out.2.1
        refine hK.out _ _ hb3 ?_
        clear hK K
        try simp only [Act.put, List.setIfInBounds_toArray, List.set_cons_zero, List.set_cons_succ]
        refine wpSeq_step fun K hK => ?_
        go_simp
        refine hK.out _ _ (hb3.alloc _) ?_
        clear hK K
        try simp only [Act.put, List.setIfInBounds_toArray, List.set_cons_zero, List.set_cons_succ]
        refine wpSeq_step fun K hK => ?_
        rw [if_pos (by rfl)]
        have hB13 := hBC.trans (hB3.mono hBC.size)
        have hV3 := HV.out.below hB13
        have hX3 : ∀ (j : Nat) (u : Value) (p : List Nat), xs[j]? = some u → ps[j]? = some p → OwnB w3 base 5 u p ∧ ∀ c ∈ p, c < 256 := fun j u p h1 h2 => ⟨(HX.out j u p h1 h2).1.below hB13, (HX.out j u p h1 h2).2⟩
        have hb3l := hb3.lt
        refine wp_app1V _ _ rfl base (.slice Ao ps.length co) xs rfl hV3 (.slice A3 p.length c3) rfl rfl (by rw [HXL.out]; omega) (by omega) ?_
        intro v5 w5 hO5 hg5
        have hb5 : Blk w5 g 64 (jrA 1 (.slice Ao ps.length co) s) := hb3.grown_ hg5 (row_ne_blk hV3 hb3 (by decide))
        have hOS5 := OwnS.app HXL.out hV3 hX3 hO3 HR.out.2.1 hO5 hg5
        obtain ⟨A5, c5, hv5⟩ := hOS5.slice
        rw [List.length_append, List.length_singleton] at hv5
        subst hv5
        refine hK.out _ _ hb5 ?_
        clear hK K
        try simp only [Act.put, List.setIfInBounds_toArray, List.set_cons_zero, List.set_cons_succ]
        refine wpSeq_nil ?_
        have HB5 := Lib.hid hb5
        have hf3 := hb5.frozen 3
        have k3 := hb5.cell 3
        have k3 : w5.cell? ⟨g, 3, none⟩ = some (.slice Ao ps.length co) := k3
        have HOS5 := Lib.hid hOS5
        have HT := Lib.hid (((Bt.of_below base hB13).trans (Bt.of_row hg5 hV3)))
        clear hb5 hOS5 hB13 hV3 hX3 hb3 hb3l hO3 hB3 hbd hbdl hRd hO5 hg5 hBC
        go_wp2_with fail
        refine NoPanic.normal ?_
        have hb6 : Blk (w5.setCell ⟨g, 3, none⟩ (.slice A5 (ps.length + 1) c5)) g 64 (jrA 1 (.slice A5 (ps.length + 1) c5) s) := HB5.out.set_ 3 _
        obtain ⟨w6, h6⟩ : ∃ w6, Hid (w6 = w5.setCell ⟨g, 3, none⟩ (.slice A5 (ps.length + 1) c5)) := ⟨_, Lib.hid rfl⟩
        clear hf3 k3
        rw [← h6.out] at hb6 ⊢
        obtain ⟨_, _, _, k4, kf⟩ := jr_cells hb6
        have hb7 : Blk (w6.setCell ⟨g, 4, none⟩ (.int .i64 (m : Int))) g 64 (jrA 1 (.slice A5 (ps.length + 1) c5) m) := hb6.set_ 4 _
        have HB7 := Lib.hid hb7
        have HB6 := Lib.hid hb6
        clear hb7 hb6
        go_wp2_with fail
        refine leaves_cons (f := 32) (args := #[.pointer (some ⟨g, 0, none⟩)]) (by simp) (by simp [go_sem]) ?_
        refine (unlock_deferred muLib ⟨g, 0, none⟩ .returning _ (jr_cells HB7.out).1 ((HB7.out).frozen 0)).mono ?_
        rintro e u' w'' ⟨rfl, rfl, rfl⟩
        refine ⟨_, results_tmp rfl _ _ _, ?_⟩
        rw [HE.out, HS.out]
        have h31 := H31.out
        have t1 : Bt base w w1 := by rw [h31]; exact Bt.of_grown (grown_lock w g _) HB.out (.inl rfl) hbg
        have t6 : Bt base w5 w6 := by rw [h6.out]; exact Bt.of_grown (grown_set w5 g 3 _) HB5.out (.inl rfl) hbg
        have t7 := Bt.of_grown (grown_set w6 g 4 (.int .i64 (m : Int))) HB6.out (.inl rfl) hbg
        have t8 := Bt.of_grown (grown_lock _ g (.int .i32 0)) HB7.out (.inl rfl) hbg
        have o6 : OwnS w6 base (.slice A5 (ps.length + 1) c5) (ps ++ [p]) := by rw [h6.out]; exact HOS5.out.kept64 HB5.out (grown_set w5 g 3 _)
        have o7 := o6.kept64 HB6.out (grown_set w6 g 4 (.int .i64 (m : Int)))
        have o8 := o7.kept64 HB7.out (grown_lock _ g (.int .i32 0))
        have hsz : sz (ps ++ [p]) = m := by rw [sz_app]; simp only [sz]; have := hs.out; have := hk.out; have := hm.out; omega
        refine ⟨rfl, ⟨hbg, ⟨by rw [List.length_append, List.length_singleton]; omega, by rw [hsz]; omega, ?_⟩, _, ?_, o8⟩, (t1.trans HT.out).trans ((t6.trans t7).trans t8)⟩
        · intro q hq
          rw [List.mem_append, List.mem_singleton] at hq
          rcases hq with hq | rfl
          · exact HP3.out q hq
          · omega
        · rw [hsz]
          exact HB7.out.set_ 0 _
end Go.Proofs.Ytfhigppdgfajoaa
