/- The journal in memory; the walks of Open and of the reference's Open. -/
import Derived.Test.YtfhigppdgfajoaaSam
import Derived.Test.YtfhigppdgfajoaaLck
import Derived.Laws.ResultCell
namespace Go.Proofs.Ytfhigppdgfajoaa
open Go.RowKit
section
variable {P : Program} {ops : Array Oper} {rest : List Oper} {o : Oper} {a : Act} {Q : Exit → Act → World → Prop} {w : World}
theorem wpList_box (hgd : o.guard = none) (e : TypeId) (x : Operand) (ho : o.op = .box e x) (cs : Array Value) (hx : a.eval x = .agg cs)
    (h : ∀ w1, Blk w1 w.heap.size e cs → Below w.heap.size w w1 → w1.heap.size = w.heap.size + 1 → wpList P ops Q rest (a.put o.dst (.pointer (some ⟨w.heap.size, 0, none⟩))) w1) :
    wpList P ops Q (o :: rest) a w := by
  refine wpList_plain hgd fun K hK => ?_
  unfold Oper.wp execOp
  have hr : (Instr.box e (.agg cs)).run P w = .ok (.pointer (some ⟨w.heap.size, 0, none⟩)) (w.alloc (.cells cs e)) := by
    simp [Instr.box, newVar, newRow, Value.cells]
  simp only [ho, hx, Sem.run_bind, hr, Result.andThen_ok, Sem.run_pure]
  exact hK _ _ (h _ (Blk.new w e cs) ((Below.refl _ _).alloc (Nat.le_refl _) _) (by simp))
end
theorem results_mat {P : Program} {fn : Func} {p u : Tmp} {ty : TypeId} (h : fn.results = #[.cell p ty, .tmp u]) (tmps : Array Value) (w : World) (g : Nat) (t : TypeId) (cs : Array Value) (fr : Nat × Nat) (d : TypeDesc)
    (hp : tmps.getD p undef = .pointer (some ⟨g, 0, none⟩)) (hg : w.heap[g]? = some (.cells cs t fr))
    (hu : P.underlying ty = some d) (hd : (match d with | .struct _ | .array _ _ => true | _ => false) = true) (hi : (P.info? ty).map (·.size) = some cs.size) :
    (results fn tmps).run P w = .ok (.tuple #[.agg cs, tmps.getD u undef]) w := by
  have hp' : tmps[p]?.getD undef = .pointer (some ⟨g, 0, none⟩) := by simpa using hp
  rw [results_cell_tmp h]
  simp [hp', asAddr, run_loadVar_row w g t ty cs fr d hg hu hd hi, Result.andThen]
theorem info47 : (Try.prog.info? 47).bind (·.zero) = some (.agg #[.slice none 0 0]) := by kernel_rfl
theorem size47 : (Try.prog.info? 47).map (·.size) = some 1 := by kernel_rfl
/-- the bytes of records -/
def sz : List (List Nat) → Nat
  | [] => 0
  | p :: ps => p.length + 8 + sz ps
theorem sz_app (ps qs : List (List Nat)) : sz (ps ++ qs) = sz ps + sz qs := by
  induction ps with
  | nil => simp [sz]
  | cons p ps ih => rw [List.cons_append, sz, sz, ih]; omega
/-- what holds of a journal's records -/
def OkP (ps : List (List Nat)) : Prop := ps.length ≤ 65536 ∧ sz ps ≤ 16777216 ∧ ∀ p ∈ ps, p.length ≤ 4194304
theorem dec_max {p q : List Nat} (h : dec p = some q) : q.length ≤ 4194304 := by
  unfold dec at h
  split at h
  · cases h
  · split at h
    · cases h
    · injection h with h
      subst h
      rw [List.length_drop, List.length_take]
      omega
theorem rcvF_ok : ∀ (f : Nat) (p : List Nat), sz (rcvF f p).1 = (rcvF f p).2 ∧ (rcvF f p).2 ≤ p.length ∧ (rcvF f p).1.length ≤ f ∧ ∀ q ∈ (rcvF f p).1, q.length ≤ 4194304
  | 0, p => ⟨rfl, Nat.zero_le _, Nat.le_refl _, by simp [rcvF]⟩
  | f + 1, p => by
    cases h : dec p with
    | none => rw [rcvF_none h]; exact ⟨rfl, Nat.zero_le _, Nat.zero_le _, by simp⟩
    | some q =>
      rw [rcvF_some h]
      obtain ⟨h1, h2, h3, h4⟩ := rcvF_ok f (p.drop (q.length + 8))
      have hl := dec_len h
      rw [List.length_drop] at h2
      refine ⟨by simp only [sz]; omega, by simp only []; omega, by simp only [List.length_cons]; omega, fun r hr => ?_⟩
      simp only [List.mem_cons] at hr
      rcases hr with rfl | hr
      · exact dec_max h
      · exact h4 r hr
theorem rcv_ok (p : List Nat) : sz (rcv p).1 = (rcv p).2 ∧ (rcv p).2 ≤ p.length ∧ (rcv p).1.length ≤ 65536 ∧ ∀ q ∈ (rcv p).1, q.length ≤ 4194304 := rcvF_ok 65536 p
/-- the cells of a journal that is open -/
def jrA (st : Int) (v : Value) (n : Nat) : Array Value := #[.int .i32 st, .int .u32 0, .bool true, v, .int .i64 (n : Int)]
/-- an open journal with its records, in blocks from base on -/
def Jr (w : World) (base g : Nat) (ps : List (List Nat)) : Prop := base ≤ g ∧ OkP ps ∧ ∃ v, Blk w g 64 (jrA 0 v (sz ps)) ∧ OwnS w base v ps
theorem Jr.below {w w1 : World} {base g : Nat} {ps : List (List Nat)} (h : Jr w base g ps) (hb : Below w.heap.size w w1) : Jr w1 base g ps := by
  obtain ⟨h1, h2, v, h3, h4⟩ := h
  exact ⟨h1, h2, v, h3.below hb h3.lt, h4.below hb⟩
theorem Jr.mono {w : World} {base b' g : Nat} {ps : List (List Nat)} (h : Jr w base g ps) (hb : b' ≤ base) : Jr w b' g ps := by
  obtain ⟨h1, h2, v, h3, h4⟩ := h
  exact ⟨by omega, h2, v, h3, h4.mono hb⟩
theorem Jr.lt {w : World} {base g : Nat} {ps : List (List Nat)} (h : Jr w base g ps) : g < w.heap.size := by
  obtain ⟨h1, h2, v, h3, h4⟩ := h
  exact h3.lt
theorem Sl.take {w : World} {A : Option Addr} {p : List Nat} {cap : Nat} (h : Sl w A p cap) (n : Nat) : Sl w A (p.take n) cap := by
  obtain ⟨h1, h2, h3, h4⟩ := h
  refine ⟨h1.take n, by rw [List.length_take]; omega, h3, ?_⟩
  rcases h4 with ⟨a, b, c⟩ | h4
  · exact .inl ⟨a, by rw [b, List.take_nil], c⟩
  · exact .inr h4
/-- what Open returns -/
def OpnR (w : World) (base : Nat) (v : Value) (p : List Nat) : Prop :=
  if p.length ≤ 16777216 then ∃ g, v = .tuple #[.pointer (some ⟨g, 0, none⟩), .int .i64 0] ∧ Jr w base g (rcv p).1 else v = .tuple #[.pointer none, .int .i64 4]
set_option maxRecDepth 100000 in
set_option maxHeartbeats 1000000 in
theorem open_any (A : Option Addr) (p : List Nat) (cap : Nat) (w : World) (hr : Sl w A p cap) :
    Calls Try.prog 19 #[.slice A p.length cap] w fun e w' => ∃ v, e = .returned v ∧ OpnR w' w.heap.size v p ∧ Below w.heap.size w w' := by
  have HR := Lib.hid hr
  clear hr
  by_cases hl : p.length ≤ 16777216
  · have hd : decide (16777216 < (p.length : Int)) = false := decide_eq_false (by omega)
    have hd' : decide (16777216 < p.length) = false := decide_eq_false (by omega)
    go_enter Try.func19, Try.ntmps19
    go_wp2_with fail
    refine (recover_any A p cap w HR.out).mono ?_
    rintro e w1 ⟨v1, rfl, ⟨u, rfl, hO⟩, hB⟩
    have hw1 := hB.size
    obtain ⟨Au, cu, rfl⟩ := hO.slice
    obtain ⟨k1, k2, k3, k4⟩ := rcv_ok p
    have HF : ∀ w2, w2 = w1.alloc (.cells (jrA 0 (.slice Au (rcv p).1.length cu) (rcv p).2) 64) → Hid (OpnR w2 w.heap.size (.tuple #[.pointer (some ⟨w1.heap.size, 0, none⟩), .int .i64 0]) p ∧ Below w.heap.size w w2) := by
      rintro w2 rfl
      refine Lib.hid ⟨?_, hB.trans (((Below.refl _ _).alloc (Nat.le_refl _) _).mono hw1)⟩
      unfold OpnR
      rw [if_pos hl]
      exact ⟨_, rfl, by omega, ⟨k3, by omega, k4⟩, _, by rw [k1]; exact Blk.new _ _ _, hO.below ((Below.refl _ _).alloc (Nat.le_refl _) _)⟩
    go_wp2_with fail
    go_ret2
    obtain ⟨r1, r2⟩ := (HF _ rfl).out
    exact ⟨_, rfl, r1, r2⟩
  · have hd : decide (16777216 < (p.length : Int)) = true := decide_eq_true (by omega)
    have hd' : decide (16777216 < p.length) = true := decide_eq_true (by omega)
    go_enter Try.func19, Try.ntmps19
    go_wp2_with fail
    go_ret2
    exact ⟨_, rfl, by unfold OpnR; rw [if_neg hl]; rfl, Below.refl _ _⟩
/-- what the reference's Open returns -/
def RopR (w : World) (v : Value) (p : List Nat) : Prop :=
  if p.length ≤ 16777216 then ∃ A c, v = .tuple #[.agg #[.slice A (rcv p).2 c], .int .i64 0] ∧ Sl w A (p.take (rcv p).2) c else v = .tuple #[.agg #[.slice none 0 0], .int .i64 4]
set_option maxRecDepth 100000 in
set_option maxHeartbeats 1000000 in
theorem refopen_any (A : Option Addr) (p : List Nat) (cap : Nat) (w : World) (hr : Sl w A p cap) :
    Calls Try.prog 20 #[.slice A p.length cap] w fun e w' => ∃ v, e = .returned v ∧ RopR w' v p ∧ Below w.heap.size w w' := by
  have HR := Lib.hid hr
  clear hr
  by_cases hl : p.length ≤ 16777216
  · have hd : decide (16777216 < (p.length : Int)) = false := decide_eq_false (by omega)
    have hd' : decide (16777216 < p.length) = false := decide_eq_false (by omega)
    go_enter Try.func20, Try.ntmps20
    go_wp2_with (first | (refine wpList_new rfl 47 rfl _ info47 ?_; intro w1 hn1 hB1 hz1))
    refine (refrecover_any A p cap _ (HR.out.below hB1)).mono ?_
    rintro e w2 ⟨v1, rfl, ⟨u, rfl, hO⟩, hB⟩
    have hw1 := hB.size
    obtain ⟨k1, k2, k3, k4⟩ := rcv_ok p
    obtain ⟨n, hn⟩ : ∃ n, Hid (n = (rcv p).2) := ⟨_, Lib.hid rfl⟩
    rw [← hn.out] at k2 ⊢
    have hc := HR.out.2.1
    have hc2 := HR.out.2.2.1
    have hn0 : (0 : Int) ≤ (n : Int) := by omega
    have hn1' : (n : Int) ≤ (p.length : Int) := by omega
    have hn2 : (n : Int) ≤ (cap : Int) := by omega
    have hn3 : n ≤ cap := by omega
    have HN := Lib.hid (hn1.below hB (by omega))
    have hf1 := HN.out.frozen 0
    have hcell := HN.out.cell 0
    have hcell : w2.cell? ⟨w.heap.size, 0, none⟩ = some (.slice none 0 0) := hcell
    have HB := Lib.hid (hB1.trans (hB.mono hB1.size))
    have HR2 := Lib.hid ((HR.out.below hB1).below hB)
    clear hO k1 k3 k4
    go_wp2_with fail
    refine bodyPost_ret (results_mat rfl _ _ w.heap.size 47 #[.slice A n cap] (0, 0) _ rfl (HN.out.set_ 0 _) Try.underlying47 rfl size47) rfl ?_
    refine ⟨_, rfl, ?_, HB.out.setCell (Nat.le_refl _) _⟩
    unfold RopR
    rw [if_pos hl, ← hn.out]
    exact ⟨_, _, rfl, (HR.out.below (HB.out.setCell (Nat.le_refl _) _)).take n⟩
  · have hd : decide (16777216 < (p.length : Int)) = true := decide_eq_true (by omega)
    have hd' : decide (16777216 < p.length) = true := decide_eq_true (by omega)
    go_enter Try.func20, Try.ntmps20
    go_wp2_with (first | (refine wpList_new rfl 47 rfl _ info47 ?_; intro w1 hn1 hB1 hz1; have hf1 := hn1.frozen 0; have hcell : w1.cell? ⟨w.heap.size, 0, none⟩ = some (.slice none 0 0) := hn1.cell 0))
    refine bodyPost_ret (results_mat rfl _ _ w.heap.size 47 #[.slice none 0 0] (0, 0) _ rfl (hn1.set_ 0 _) Try.underlying47 rfl size47) rfl ?_
    exact ⟨_, rfl, by unfold RopR; rw [if_neg hl]; rfl, hB1.setCell (Nat.le_refl _) _⟩
end Go.Proofs.Ytfhigppdgfajoaa
