/- A region that draws its order, whose last operations wait for all others: the first ones in one order of the prover's own, under a condition on the world that holds behind each of them; the last ones in the text's order. -/
import Derived.StillTail
import Derived.Deep.RegionHeld3
import Derived.OrdersHeld
import Derived.Tactics
import Derived.Lib.Hide
namespace Go.Proofs.Ytfhigppdgfajoaa
open Go
section
variable {P : Program} {ops : Array Oper} {Q : Exit → Act → World → Prop} {md : Region.Mode} {S : World → Prop}
/-- whatever order is picked among the first n operations; S holds behind each -/
def wpAnyT (P : Program) (md : Region.Mode) (ops : Array Oper) (Q : Exit → Act → World → Prop) (S : World → Prop) (n : Nat) (L : Array Bool → Act → World → Prop) : Nat → Array Bool → Act → World → Prop
  | 0, listed, a, w => L listed a w
  | f + 1, listed, a, w => Region.ready md ops listed ≠ [] ∧ ∀ i ∈ Region.ready md ops listed, i < n ∧ wpOp P ops Q i (fun a' w' => S w' ∧ wpAnyT P md ops Q S n L f (listed.setIfInBounds i true) a' w') a w
theorem wpAny_of_T {n g : Nat} {L : Array Bool → Act → World → Prop} (hL : ∀ listed a w, L listed a w → wpAny P md ops Q g listed a w) :
    ∀ (f : Nat) (listed : Array Bool) (a : Act) (w : World), wpAnyT P md ops Q S n L f listed a w → wpAny P md ops Q (f + g) listed a w
  | 0, listed, a, w, h => by rw [Nat.zero_add]; exact hL _ _ _ h
  | f + 1, listed, a, w, h => by
    rw [show f + 1 + g = (f + g) + 1 by omega]
    exact ⟨fun h0 => absurd h0 h.1, fun i hi => wpOp_mono (fun a' w' h' => wpAny_of_T hL f _ a' w' h'.2) (h.2 i hi).2⟩
theorem wpAnyT_first {n i : Nat} {oi : Oper} {v : Value} {L : Array Bool → Act → World → Prop} (hi : ops[i]? = some oi) (hsel : ∀ (j : Nat) (o : Oper) cs b, ops[j]? = some o → o.op ≠ .select cs b)
    (hs : Region.sinkB md ops n = true) (hc : Region.chainB md ops n = true) (hn : n < ops.size) (hin : i < n)
    (hdone : ∀ listed a w, L listed a w → ∀ j ∈ Region.ready md ops listed, n ≤ j)
    (hQ : ∀ c a w, Q (.panic c) (a.put oi.dst v) w → Q (.panic c) a w) :
    ∀ (f : Nat) (listed : Array Bool) (a : Act) (w : World), HeadInv md ops n listed →
      (∀ j oj, ops[j]? = some oj → j ≠ i → listed.getD j true = false → (∀ e ∈ oj.after, Region.binds md e = true → e.on ≠ i) → oi.apart ops oj = true) →
      i ∈ Region.ready md ops listed → YieldsIf P ops S oi v a → S w →
      wpAnyT P md ops Q S n L f (listed.setIfInBounds i true) (a.put oi.dst v) w → wpAnyT P md ops Q S n L (f + 1) listed a w := by
  intro f
  induction f with
  | zero =>
    intro listed a w inv _ hr hy hS H
    have hun := (mem_ready.1 hr).1
    refine ⟨fun h => (by rw [h] at hr; cases hr), fun j hj => ?_⟩
    have hjn : j < n := by
      rcases Nat.lt_or_ge j n with h | h
      · exact h
      · exact absurd hj (tail_waits hs hc hn inv _ i rfl hin hun j h)
    refine ⟨hjn, ?_⟩
    by_cases hji : j = i
    · subst hji; exact hy.wpOp hi hS ⟨hS, H⟩
    · have := hdone _ _ _ H j (ready_mono hj hji)
      omega
  | succ f ih =>
    intro listed a w inv hfree hr hy hS H
    have hun := (mem_ready.1 hr).1
    refine ⟨fun h => (by rw [h] at hr; cases hr), fun j hj => ?_⟩
    have hjn : j < n := by
      rcases Nat.lt_or_ge j n with h | h
      · exact h
      · exact absurd hj (tail_waits hs hc hn inv _ i rfl hin hun j h)
    refine ⟨hjn, ?_⟩
    by_cases hji : j = i
    · subst hji; exact hy.wpOp hi hS ⟨hS, H⟩
    · have h1 := (H.2 j (ready_mono hj hji)).2
      obtain ⟨hjun, oj, hoj, hall⟩ := mem_ready.1 hj
      have hnot : ∀ e ∈ oj.after, Region.binds md e = true → e.on ≠ i := fun e he hb heq => by
        have h1 := hall e he hb
        rw [heq, getD_both hun] at h1
        cases h1
      have h2 := wpOp_putIf hoj (hfree j oj hoj hji hjun hnot) (fun cs b => hsel i oi cs b hi) (fun cs b => hsel j oj cs b hoj) hQ hy h1
      have hfree' : ∀ k ok, ops[k]? = some ok → k ≠ i → (listed.setIfInBounds j true).getD k true = false →
          (∀ e ∈ ok.after, Region.binds md e = true → e.on ≠ i) → oi.apart ops ok = true := fun k ok hk hki hun hno => by
        refine hfree k ok hk hki ?_ hno
        by_cases hjk : j = k
        · subst hjk; exact hjun
        · rw [getD_set_ne true hjk] at hun; exact hun
      refine wpOp_mono (fun a' w' h3 => ⟨h3.2.1, ih (listed.setIfInBounds j true) a' w' (inv.set hj hjn) hfree' (ready_mono hr (Ne.symm hji)) h3.1 h3.2.1 ?_⟩) h2
      rw [Array.setIfInBounds_comm _ _ hji]
      exact h3.2.2
/-- the operations one by one: a marked one yields under S, another is carried out -/
def wpSeq (P : Program) (ops : Array Oper) (Q : Exit → Act → World → Prop) (S : World → Prop) (L : Act → World → Prop) : List (Oper × Bool) → Act → World → Prop
  | [], a, w => L a w
  | (o, true) :: l, a, w => ∃ v, YieldsIf P ops S o v a ∧ wpSeq P ops Q S L l (a.put o.dst v) w
  | (o, false) :: l, a, w => if Region.wanted o (yielded ops a.tmps) = true then Oper.wp P o a w (fun a' w' => S w' ∧ wpSeq P ops Q S L l a' w') Q else S w ∧ wpSeq P ops Q S L l (a.put o.dst undef) w
theorem wpSeq_nil {L : Act → World → Prop} {a : Act} {w : World} (h : L a w) : wpSeq P ops Q S L [] a w := h
theorem wpSeq_take {L : Act → World → Prop} {o : Oper} {l : List (Oper × Bool)} {a : Act} {w : World} {v : Value} (hw : Region.wanted o (yielded ops a.tmps) = true) (hy : ∀ w, S w → (execOp a.eval o).run P w = .ok (.value v) w) (h : wpSeq P ops Q S L l (a.put o.dst v) w) : wpSeq P ops Q S L ((o, true) :: l) a w := ⟨v, Or.inl ⟨hw, hy⟩, h⟩
theorem wpSeq_idle {L : Act → World → Prop} {o : Oper} {l : List (Oper × Bool)} {a : Act} {w : World} (hw : Region.wanted o (yielded ops a.tmps) = false) (h : wpSeq P ops Q S L l (a.put o.dst undef) w) : wpSeq P ops Q S L ((o, true) :: l) a w := ⟨_, Or.inr ⟨hw, rfl⟩, h⟩
theorem wpSeq_step {L : Act → World → Prop} {o : Oper} {l : List (Oper × Bool)} {a : Act} {w : World}
    (h : ∀ K : Act → World → Prop, RowKit.Hid (∀ a' w', S w' → wpSeq P ops Q S L l a' w' → K a' w') → if Region.wanted o (yielded ops a.tmps) = true then Oper.wp P o a w K Q else K (a.put o.dst undef) w) : wpSeq P ops Q S L ((o, false) :: l) a w := by
  have := h (fun a' w' => S w' ∧ wpSeq P ops Q S L l a' w') (Lib.hid fun a' w' h1 h2 => ⟨h1, h2⟩)
  exact this
/-- the order is one that the region lets be taken -/
def orderB (md : Region.Mode) (ops : Array Oper) (n : Nat) : List (Nat × Bool) → Array Bool → Bool
  | [], listed => Region.seqB md ops (ops.size - n) n listed
  | (i, true) :: l, listed => (Region.ready md ops listed).contains i && Region.free md ops listed i && decide (i < n) && orderB md ops n l (listed.setIfInBounds i true)
  | (i, false) :: l, listed => decide (Region.ready md ops listed = [i]) && decide (i < n) && orderB md ops n l (listed.setIfInBounds i true)
theorem wpAnyT_seq {n : Nat} {Lq : Act → World → Prop} (hsel : Region.noSelect ops = true) (hs : Region.sinkB md ops n = true) (hc : Region.chainB md ops n = true) (hn : n < ops.size)
    (hQ : ∀ c (a : Act) d v w, Q (.panic c) (a.put d v) w → Q (.panic c) a w) :
    ∀ (l : List (Nat × Bool)) (listed : Array Bool) (a : Act) (w : World), HeadInv md ops n listed → orderB md ops n l listed = true → S w →
    wpSeq P ops Q S Lq (l.map fun p => (ops.getD p.1 default, p.2)) a w →
    wpAnyT P md ops Q S n (fun listed' a' w' => Region.seqB md ops (ops.size - n) n listed' = true ∧ Lq a' w') l.length listed a w
  | [], listed, a, w, _, hB, _, h => ⟨hB, h⟩
  | (i, true) :: l, listed, a, w, inv, hB, hS, h => by
    simp only [orderB, Bool.and_eq_true, decide_eq_true_eq] at hB
    obtain ⟨⟨⟨hr, hf⟩, hin⟩, hB'⟩ := hB
    have hr' : i ∈ Region.ready md ops listed := by simpa using hr
    have h0 : ops[i]? = some (ops.getD i default) := by
      have : i < ops.size := by omega
      simp [this]
    obtain ⟨v, hy, hK⟩ := h
    exact wpAnyT_first h0 (Region.noSelect_spec hsel) hs hc hn hin (fun listed' a' w' hL => seqB_ready hL.1) (fun c a w => hQ c a _ v w) l.length listed a w inv (Region.free_spec h0 hf) hr' hy hS
      (wpAnyT_seq hsel hs hc hn hQ l _ _ w (inv.set hr' hin) hB' hS hK)
  | (i, false) :: l, listed, a, w, inv, hB, hS, h => by
    simp only [orderB, Bool.and_eq_true, decide_eq_true_eq] at hB
    obtain ⟨⟨hr, hin⟩, hB'⟩ := hB
    have hr' : i ∈ Region.ready md ops listed := by rw [hr]; simp
    have h0 : ops[i]? = some (ops.getD i default) := by
      have : i < ops.size := by omega
      simp [this]
    refine ⟨fun h1 => (by rw [hr] at h1; cases h1), fun j hj => ?_⟩
    rw [hr] at hj
    have hji : j = i := by simpa using hj
    subst hji
    refine ⟨hin, ?_⟩
    have ih := fun (a' : Act) (w' : World) (hS' : S w') h' => wpAnyT_seq (Lq := Lq) hsel hs hc hn hQ l (listed.setIfInBounds j true) a' w' (inv.set hr' hin) hB' hS' h'
    unfold wpOp
    simp only [h0]
    simp only [List.map_cons, wpSeq] at h
    split
    · rename_i hw
      rw [if_pos hw] at h
      exact .inl (Oper.wp_mono (fun a' w' h' => ⟨h'.1, ih a' w' h'.1 h'.2⟩) h)
    · rename_i hw
      rw [if_neg hw] at h
      exact ⟨h.1, ih _ _ h.1 h.2⟩
theorem getD_arr (t : List Oper) (i : Nat) : t.toArray.getD i default = t.getD i default := by
  simp [List.getD_eq_getElem?_getD]
/-- a region that draws its order: its first n operations in the order l, under S; the others in the text's order; none panics -/
theorem wp_region_seq {id : Nat} {a : Act} {w : World} {t : List Oper} (n : Nat) (l : List (Nat × Bool)) (hm : P.follows .mixedOrders = true) (hl : l.length = n)
    (hB : (Region.noSelect t.toArray && decide (n < t.toArray.size) && Region.sinkB .any t.toArray n && Region.chainB .any t.toArray n && orderB .any t.toArray n l (Array.replicate t.toArray.size false)) = true)
    (hS : S w.drew)
    (h : wpSeq P t.toArray (NoPanic Q) S (fun a' w' => wpList P t.toArray (NoPanic Q) (t.drop n) a' w') (l.map fun p => (t.getD p.1 default, p.2)) a w.drew) : (Code.region id t.toArray true).wp P Q a w := by
  refine wp_region_noPanic ?_
  simp only [Bool.and_eq_true, decide_eq_true_eq] at hB
  obtain ⟨⟨⟨⟨hsel, hn⟩, hs⟩, hc⟩, ho⟩ := hB
  have inv0 : HeadInv .any t.toArray n (Array.replicate t.toArray.size false) :=
    ⟨by simp, fun j oj _ hl => (by rw [getD_replicate_false] at hl; cases hl), fun t _ ht => getD_in (by simpa using ht) (getD_replicate_false _ _)⟩
  have hmap : (l.map fun p => (t.getD p.1 default, p.2)) = l.map fun p => (t.toArray.getD p.1 default, p.2) := List.map_congr_left fun p _ => by rw [getD_arr]
  rw [hmap] at h
  have H := wpAnyT_seq (md := .any) hsel hs hc hn (fun _ _ _ _ _ h => h) l _ a w.drew inv0 ho hS h
  refine wp_region_any hm ?_
  have hdl : (t.drop n).length = t.toArray.size - n := by simp
  have := wpAny_of_T (Q := NoPanic Q) (g := t.toArray.size - n) (fun listed a' w' hL => by
    have := wpAny_of_seq (md := .any) (Q' := NoPanic Q) (t.drop n) n listed a' w' (fun j => by simp [List.getElem?_drop]) (by rw [hdl]; exact hL.1) hL.2
    rwa [hdl] at this) _ _ _ _ H
  rw [hl, show n + (t.toArray.size - n) = t.toArray.size by omega] at this
  exact this
end
end Go.Proofs.Ytfhigppdgfajoaa
