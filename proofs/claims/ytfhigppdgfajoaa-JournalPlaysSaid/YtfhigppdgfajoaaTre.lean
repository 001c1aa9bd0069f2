/- A region that draws its order, whose last operations wait for all others: the first ones in an order of the prover's own that may part where two operations are ready and neither can be put off. -/
import Derived.Test.YtfhigppdgfajoaaSeq
namespace Go.Proofs.Ytfhigppdgfajoaa
open Go
/-- an order: 'take': an operation that yields whatever the others do; 'step': the only one that is ready; 'two': two are ready -/
inductive Ord (α : Type) where
  | done : Ord α
  | take (i : α) (t : Ord α) : Ord α
  | step (i : α) (t : Ord α) : Ord α
  | two (i j : α) (t u : Ord α) : Ord α
namespace Ord
def map {α β : Type} (f : α → β) : Ord α → Ord β
  | done => done
  | take i t => take (f i) (t.map f)
  | step i t => step (f i) (t.map f)
  | two i j t u => two (f i) (f j) (t.map f) (u.map f)
def len {α : Type} : Ord α → Nat
  | done => 0
  | take _ t => t.len + 1
  | step _ t => t.len + 1
  | two _ _ t _ => t.len + 1
end Ord
section
variable {P : Program} {ops : Array Oper} {Q : Exit → Act → World → Prop} {md : Region.Mode} {S : World → Prop}
def wpStep (P : Program) (ops : Array Oper) (Q : Exit → Act → World → Prop) (S : World → Prop) (o : Oper) (K : Act → World → Prop) (a : Act) (w : World) : Prop :=
  if Region.wanted o (yielded ops a.tmps) = true then Oper.wp P o a w (fun a' w' => S w' ∧ K a' w') Q else S w ∧ K (a.put o.dst undef) w
def wpTree (P : Program) (ops : Array Oper) (Q : Exit → Act → World → Prop) (S : World → Prop) (L : Act → World → Prop) : Ord Oper → Act → World → Prop
  | .done, a, w => L a w
  | .take o t, a, w => ∃ v, YieldsIf P ops S o v a ∧ wpTree P ops Q S L t (a.put o.dst v) w
  | .step o t, a, w => wpStep P ops Q S o (wpTree P ops Q S L t) a w
  | .two o p t u, a, w => wpStep P ops Q S o (wpTree P ops Q S L t) a w ∧ wpStep P ops Q S p (wpTree P ops Q S L u) a w
variable {L : Act → World → Prop} {o p : Oper} {t u : Ord Oper} {a : Act} {w : World}
theorem wpTree_done (h : L a w) : wpTree P ops Q S L .done a w := h
theorem wpTree_take {v : Value} (hw : Region.wanted o (yielded ops a.tmps) = true) (hy : ∀ w, S w → (execOp a.eval o).run P w = .ok (.value v) w) (h : wpTree P ops Q S L t (a.put o.dst v) w) : wpTree P ops Q S L (.take o t) a w := ⟨v, Or.inl ⟨hw, hy⟩, h⟩
theorem wpTree_idle (hw : Region.wanted o (yielded ops a.tmps) = false) (h : wpTree P ops Q S L t (a.put o.dst undef) w) : wpTree P ops Q S L (.take o t) a w := ⟨_, Or.inr ⟨hw, rfl⟩, h⟩
theorem wpTree_step (h : ∀ K : Act → World → Prop, RowKit.Hid (∀ a' w', S w' → wpTree P ops Q S L t a' w' → K a' w') → if Region.wanted o (yielded ops a.tmps) = true then Oper.wp P o a w K Q else K (a.put o.dst undef) w) : wpTree P ops Q S L (.step o t) a w := by
  have := h (fun a' w' => S w' ∧ wpTree P ops Q S L t a' w') (Lib.hid fun a' w' h1 h2 => ⟨h1, h2⟩)
  exact this
theorem wpTree_two (h1 : wpTree P ops Q S L (.step o t) a w) (h2 : wpTree P ops Q S L (.step p u) a w) : wpTree P ops Q S L (.two o p t u) a w := ⟨h1, h2⟩
/-- the order is one that the region lets be taken -/
def treeB (md : Region.Mode) (ops : Array Oper) (n : Nat) : Ord Nat → Array Bool → Bool
  | .done, listed => Region.seqB md ops (ops.size - n) n listed
  | .take i t, listed => (Region.ready md ops listed).contains i && Region.free md ops listed i && decide (i < n) && treeB md ops n t (listed.setIfInBounds i true)
  | .step i t, listed => decide (Region.ready md ops listed = [i]) && decide (i < n) && treeB md ops n t (listed.setIfInBounds i true)
  | .two i j t u, listed => decide (Region.ready md ops listed = [i, j]) && decide (i < n) && decide (j < n) && decide (t.len = u.len) && treeB md ops n t (listed.setIfInBounds i true) && treeB md ops n u (listed.setIfInBounds j true)
theorem wpStep_op {n i : Nat} {K K' : Act → World → Prop} (hin : i < n) (hn : n < ops.size) (hK : ∀ a' w', S w' → K a' w' → K' a' w') (h : wpStep P ops Q S (ops.getD i default) K a w) :
    wpOp P ops Q i (fun a' w' => S w' ∧ K' a' w') a w := by
  have h0 : ops[i]? = some (ops.getD i default) := by
    have : i < ops.size := by omega
    simp [this]
  unfold wpOp
  simp only [h0]
  unfold wpStep at h
  split
  · rename_i hw
    rw [if_pos hw] at h
    exact .inl (Oper.wp_mono (fun a' w' h' => ⟨h'.1, hK a' w' h'.1 h'.2⟩) h)
  · rename_i hw
    rw [if_neg hw] at h
    exact ⟨h.1, hK _ _ h.1 h.2⟩
theorem wpAnyT_tree {n : Nat} {Lq : Act → World → Prop} (hsel : Region.noSelect ops = true) (hs : Region.sinkB md ops n = true) (hc : Region.chainB md ops n = true) (hn : n < ops.size)
    (hQ : ∀ c (a : Act) d v w, Q (.panic c) (a.put d v) w → Q (.panic c) a w) :
    ∀ (l : Ord Nat) (listed : Array Bool) (a : Act) (w : World), HeadInv md ops n listed → treeB md ops n l listed = true → S w →
    wpTree P ops Q S Lq (l.map fun p => ops.getD p default) a w →
    wpAnyT P md ops Q S n (fun listed' a' w' => Region.seqB md ops (ops.size - n) n listed' = true ∧ Lq a' w') l.len listed a w
  | .done, listed, a, w, _, hB, _, h => ⟨hB, h⟩
  | .take i l, listed, a, w, inv, hB, hS, h => by
    simp only [treeB, Bool.and_eq_true, decide_eq_true_eq] at hB
    obtain ⟨⟨⟨hr, hf⟩, hin⟩, hB'⟩ := hB
    have hr' : i ∈ Region.ready md ops listed := by simpa using hr
    have h0 : ops[i]? = some (ops.getD i default) := by
      have : i < ops.size := by omega
      simp [this]
    obtain ⟨v, hy, hK⟩ := h
    exact wpAnyT_first h0 (Region.noSelect_spec hsel) hs hc hn hin (fun listed' a' w' hL => seqB_ready hL.1) (fun c a w => hQ c a _ v w) l.len listed a w inv (Region.free_spec h0 hf) hr' hy hS
      (wpAnyT_tree hsel hs hc hn hQ l _ _ w (inv.set hr' hin) hB' hS hK)
  | .step i l, listed, a, w, inv, hB, hS, h => by
    simp only [treeB, Bool.and_eq_true, decide_eq_true_eq] at hB
    obtain ⟨⟨hr, hin⟩, hB'⟩ := hB
    have hr' : i ∈ Region.ready md ops listed := by rw [hr]; simp
    refine ⟨fun h1 => (by rw [hr] at h1; cases h1), fun j hj => ?_⟩
    rw [hr] at hj
    have hji : j = i := by simpa using hj
    subst hji
    exact ⟨hin, wpStep_op hin hn (fun a' w' hS' h' => wpAnyT_tree (Lq := Lq) hsel hs hc hn hQ l (listed.setIfInBounds j true) a' w' (inv.set hr' hin) hB' hS' h') h⟩
  | .two i j t u, listed, a, w, inv, hB, hS, h => by
    simp only [treeB, Bool.and_eq_true, decide_eq_true_eq] at hB
    obtain ⟨⟨⟨⟨⟨hr, hin⟩, hjn⟩, hlen⟩, hBt⟩, hBu⟩ := hB
    have hri : i ∈ Region.ready md ops listed := by rw [hr]; simp
    have hrj : j ∈ Region.ready md ops listed := by rw [hr]; simp
    refine ⟨fun h1 => (by rw [hr] at h1; cases h1), fun k hk => ?_⟩
    rw [hr] at hk
    simp only [List.mem_cons, List.not_mem_nil, or_false] at hk
    rcases hk with rfl | rfl
    · exact ⟨hin, wpStep_op hin hn (fun a' w' hS' h' => wpAnyT_tree (Lq := Lq) hsel hs hc hn hQ t (listed.setIfInBounds k true) a' w' (inv.set hri hin) hBt hS' h') h.1⟩
    · refine ⟨hjn, wpStep_op hjn hn (fun a' w' hS' h' => ?_) h.2⟩
      rw [hlen]
      exact wpAnyT_tree (Lq := Lq) hsel hs hc hn hQ u (listed.setIfInBounds k true) a' w' (inv.set hrj hjn) hBu hS' h'
/-- a region that draws its order: its first n operations in the order l, under S; the others in the text's order; none panics -/
theorem wp_region_tree {id : Nat} {a : Act} {w : World} {t : List Oper} (n : Nat) (l : Ord Nat) (hm : P.follows .mixedOrders = true) (hl : l.len = n)
    (hB : (Region.noSelect t.toArray && decide (n < t.toArray.size) && Region.sinkB .any t.toArray n && Region.chainB .any t.toArray n && treeB .any t.toArray n l (Array.replicate t.toArray.size false)) = true)
    (hS : S w.drew)
    (h : wpTree P t.toArray (NoPanic Q) S (fun a' w' => wpList P t.toArray (NoPanic Q) (t.drop n) a' w') (l.map fun p => t.getD p default) a w.drew) : (Code.region id t.toArray true).wp P Q a w := by
  refine wp_region_noPanic ?_
  simp only [Bool.and_eq_true, decide_eq_true_eq] at hB
  obtain ⟨⟨⟨⟨hsel, hn⟩, hs⟩, hc⟩, ho⟩ := hB
  have inv0 : HeadInv .any t.toArray n (Array.replicate t.toArray.size false) :=
    ⟨by simp, fun j oj _ hl => (by rw [getD_replicate_false] at hl; cases hl), fun t _ ht => getD_in (by simpa using ht) (getD_replicate_false _ _)⟩
  have hmap : (l.map fun p => t.getD p default) = l.map fun p => t.toArray.getD p default := by
    congr 1
    funext p
    rw [getD_arr]
  rw [hmap] at h
  have H := wpAnyT_tree (md := .any) hsel hs hc hn (fun _ _ _ _ _ h => h) l _ a w.drew inv0 ho hS h
  refine wp_region_any hm ?_
  have hdl : (t.drop n).length = t.toArray.size - n := by simp
  have := wpAny_of_T (Q := NoPanic Q) (g := t.toArray.size - n) (fun listed a' w' hL => by
    have := wpAny_of_seq (md := .any) (Q' := NoPanic Q) (t.drop n) n listed a' w' (fun j => by simp [List.getElem?_drop]) (by rw [hdl]; exact hL.1) hL.2
    rwa [hdl] at this) _ _ _ _ H
  rw [hl, show n + (t.toArray.size - n) = t.toArray.size by omega] at this
  exact this
end
end Go.Proofs.Ytfhigppdgfajoaa
