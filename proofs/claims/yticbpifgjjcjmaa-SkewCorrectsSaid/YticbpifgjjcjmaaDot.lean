/- The walk of Dots: the places of the dark pixels. -/
import Derived.Test.YticbpifgjjcjmaaShr
import Derived.Deep.AppendLies
import Derived.Deep.RegionHeld3
namespace Go.Proofs.Yticbpifgjjcjmaa
open Go.RowKit Go.Maps
section
variable {P : Program} {w : World}
/-- append(v, u) of one element of whatever size, at a step of a region that draws its order; the element's box is known whole -/
theorem step_appN {ops : Array Oper} {o : Oper} {a : Act} {K : Act → World → Prop} {Q : Exit → Act → World → Prop} {E : Prop} (hgd : o.guard = none) (s x : Operand) (t : TypeId)
    (ho : o.op = .call { callee := .builtin .append, args := #[s, x], argTypes := #[t, t] })
    (base : Nat) (e : TypeId) (z : Value) (size bytes : Nat) (ht : P.underlying t = some (.slice e)) (hinfo : (P.info? e).map (fun i => (i.zero, i.size, i.bytes)) = some (some z, size, bytes))
    (hzs : z.cells.size = size) (hsz : 0 < size) (hb0 : 0 < bytes) (v : Value) (n : Nat) (q : List Value) (hs : a.eval s = v) (hown : w.ownsRow base e size v n q) (gb : Nat) (us : List Value) (hb : Blk w gb e us.toArray) (hus : us.length = size) (hu : ∀ u ∈ us, u.oneCell' = true)
    (hx : a.eval x = .slice (some ⟨gb, 0, none⟩) 1 1) (hl : (n + 1) * bytes ≤ 140737488355328) (hbase : base ≤ w.heap.size)
    (h : ∀ v' w', w'.ownsRow base e size v' (n + 1) (q ++ us) → w.grownBy w' v.ownBlock → K (a.put o.dst v') w') :
    if Region.wanted o (yielded ops a.tmps) = true then Oper.wp P o a w K Q else E := by
  have hw : Region.wanted o (yielded ops a.tmps) = true := by simp [Region.wanted, hgd]
  rw [if_pos hw]
  have hr : Src w (some ⟨gb, 0, none⟩) 1 size us := by
    refine ⟨by omega, fun _ => ⟨_, rfl, hb.lt, fun j u' hu' => ?_⟩⟩
    have ha : (⟨gb, 0, none⟩ : Addr).add j = ⟨gb, j, none⟩ := by unfold Addr.add; split <;> simp_all
    rw [ha]
    exact blk_cell hb j _ (by simpa using hu')
  obtain ⟨v', w', hrun, h2, h3, _⟩ := run_app (P := P) base t o.type e z size bytes ht hinfo hzs hsz hb0 v n q hown (some ⟨gb, 0, none⟩) 1 1 us hr hu hl hbase
  unfold Oper.wp execOp
  simp only [ho, resolve, invoke, builtin, Sem.run_bind, Sem.run_pure, Result.andThen_ok, List.map_toArray, List.map_cons, List.map_nil, hs, hx, hrun]
  exact h v' w' h2 h3
end
/-- the dark ones of the first k places -/
def dks (D : List Bool) (k : Nat) : List Nat := (List.range k).filter (Skew.dk D)
theorem dks_light {D : List Bool} {k : Nat} (h : Skew.dk D k = false) : dks D (k + 1) = dks D k := by
  unfold dks; rw [List.range_succ, List.filter_append]; simp [h]
theorem dks_dark {D : List Bool} {k : Nat} (h : Skew.dk D k = true) : dks D (k + 1) = dks D k ++ [k] := by
  unfold dks; rw [List.range_succ, List.filter_append]; simp [h]
theorem dks_len (D : List Bool) (k : Nat) : (dks D k).length ≤ k := by
  unfold dks
  have := List.length_filter_le (Skew.dk D) (List.range k)
  rw [List.length_range] at this; exact this
/-- the cells of the dots -/
def dcells (W : Nat) (P : List Nat) : List Value := P.flatMap fun i => [.int .i64 ((i % W : Nat) : Int), .int .i64 ((i / W : Nat) : Int)]
theorem dcells_get {W : Nat} {P : List Nat} {j i : Nat} (h : P[j]? = some i) : (dcells W P)[j * 2]? = some (.int .i64 ((i % W : Nat) : Int)) ∧ (dcells W P)[j * 2 + 1]? = some (.int .i64 ((i / W : Nat) : Int)) := by
  induction P generalizing j with
  | nil => simp at h
  | cons a P ih =>
    cases j with
    | zero => simp at h; subst h; simp [dcells]
    | succ j =>
      have h' := ih (j := j) (by simpa using h)
      have e : dcells W (a :: P) = .int .i64 ((a % W : Nat) : Int) :: .int .i64 ((a / W : Nat) : Int) :: dcells W P := by simp [dcells]
      rw [e, show (j + 1) * 2 = j * 2 + 1 + 1 by omega]
      simpa using h'
theorem dcells_len (W : Nat) (P : List Nat) : (dcells W P).length = P.length * 2 := by
  induction P with
  | nil => rfl
  | cons a P ih =>
    have e : dcells W (a :: P) = .int .i64 ((a % W : Nat) : Int) :: .int .i64 ((a / W : Nat) : Int) :: dcells W P := by simp [dcells]
    rw [e]; simp [ih]; omega
theorem dcells_append (W : Nat) (P : List Nat) (k : Nat) : dcells W (P ++ [k]) = dcells W P ++ [.int .i64 ((k % W : Nat) : Int), .int .i64 ((k / W : Nat) : Int)] := by
  unfold dcells; rw [List.flatMap_append]; rfl
/-- a slice of dots of the call's own -/
def OwnD (w : World) (base W : Nat) (v : Value) (P : List Nat) : Prop := w.ownsRow base 67 2 v P.length (dcells W P)
theorem OwnD.nil (w : World) (base W : Nat) : OwnD w base W (.slice none 0 0) [] := World.ownsRow_nil w base 67 2
theorem OwnD.below {w w1 : World} {base W : Nat} {v : Value} {P : List Nat} (h : OwnD w base W v P) (hb : Below w.heap.size w w1) : OwnD w1 base W v P :=
  World.ownsRow.kept h ⟨hb.os, hb.tape, hb.output, hb.size, fun i hi _ => hb.block i hi⟩ (row := none) (by cases v.ownBlock <;> simp)
theorem OwnD.base_ {w : World} {base W : Nat} {v : Value} {P : List Nat} (h : OwnD w base W v P) : ∀ k, v.ownBlock = some k → base ≤ k := fun k hk => (World.ownsRow.lt h k hk).1
/-- what the slice of dots reads as -/
def RdD (w : World) (A : Option Addr) (W : Nat) (P : List Nat) : Prop :=
  0 < P.length → ∃ g, A = some ⟨g, 0, none⟩ ∧ g < w.heap.size ∧ ∀ j i, P[j]? = some i → w.cell? ⟨g, j * 2, none⟩ = some (.int .i64 ((i % W : Nat) : Int)) ∧ w.cell? ⟨g, j * 2 + 1, none⟩ = some (.int .i64 ((i / W : Nat) : Int))
theorem RdD.below {w w1 : World} {A : Option Addr} {W : Nat} {P : List Nat} {B : Nat} (h : RdD w A W P) (hb : Below B w w1) (hB : w.heap.size ≤ B) : RdD w1 A W P := fun h0 => by
  obtain ⟨g, e, hl, hc⟩ := h h0
  have := hb.size
  refine ⟨g, e, by omega, fun j i hj => ?_⟩
  obtain ⟨h1, h2⟩ := hc j i hj
  exact ⟨(hb.cell (by simp only []; omega)).trans h1, (hb.cell (by simp only []; omega)).trans h2⟩
theorem OwnD.rd {w : World} {base W : Nat} {v : Value} {P : List Nat} (h : OwnD w base W v P) : ∃ A c, v = .slice A P.length c ∧ RdD w A W P := by
  rcases h.2 with ⟨rfl, h0⟩ | ⟨g, cap, cur, rfl, hb, hg, hn, hm, hs, ht⟩
  · exact ⟨none, 0, by rw [h0], fun h1 => by omega⟩
  · have hb' : Blk w g 67 cur := hg
    refine ⟨_, cap, rfl, fun _ => ⟨g, rfl, hb'.lt, fun j i hj => ?_⟩⟩
    obtain ⟨h1, h2⟩ := dcells_get (W := W) hj
    have hget : ∀ q u, (dcells W P)[q]? = some u → w.cell? ⟨g, q, none⟩ = some u := fun q u hu => by
      rw [hb'.cell q]
      rw [← ht, List.getElem?_take] at hu
      split at hu
      · simpa using hu
      · cases hu
    exact ⟨hget _ _ h1, hget _ _ h2⟩
theorem info67 : (Try.prog.info? 67).map (fun i => (i.zero, i.size, i.bytes)) = some (some (.agg #[.int .i64 0, .int .i64 0]), 2, 16) := by kernel_rfl
attribute [irreducible] dks dcells
set_option maxRecDepth 100000 in
set_option maxHeartbeats 2000000 in
theorem dots_any (W H : Nat) (A : Option Addr) (D : List Bool) (c : Nat) (w : World) (hr : RdB w A D) (hs : sndB W H D.length = true) :
    Calls Try.prog 44 #[.agg (matA W H A D.length c)] w fun e w' => ∃ A' c', e = .returned (.slice A' (dks D D.length).length c') ∧ RdD w' A' W (dks D D.length) ∧ Below w.heap.size w w' := by
  obtain ⟨W', H', e1, e2, hW1, hW2, hH1, hH2, hD, hDl⟩ := snd_nat hs
  obtain rfl : W = W' := by omega
  obtain rfl : H = H' := by omega
  clear e1 e2
  have HR := Lib.hid hr
  clear hD hr
  unfold matA
  go_enter Try.func44, Try.ntmps44
  go_wp2_with (refine wpList_box rfl 24 _ rfl _ rfl ?_; intro w1 hb1 hB1 hz1; have hb1 : Blk w1 w.heap.size 24 (matA W H A D.length c) := hb1; obtain ⟨c0, c1, c2⟩ := mat_cells hb1; have H1 := Lib.hid hz1; clear hz1)
  refine (valid_any W H A D.length c _).mono ?_
  rintro e w2 ⟨rfl, hB2⟩
  rw [hs]
  have HBB := Lib.hid (hB1.trans (hB2.mono (by have := H1.out; omega)))
  have HM := Lib.hid (hb1.below hB2 (by have := H1.out; omega))
  have hsz2 : w.heap.size + 1 ≤ w2.heap.size := by have := H1.out; have := hB2.size; omega
  clear c0 c1 c2 hB1 hB2 hb1 hs
  go_wp2_with fail
  have HO : Hid (OwnD w2 (w.heap.size + 1) W (.slice none 0 0) (dks D 0)) := Lib.hid (by unfold dks; exact OwnD.nil _ _ _)
  go_loopw [3, 4] (fun vl vi wr => ∃ k : Nat, k ≤ D.length ∧ vi = .int .i64 (k : Int) ∧ OwnD wr (w.heap.size + 1) W vl (dks D k) ∧ Blk wr w.heap.size 24 (matA W H A D.length c) ∧ Below w.heap.size w wr ∧ w.heap.size + 1 ≤ wr.heap.size) (fun _ vi _ => D.length - (intOf vi).toNat)
  case atStart => exact ⟨0, Nat.zero_le _, rfl, HO.out, HM.out, HBB.out, hsz2⟩
  case round =>
    clear HO HM HBB
    obtain ⟨k, hk, rfl, hO, hM, hB, hsz⟩ := hrel
    have HO := Lib.hid hO
    have HM := Lib.hid hM
    have HB := Lib.hid hB
    have HRR := Lib.hid (HR.out.below hB (Nat.le_refl _))
    obtain ⟨m0, m1, m2⟩ := mat_cells hM
    clear hO hM hB
    by_cases hlt : k < D.length
    · have hd : decide ((k : Int) < (D.length : Int)) = true := decide_eq_true (by omega)
      obtain ⟨ad, rfl, hcell⟩ := HRR.out.at_ hlt
      rw [show D.getD k false = Skew.dk D k from rfl] at hcell
      cases hdk : Skew.dk D k
      · rw [hdk] at hcell
        have HL := Lib.hid (dks_light hdk)
        clear hdk
        go_wp2_with fail
        go_roundw
        case rel => exact ⟨k + 1, by omega, by go_num, by rw [HL.out]; exact HO.out, HM.out, HB.out, hsz⟩
        case measure => simp [intOf]; omega
      · rw [hdk] at hcell
        have HL := Lib.hid (dks_dark hdk)
        have hW0 : ((W : Int) == 0) = false := by rw [beq_eq_false_iff_ne]; omega
        have t1 : (k : Int).tdiv (W : Int) = ((k / W : Nat) : Int) := (Int.ofNat_tdiv k W).symm
        have t2 : (k : Int).tmod (W : Int) = ((k % W : Nat) : Int) := (Int.ofNat_tmod k W).symm
        have hdl := dks_len D k
        have hkw : k / W ≤ k := Nat.div_le_self _ _
        have q1 : IntKind.i64.wrap ((k : Int) / (W : Int)) = ((k / W : Nat) : Int) := by rw [show (k : Int) / (W : Int) = ((k / W : Nat) : Int) from rfl]; generalize k / W = q at hkw; rw [IntKind.wrap_i64]; omega
        clear hdk hkw
        go_wp2_with fail
        have hW1' : ¬ W = 0 := by omega
        have hm0 : wr.drew.cell? ⟨w.heap.size, 0, none⟩ = some (.int .i64 (W : Int)) := m0
        go_region_held3 (fun w' => w'.cell? ⟨w.heap.size, 0, none⟩ = some (.int .i64 (W : Int))) (first | go_keep | exact (hg1.cell_far _ (by simp; omega) (fun e => absurd (HO.out.base_ _ e.symm) (Nat.not_succ_le_self _))).trans ((Blk.alloc HM.out _).cell 0)) ((refine step_appN (by rfl) _ _ 64 (by rfl) (w.heap.size + 1) 67 _ 2 16 Try.underlying64 info67 (by rfl) (by decide) (by decide) _ (dks D k).length (dcells W (dks D k)) (by rfl) (HO.out.below (((Below.refl _ _).alloc (Nat.le_refl _) _).drew)) wr.heap.size [.int .i64 ((k % W : Nat) : Int), .int .i64 ((k / W : Nat) : Int)] (Blk.new wr 67 _) (by rfl) (by simp [Value.oneCell']) (by rfl) (by omega) (by simp; omega) ?_; intro v1 wn HO1 hg1))
        have HM1 := Blk.grown (show Blk (wr.alloc (.cells #[.int .i64 ((k : Int) % (W : Int)), .int .i64 ((k : Int) / (W : Int))] 67)).drew w.heap.size 24 (matA W H (some ad) D.length c) from HM.out.alloc _) hg1 (fun e => absurd (HO.out.base_ _ e.symm) (Nat.not_succ_le_self _))
        have HB1 := (HB.out.alloc (by omega) (.cells #[.int .i64 ((k : Int) % (W : Int)), .int .i64 ((k : Int) / (W : Int))] 67)).drew.grown hg1 (by simp; omega) (fun j hj => by have := HO.out.base_ _ hj; omega)
        have hs1 : w.heap.size + 1 ≤ wn.heap.size := by have := hg1.size; simp at this; omega
        go_wp2_with fail
        go_roundw
        case rel => exact ⟨k + 1, by omega, by go_num, by rw [HL.out]; unfold OwnD; rw [List.length_append, dcells_append]; exact HO1, HM1, HB1, hs1⟩
        case measure => simp [intOf]; omega
    · have hd : decide ((k : Int) < (D.length : Int)) = false := decide_eq_false (by omega)
      obtain rfl : k = D.length := by omega
      obtain ⟨A1, c1, rfl, hN⟩ := HO.out.rd
      have HNN := Lib.hid hN
      clear hN
      go_wp2_with fail
      go_ret
      exact ⟨A1, c1, rfl, HNN.out, HB.out⟩
end Go.Proofs.Yticbpifgjjcjmaa
