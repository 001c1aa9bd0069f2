/- The walk of energy: a map of counts. -/
import Derived.Test.YticbpifgjjcjmaaShf
import Derived.Maps.OwnOps
import Derived.Outline
namespace Go.Proofs.Yticbpifgjjcjmaa
open Go.RowKit Go.Maps
theorem mat_cells {w : World} {g : Nat} {W H : Int} {A : Option Addr} {n c : Nat} (h : Blk w g 24 (matA W H A n c)) :
    w.cell? ⟨g, 0, none⟩ = some (.int .i64 W) ∧ w.cell? ⟨g, 1, none⟩ = some (.int .i64 H) ∧ w.cell? ⟨g, 2, none⟩ = some (.slice A n c) :=
  ⟨blk_cell h 0 _ rfl, blk_cell h 1 _ rfl, blk_cell h 2 _ rfl⟩
theorem law3 : Keyed Try.prog 3 := int_keyed Try.underlying3
theorem zero3 (w : World) : (zeroValue 3).run Try.prog w = .ok (.int .i64 0) w := by kernel_rfl
theorem wf64 {n : Nat} (h : n < 9223372036854775808) : (Lit.int .i64 (n : Int)).wf = true := by
  simp [Lit.wf, IntKind.min, IntKind.max, IntKind.signed, IntKind.bits]; omega
/-- block b is a map whose number at y is f y -/
def MapC (w : World) (b n : Nat) (f : Nat → Nat) : Prop :=
  ∃ M : DataW Unit, IsMap M ∧ w.ownsMap Try.prog 3 (plainElem Try.prog 3) b n M ∧ ∀ y : Nat, M.atKey (.int .i64 (y : Int)) (.lit (.int .i64 0)) = .lit (.int .i64 ((f y : Nat) : Int))
theorem MapC.made (w : World) : MapC (w.alloc (.map #[] 0)) w.heap.size 0 (fun _ => 0) :=
  ⟨.map [], isMap_empty, World.ownsMap_made _ _ _ _, fun _ => rfl⟩
section
variable {w : World} {ops : Array Oper} {rest : List Oper} {o : Oper} {a : Act} {Q : Exit → Act → World → Prop}
theorem wpList_get (hg : o.guard = none) (m x : Operand) (hop : o.op = Op.lookup 63 m x false) (b n : Nat) (f : Nat → Nat) (hm : a.eval m = .map (some b)) (hown : MapC w b n f) (y : Nat) (hy : y < 9223372036854775808)
    (hx : a.eval x = .int .i64 (y : Int)) (c : Nat) (hc : f y = c) (h : wpList Try.prog ops Q rest (a.put o.dst (.int .i64 (c : Int))) w) : wpList Try.prog ops Q (o :: rest) a w := by
  obtain ⟨M, hM, ho, hf⟩ := hown
  refine wpList_lookup_own_int w hg m x 63 hop 3 3 .i64 law3 Try.underlying63 Try.underlying3 (zero3 w) b n M hm ho _ (.int .i64 (y : Int)) hx (keyOf_int_mk Try.underlying3 (wf64 hy)) ?_
  intro c' hat _
  rw [hf y, hc] at hat
  injection hat with hat
  injection hat with _ hat
  rw [← hat]; exact h
theorem wpList_put (hg : o.guard = none) (m x v : Operand) (hop : o.op = Op.mapUpdate 63 m x v) (b n : Nat) (f : Nat → Nat) (hm : a.eval m = .map (some b)) (hown : MapC w b n f) (hn : n < 4294967296) (y : Nat) (hy : y < 9223372036854775808)
    (hx : a.eval x = .int .i64 (y : Int)) (c : Nat) (hc : c < 9223372036854775808) (hv : a.eval v = .int .i64 (c : Int))
    (h : ∀ w', MapC w' b (n + 1) (fun z => if y = z then c else f z) → w.grownBy w' (some b) → wpList Try.prog ops Q rest (a.put o.dst undef) w') : wpList Try.prog ops Q (o :: rest) a w := by
  obtain ⟨M, hM, ho, hf⟩ := hown
  have hk := keyOf_int_mk (P := Try.prog) Try.underlying3 (wf64 hy)
  refine wpList_mapUpdate_own w hg m x v 63 hop 3 3 law3 Try.underlying63 _ b n M hm ho (by unfold maxLen; omega) _ _ (.int .i64 (y : Int)) hx hv hk _ [] (plainElem_int Try.underlying3 (wf64 hc)) ?_
  intro w' h1 h2
  refine h w' ⟨_, hM.put _ _, h1, fun z => ?_⟩ h2
  by_cases hz : y = z
  · subst hz
    show _ = DataW.lit (.int .i64 (((if y = y then c else f y : Nat)) : Int))
    rw [if_pos rfl, atKey_put_same hM (law3.key hk)]
  · show _ = DataW.lit (.int .i64 (((if y = z then c else f z : Nat)) : Int))
    rw [if_neg hz, atKey_put_other (by intro e; injection e with _ e; omega), hf z]
end
theorem Blk.grown {w w' : World} {g : Nat} {t : TypeId} {cs : Array Value} (h : Blk w g t cs) {row : Option Nat} (hg : w.grownBy w' row) (hr : some g ≠ row) : Blk w' g t cs := (hg.block g h.lt hr).trans h
theorem wpList_mkMap {w : World} {ops : Array Oper} {rest : List Oper} {o : Oper} {a : Act} {Q : Exit → Act → World → Prop} (hg : o.guard = none) (hop : o.op = Op.makeMap 63 none)
    (h : ∀ w', MapC w' w.heap.size 0 (fun _ => 0) → Below w.heap.size w w' → w'.heap.size = w.heap.size + 1 → wpList Try.prog ops Q rest (a.put o.dst (.map (some w.heap.size))) w') : wpList Try.prog ops Q (o :: rest) a w := by
  refine wpList_plain hg fun K hK => ?_
  unfold Oper.wp execOp
  simp only [hop, Sem.run_bind, Sem.run_pure]
  exact hK _ _ (h _ (MapC.made w) ((Below.refl _ _).alloc (Nat.le_refl _) _) (by simp))
set_option maxRecDepth 100000 in
set_option maxHeartbeats 2000000 in
theorem energy_any (W H : Nat) (hW : 1 ≤ W ∧ W ≤ 4096) (A : Option Addr) (D : List Bool) (hD : D.length = W * H) (hDl : D.length ≤ 4194304) (c : Nat) (num den : Int) (hd1 : 1 ≤ den) (h1 : -4096 ≤ num) (h2 : num ≤ 4096) (w : World) (hr : RdB w A D) :
    Calls Try.prog 35 #[.agg (matA W H A D.length c), .int .i64 num, .int .i64 den] w fun e w' => e = .returned (.int .i64 ((Skew.energy W D num den : Nat) : Int)) ∧ Below w.heap.size w w' := by
  have HD := Lib.hid hD
  have HR := Lib.hid hr
  clear hD hr
  unfold matA
  go_enter Try.func35, Try.ntmps35
  go_wp2_with (refine wpList_box rfl 24 _ rfl _ rfl ?_; intro w1 hb1 hB1 hz1; have hb1 : Blk w1 w.heap.size 24 (matA W H A D.length c) := hb1; obtain ⟨c0, c1, c2⟩ := mat_cells hb1; have H1 := Lib.hid hz1; clear hz1)
  refine (shifts_any W num den hW.1 hW.2 hd1 h1 h2 _).mono ?_
  rintro e w2 ⟨rfl, hS2, hB2⟩
  rw [H1.out] at hS2 hB2 ⊢
  have hb2 := hb1.below hB2 (by omega)
  have hBB2 := hB1.trans (hB2.mono (by omega))
  have hsz2 : w.heap.size + 2 ≤ w2.heap.size := by have := hS2.lt; omega
  obtain ⟨c0', c1', c2'⟩ := mat_cells hb2
  clear c0 c1 c2 hb1 hB1
  go_wp2_with (refine wpList_mkMap rfl rfl ?_; intro w3 hm3 hB3 hz3; have hb3 := hb2.below hB3 (by have := hB2.size; omega); obtain ⟨c0, c1, c2⟩ := mat_cells hb3; have hS3 := hS2.below hB3 (by have := hB2.size; omega); have HZ3 := Lib.hid hz3; clear hz3)
  have hB4 := hBB2.trans (hB3.mono (by have := hBB2.size; omega))
  clear hBB2 hB3
  have Hb := Lib.hid hb3
  have HS := Lib.hid hS3
  have HB := Lib.hid hB4
  have Hm := Lib.hid hm3
  clear hb3 hS3 hB4 hm3 c0 c1 c2 c0' c1' c2' hS2 hb2 hB2 hb1
  go_loopw [10, 26] (fun ve vi wr => ∃ k n : Nat, k ≤ D.length ∧ n ≤ k ∧ vi = .int .i64 (k : Int) ∧ ve = .int .i64 ((Skew.en D (Skew.rowOf W num den) k : Nat) : Int) ∧ MapC wr w2.heap.size n (Skew.cn D (Skew.rowOf W num den) k) ∧ Blk wr w.heap.size 24 (matA W H A D.length c) ∧ ShB wr (w.heap.size + 1) W num den ∧ Below w.heap.size w wr ∧ w2.heap.size + 1 ≤ wr.heap.size) (fun _ vi _ => D.length - (intOf vi).toNat)
  case atStart => exact ⟨0, 0, Nat.zero_le _, Nat.le_refl _, rfl, rfl, Hm.out, Hb.out, HS.out, HB.out, Nat.le_of_eq HZ3.out.symm⟩
  case round =>
    clear Hb HS HB Hm HZ3
    obtain ⟨k, n, hk, hn, rfl, rfl, hm, hb, hS, hB, hsz⟩ := hrel
    have HM := Lib.hid hm
    have Hb := Lib.hid hb
    have HS := Lib.hid hS
    have HB := Lib.hid hB
    obtain ⟨c0, c1, c2⟩ := mat_cells hb
    have hHR := HR.out.below hB (Nat.le_refl _)
    have HRR := Lib.hid hHR
    clear hm hb hS hB hHR
    by_cases hlt : k < D.length
    · have hd : decide ((k : Int) < (D.length : Int)) = true := decide_eq_true (by omega)
      obtain ⟨ad, rfl, hcell⟩ := HRR.out.at_ hlt
      have hmod := Nat.mod_lt k (show 0 < W by omega)
      have hcS := blk_cell HS.out (k % W) (.int .i64 ((Skew.sh W num den (k % W) : Nat) : Int)) (by rw [shL_get W num den W _ hmod, if_pos hmod])
      have hsh := Nat.le_trans (Skew.sh_le (num := num) hd1 hmod) (Skew.top_le hd1 h1 h2 hW.2)
      have hdv : k / W ≤ k := Nat.div_le_self _ _
      have hen := Skew.en_le D (Skew.rowOf W num den) k
      have hen2 := Nat.mul_le_mul (show k ≤ 4194304 by omega) (show k ≤ 4194304 by omega)
      have hen3 : Skew.en D (Skew.rowOf W num den) k ≤ 17592186044416 := by omega
      have hcn := Skew.cn_le D (Skew.rowOf W num den) k (Skew.rowOf W num den k)
      have hW0 : ((W : Int) == 0) = false := by rw [beq_eq_false_iff_ne]; omega
      have t1 : (k : Int).tdiv (W : Int) = ((k / W : Nat) : Int) := (Int.ofNat_tdiv k W).symm
      have t2 : (k : Int).tmod (W : Int) = ((k % W : Nat) : Int) := (Int.ofNat_tmod k W).symm
      have hrow : Skew.rowOf W num den k = k / W + Skew.sh W num den (k % W) := rfl
      rw [show D.getD k false = Skew.dk D k from rfl] at hcell
      have hcnf : ∀ z, Skew.cn D (Skew.rowOf W num den) (k + 1) z = Skew.cn D (Skew.rowOf W num den) k z + (if Skew.dk D k = true ∧ Skew.rowOf W num den k = z then 1 else 0) := fun z => by rw [Skew.cn]
      have HCN := Lib.hid hcnf
      have HEN := Lib.hid (show Skew.en D (Skew.rowOf W num den) (k + 1) = Skew.en D (Skew.rowOf W num den) k + (if Skew.dk D k = true then 2 * Skew.cn D (Skew.rowOf W num den) k (Skew.rowOf W num den k) + 1 else 0) from by rw [Skew.en])
      clear hen hen2 hcnf
      generalize hr : Skew.rowOf W num den k = r at *
      subst hrow
      generalize hs : Skew.sh W num den (k % W) = s at *
      generalize hq : k / W = q at *
      generalize hx : k % W = x at *
      generalize he : Skew.en D (Skew.rowOf W num den) k = en0 at *
      generalize hc0 : Skew.cn D (Skew.rowOf W num den) k (q + s) = cn0 at *
      have HC0 := Lib.hid hc0
      clear hr hs hq hx he hc0
      cases hdk : Skew.dk D k
      · rw [hdk] at hcell HCN HEN
        go_wp2_with fail
        go_roundw
        case rel => exact ⟨k + 1, n, by omega, by omega, by go_num, by rw [HEN.out]; simp, by rw [show Skew.cn D (Skew.rowOf W num den) (k + 1) = Skew.cn D (Skew.rowOf W num den) k from funext fun z => by rw [HCN.out z]; simp]; exact HM.out, Hb.out, HS.out, HB.out, hsz⟩
        case measure => simp [intOf]; omega
      · rw [hdk] at hcell HCN HEN
        go_wp2_with fail
        go_quiet (fail)
        have HMd : Hid (MapC (wr.drewN nq) w2.heap.size n (Skew.cn D (Skew.rowOf W num den) k)) := Lib.hid HM.out
        have HBd := Lib.hid (below_drewN HB.out nq)
        have HSd : Hid (ShB (wr.drewN nq) (w.heap.size + 1) W num den) := Lib.hid HS.out
        have Hbd : Hid (Blk (wr.drewN nq) w.heap.size 24 (matA W H (some ad) D.length c)) := Lib.hid Hb.out
        have hszd : w2.heap.size + 1 ≤ (wr.drewN nq).heap.size := hsz
        generalize wr.drewN nq = wd at *
        go_wp2_with (first | (at_lookup; refine wpList_get rfl _ _ rfl _ _ _ rfl HMd.out (q + s) (by omega) rfl cn0 HC0.out ?_) | (at_mapUpdate; refine wpList_put rfl _ _ _ rfl _ _ _ rfl HMd.out (by omega) (q + s) (by omega) rfl (cn0 + 1) (by omega) rfl ?_; intro wn HMn hg))
        go_roundw
        case rel => exact ⟨k + 1, n + 1, by omega, by omega, by go_num, by rw [HEN.out]; simp, by
          rw [show Skew.cn D (Skew.rowOf W num den) (k + 1) = (fun z => if q + s = z then cn0 + 1 else Skew.cn D (Skew.rowOf W num den) k z) from funext fun z => by
            rw [HCN.out z]
            by_cases hz : q + s = z
            · subst hz; simp [HC0.out]
            · simp [hz]]
          exact HMn, Hbd.out.grown hg (by simp; omega), Blk.grown HSd.out hg (by simp; omega), HBd.out.grown hg (by omega) (fun k hk => by injection hk with hk; omega), Nat.le_trans hszd hg.size⟩
        case measure => simp [intOf]; omega
    · have hd : decide ((k : Int) < (D.length : Int)) = false := decide_eq_false (by omega)
      obtain rfl : k = D.length := by omega
      go_wp2_with fail
      go_ret
      exact ⟨rfl, HB.out⟩
end Go.Proofs.Yticbpifgjjcjmaa
