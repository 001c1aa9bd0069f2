/- The walk of the reference's Energy. -/
import Derived.Test.YticbpifgjjcjmaaEnx
import Derived.Test.YticbpifgjjcjmaaApp
namespace Go.Proofs.Yticbpifgjjcjmaa
open Go.RowKit Go.Maps
def lenOf : Value → Nat
  | .slice _ n _ => n
  | _ => 0
/-- the counts of the first k pixels, from the first L on none -/
def Far (D : List Bool) (f : Nat → Nat) (k L : Nat) : Prop := ∀ i, i < k → Skew.dk D i = true → f i < L
theorem below_grownV' {base : Nat} {w0 W w1 : World} {v : Value} {e : TypeId} {p : List Value} (hb : Below base w0 W) (hB : base + 1 ≤ W.heap.size) (hO : OwnV W (base + 1) e v p) (hg : W.grownBy w1 v.ownBlock) : Below base w0 w1 :=
  hb.grown hg (by omega) (fun k hk => by have := hO.base_ k hk; omega)
theorem rowOf_lt {W k : Nat} {num den : Int} (hW : 1 ≤ W) (hW2 : W ≤ 4096) (hd1 : 1 ≤ den) (h1 : -4096 ≤ num) (h2 : num ≤ 4096) (hk : k < 4194304) : Skew.rowOf W num den k ≤ 37748736 := by
  have hmod := Nat.mod_lt k (show 0 < W by omega)
  have hsh := Nat.le_trans (Skew.sh_le (num := num) hd1 hmod) (Skew.top_le hd1 h1 h2 hW2)
  have hdv : k / W ≤ k := Nat.div_le_self _ _
  unfold Skew.rowOf; omega
theorem sq_le {c : Nat → Nat} {L M y : Nat} (h : Skew.sq c L ≤ M) (hy : y < L) : Skew.sq c y + c y * c y ≤ M := by
  have : ∀ L, y < L → Skew.sq c y + c y * c y ≤ Skew.sq c L := by
    intro L
    induction L with
    | zero => omega
    | succ L ih =>
      intro hy
      rw [Skew.sq]
      by_cases h : y = L
      · subst h; omega
      · have := ih (by omega); omega
  have := this L hy; omega
set_option maxRecDepth 100000 in
set_option maxHeartbeats 2000000 in
theorem refenergyx_any (W H : Int) (A : Option Addr) (D : List Bool) (c : Nat) (num den : Int) (w : World) (hr : RdB w A D) :
    Calls Try.prog 18 #[.agg (matA W H A D.length c), .int .i64 num, .int .i64 den] w fun e w' => e = .returned (.tuple #[.int .i64 (((energyS W H D num den).1 : Nat) : Int), .int .i64 (energyS W H D num den).2]) ∧ Below w.heap.size w w' := by
  have HR := Lib.hid hr
  clear hr
  cases hs : sndB W H D.length
  · have he : energyS W H D num den = (0, 1) := by unfold energyS; rw [hs]; rfl
    rw [he]
    unfold matA
    go_enter Try.func18, Try.ntmps18
    go_wp2_with (refine wpList_box rfl 24 _ rfl _ rfl ?_; intro w1 hb1 hB1 hz1; have hb1 : Blk w1 w.heap.size 24 (matA W H A D.length c) := hb1; obtain ⟨c0, c1, c2⟩ := mat_cells hb1; have H1 := Lib.hid hz1; clear hz1)
    refine (refcheck_any W H A D.length c _).mono ?_
    rintro e w2 ⟨rfl, hB2⟩
    rw [hs]
    have HBB := Lib.hid (hB1.trans (hB2.mono (by have := H1.out; omega)))
    go_wp2_with fail
    go_ret2
    exact ⟨rfl, HBB.out⟩
  · cases hp : posB num den
    · have he : energyS W H D num den = (0, 3) := by unfold energyS; rw [hs, hp]; rfl
      rw [he]
      unfold matA
      go_enter Try.func18, Try.ntmps18
      go_wp2_with (refine wpList_box rfl 24 _ rfl _ rfl ?_; intro w1 hb1 hB1 hz1; have hb1 : Blk w1 w.heap.size 24 (matA W H A D.length c) := hb1; obtain ⟨c0, c1, c2⟩ := mat_cells hb1; have H1 := Lib.hid hz1; clear hz1)
      refine (refcheck_any W H A D.length c _).mono ?_
      rintro e w2 ⟨rfl, hB2⟩
      rw [hs]
      have HBB := Lib.hid (hB1.trans (hB2.mono (by have := H1.out; omega)))
      go_wp2_with fail
      refine (refpossible_any num den _).mono ?_
      rintro e w3 ⟨rfl, rfl⟩
      rw [hp]
      go_wp2_with fail
      go_ret2
      exact ⟨rfl, HBB.out⟩
    · have he : energyS W H D num den = (Skew.energy W.toNat D num den, 0) := by unfold energyS; rw [hs, hp]; rfl
      rw [he]
      obtain ⟨W, H, rfl, rfl, hW1, hW2, hH1, hH2, hD, hDl⟩ := snd_nat hs
      obtain ⟨hd1, hd2, hn1, hn2⟩ := pos_of hp
      rw [Int.toNat_natCast]
      have HD := Lib.hid hD
      clear hD he
      unfold matA
      go_enter Try.func18, Try.ntmps18
      go_wp2_with (refine wpList_box rfl 24 _ rfl _ rfl ?_; intro w1 hb1 hB1 hz1; have hb1 : Blk w1 w.heap.size 24 (matA W H A D.length c) := hb1; obtain ⟨c0, c1, c2⟩ := mat_cells hb1; have H1 := Lib.hid hz1; clear hz1)
      refine (refcheck_any W H A D.length c _).mono ?_
      rintro e w2 ⟨rfl, hB2⟩
      rw [hs]
      have HBB := Lib.hid (hB1.trans (hB2.mono (by have := H1.out; omega)))
      have HB2 := Lib.hid (hb1.below hB2 (by have := H1.out; omega))
      have hsz2 : w.heap.size + 1 ≤ w2.heap.size := by have := hB2.size; have := H1.out; omega
      obtain ⟨c0', c1', c2'⟩ := mat_cells HB2.out
      clear c0 c1 c2 hB1 hB2 hb1
      go_wp2_with fail
      refine (refpossible_any num den _).mono ?_
      rintro e w3 ⟨rfl, rfl⟩
      rw [hp]
      clear hs hp
      go_wp2_with fail
      have HO : Hid (OwnV w2 (w.heap.size + 1) 3 (.slice none 0 0) (numL (Skew.cn D (Skew.rowOf W num den) 0) 0)) := Lib.hid (by unfold numL; exact OwnV.nil _ _ _)
      clear c0' c1' c2'
      go_loopw [8, 9] (fun vr vi wr => ∃ k L : Nat, k ≤ D.length ∧ L ≤ 37748737 ∧ vi = .int .i64 (k : Int) ∧ OwnV wr (w.heap.size + 1) 3 vr (numL (Skew.cn D (Skew.rowOf W num den) k) L) ∧ Far D (Skew.rowOf W num den) k L ∧ Blk wr w.heap.size 24 (matA W H A D.length c) ∧ Below w.heap.size w wr ∧ w.heap.size + 1 ≤ wr.heap.size) (fun _ vi _ => D.length - (intOf vi).toNat)
      case atStart => exact ⟨0, 0, Nat.zero_le _, by omega, rfl, HO.out, fun i hi => absurd hi (Nat.not_lt_zero _), HB2.out, HBB.out, hsz2⟩
      case round =>
        clear HO HB2 HBB
        obtain ⟨k, L, hk, hL, rfl, hO, hfar, hb, hB, hsz⟩ := hrel
        have HO := Lib.hid hO
        have HF := Lib.hid hfar
        have Hb := Lib.hid hb
        have HB := Lib.hid hB
        obtain ⟨c0, c1, c2⟩ := mat_cells hb
        have hHR := HR.out.below hB (Nat.le_refl _)
        have HRR := Lib.hid hHR
        clear hO hfar hb hB hHR
        by_cases hlt : k < D.length
        · have hd : decide ((k : Int) < (D.length : Int)) = true := decide_eq_true (by omega)
          obtain ⟨ad, rfl, hcell⟩ := HRR.out.at_ hlt
          have hmod := Nat.mod_lt k (show 0 < W by omega)
          have hsh := Nat.le_trans (Skew.sh_le (num := num) hd1 hmod) (Skew.top_le hd1 hn1 hn2 hW2)
          have hdv : k / W ≤ k := Nat.div_le_self _ _
          have hW0 : ((W : Int) == 0) = false := by rw [beq_eq_false_iff_ne]; omega
          have t1 : (k : Int).tdiv (W : Int) = ((k / W : Nat) : Int) := (Int.ofNat_tdiv k W).symm
          have t2 : (k : Int).tmod (W : Int) = ((k % W : Nat) : Int) := (Int.ofNat_tmod k W).symm
          have hrow : Skew.rowOf W num den k = k / W + Skew.sh W num den (k % W) := rfl
          rw [show D.getD k false = Skew.dk D k from rfl] at hcell
          cases hdk : Skew.dk D k
          · rw [hdk] at hcell
            have HCN := Lib.hid (show numL (Skew.cn D (Skew.rowOf W num den) k) L = numL (Skew.cn D (Skew.rowOf W num den) (k + 1)) L from numL_congr _ _ _ (fun y _ => (Skew.cn_light hdk y).symm))
            have HF2 : Hid (Far D (Skew.rowOf W num den) (k + 1) L) := Lib.hid (fun i hi hdi => by
              by_cases hik : i = k
              · subst hik; rw [hdk] at hdi; cases hdi
              · exact HF.out i (by omega) hdi)
            clear hdk
            go_wp2_with fail
            go_roundw
            case rel => exact ⟨k + 1, L, by omega, hL, by go_num, by rw [← HCN.out]; exact HO.out, HF2.out, Hb.out, HB.out, hsz⟩
            case measure => simp [intOf]; omega
          · rw [hdk] at hcell
            go_wp2_with fail
            go_quiet (refine Calls.quiet_of_same ((refshift_any (k % W) W num den hmod hW2 hd1 hn1 hn2 _).mono fun _ _ h => ⟨h.1, h.2.symm⟩))
            have HOd : Hid (OwnV (wr.drewN nq) (w.heap.size + 1) 3 _ (numL (Skew.cn D (Skew.rowOf W num den) k) L)) := Lib.hid HO.out
            have HBd := Lib.hid (below_drewN HB.out nq)
            have Hbd : Hid (Blk (wr.drewN nq) w.heap.size 24 (matA W H (some ad) D.length c)) := Lib.hid Hb.out
            have hszd : w.heap.size + 1 ≤ (wr.drewN nq).heap.size := hsz
            generalize wr.drewN nq = wd at *
            have hrl := rowOf_lt (num := num) hW1 hW2 hd1 hn1 hn2 (show k < 4194304 by omega)
            have hcnl := Skew.cn_le D (Skew.rowOf W num den) k (Skew.rowOf W num den k)
            have HDK := Lib.hid hdk
            go_wp2_with fail
            rw [show (k : Int) / (W : Int) + ((Skew.sh W num den (k % W) : Nat) : Int) = ((Skew.rowOf W num den k : Nat) : Int) from by rw [hrow]; rfl]
            clear hrow t1 t2 hcell hmod hsh hdv c0 c1 c2 HO Hb HB HRR hsz hdk
            generalize hr : Skew.rowOf W num den k = r at *
            have HRW := Lib.hid hr
            clear hr
            go_loopw [8] (fun vv wv => ∃ M : Nat, L ≤ M ∧ M ≤ 37748737 ∧ OwnV wv (w.heap.size + 1) 3 vv (numL (Skew.cn D (Skew.rowOf W num den) k) M) ∧ Blk wv w.heap.size 24 (matA W H (some ad) D.length c) ∧ Below w.heap.size w wv ∧ w.heap.size + 1 ≤ wv.heap.size) (fun vv _ => r + 1 - lenOf vv)
            case atStart => exact ⟨L, Nat.le_refl _, hL, HOd.out, Hbd.out, HBd.out, hszd⟩
            case round =>
              clear HOd HBd Hbd hszd
              obtain ⟨M, hLM, hM, hO, hb, hB, hsz⟩ := hrel
              have HO := Lib.hid hO
              have Hb := Lib.hid hb
              have HB := Lib.hid hB
              obtain ⟨A', c', rfl⟩ := hO.slice
              clear hO hb hB
              rw [numL_len] at *
              by_cases hlt2 : M ≤ r
              · have hd2 : decide ((M : Int) ≤ (r : Int)) = true := decide_eq_true (by omega)
                go_wp2_with (at_builtin; refine wpList_app1V rfl _ _ 44 rfl (w.heap.size + 1) 3 (.int .i64 0) 8 Try.underlying44 info3 rfl (by decide) _ _ rfl HO.out _ (.int .i64 0) rfl rfl rfl (by rw [numL_len]; omega) hsz ?_; intro v1 w1 HO1 hg1 hat1)
                obtain ⟨A1, c1, rfl⟩ := HO1.slice
                rw [List.length_append, numL_len] at *
                go_roundw
                case rel => exact ⟨M + 1, by omega, by omega, by rw [numL_succ, Skew.cn_far HF.out hLM]; exact HO1, Hb.out.grown hg1 (fun e => by have := HO.out.base_ _ e.symm; omega), below_grownV' HB.out hsz HO.out hg1, Nat.le_trans hsz hg1.size⟩
                case measure => simp [lenOf]; omega
              · have hd2 : decide ((M : Int) ≤ (r : Int)) = false := decide_eq_false (by omega)
                have hlr : r < M := by omega
                obtain ⟨g, cap, hv, hg1, hg2, hcells, hfr, hset⟩ := HO.out.form (by rw [numL_len]; omega)
                rw [numL_len] at hv
                injection hv with e1 e2 e3
                subst e1 e3
                have hcell := hcells r _ (numL_get _ M r hlr)
                have hf0 := hfr r
                have hcd : ∀ y, Skew.cn D (Skew.rowOf W num den) (k + 1) y = Skew.cn D (Skew.rowOf W num den) k y + (if r = y then 1 else 0) := fun y => by rw [Skew.cn_dark HDK.out, HRW.out]
                have hns := hset r (.int .i64 ((Skew.cn D (Skew.rowOf W num den) (k + 1) r : Nat) : Int)) (by rw [numL_len]; exact hlr)
                rw [numL_set _ (Skew.cn D (Skew.rowOf W num den) (k + 1)) M r (fun i _ hi => by rw [hcd, if_neg (fun e => hi e.symm)]; rfl)] at hns
                have hcr := hcd r
                rw [if_pos rfl] at hcr
                rw [hcr] at hns
                have HNS := Lib.hid hns
                have HFN : Hid (Far D (Skew.rowOf W num den) (k + 1) M) := Lib.hid (fun i hi hdi => by
                  by_cases hik : i = k
                  · subst hik; rw [HRW.out]; exact hlr
                  · exact Nat.lt_of_lt_of_le (HF.out i (by omega) hdi) hLM)
                clear hns hcd hcells hfr hset hcr e2
                generalize Skew.cn D (Skew.rowOf W num den) k r = cr at *
                go_wp2_with fail
                go_roundw
                case rel => exact ⟨k + 1, M, by omega, hM, by go_num, HNS.out, HFN.out, Hb.out.far (by simp; omega) _, HB.out.setCell (by simp; omega) _, by simpa using hsz⟩
                case measure => simp [intOf]; omega
        · have hd : decide ((k : Int) < (D.length : Int)) = false := decide_eq_false (by omega)
          obtain rfl : k = D.length := by omega
          have hsq : Skew.sq (Skew.cn D (Skew.rowOf W num den) D.length) L = Skew.energy W D num den := Skew.sq_en HF.out
          have hel := Skew.en_le D (Skew.rowOf W num den) D.length
          have hen2 := Nat.mul_le_mul (show D.length ≤ 4194304 by omega) (show D.length ≤ 4194304 by omega)
          have hsqb : Skew.sq (Skew.cn D (Skew.rowOf W num den) D.length) L ≤ 17592186044416 := by rw [hsq]; exact Nat.le_trans hel hen2
          have HSQ := Lib.hid hsq
          have HSB := Lib.hid hsqb
          obtain ⟨A', c', rfl⟩ := HO.out.slice
          rw [numL_len] at *
          clear hel hen2 hsq hsqb HR HRR
          go_wp2_with fail
          clear Hb c0 c1 c2 HD hb1
          go_loopw [11, 12] (fun vs vy wv => ∃ y : Nat, y ≤ L ∧ vy = .int .i64 (y : Int) ∧ vs = .int .i64 ((Skew.sq (Skew.cn D (Skew.rowOf W num den) D.length) y : Nat) : Int) ∧ OwnV wv (w.heap.size + 1) 3 (.slice A' L c') (numL (Skew.cn D (Skew.rowOf W num den) D.length) L) ∧ Below w.heap.size w wv) (fun _ vy _ => L - (intOf vy).toNat)
          case atStart => exact ⟨0, Nat.zero_le _, rfl, rfl, HO.out, HB.out⟩
          case round =>
            clear HO HB
            obtain ⟨y, hy, rfl, rfl, hO, hB⟩ := hrel
            have HO := Lib.hid hO
            have HB := Lib.hid hB
            clear hO hB
            by_cases hlt : y < L
            · have hd3 : decide ((y : Int) < (L : Int)) = true := decide_eq_true (by omega)
              obtain ⟨g, cap, hv, hg1, hg2, hcells, hfr, hset⟩ := HO.out.form (by rw [numL_len]; omega)
              rw [numL_len] at hv
              injection hv with e1 e2 e3
              subst e1 e3
              have hcell := hcells y _ (numL_get _ L y hlt)
              have hb1 := sq_le HSB.out hlt
              have HSS := Lib.hid (show Skew.sq (Skew.cn D (Skew.rowOf W num den) D.length) (y + 1) = Skew.sq (Skew.cn D (Skew.rowOf W num den) D.length) y + Skew.cn D (Skew.rowOf W num den) D.length y * Skew.cn D (Skew.rowOf W num den) D.length y from rfl)
              clear hcells hfr hset e2
              generalize Skew.sq (Skew.cn D (Skew.rowOf W num den) D.length) y = s0 at *
              generalize hcy : Skew.cn D (Skew.rowOf W num den) D.length y = cy at *
              have HCY := Lib.hid hcy
              clear hcy
              generalize hm : cy * cy = m at *
              have q1 : IntKind.i64.wrap ((cy : Int) * (cy : Int)) = (m : Int) := by
                rw [show (cy : Int) * (cy : Int) = (m : Int) from by rw [← hm]; exact (Int.natCast_mul _ _).symm, IntKind.wrap_i64]; omega
              have q2 : IntKind.i64.wrap ((s0 : Int) + (m : Int)) = ((s0 + m : Nat) : Int) := by rw [IntKind.wrap_i64]; omega
              clear hm
              go_wp2_with fail
              refine wp_region_still_tail 11 mixed (by kernel_rfl) ?_
              change wpStill _ _ (World.drew _) _ _ _
              change wpStill _ _ _ (fun a' => wpList _ _ _ _ a' (World.drew _)) _ _
              simp only [List.take_succ_cons, List.take_zero, List.drop_succ_cons, List.drop_zero]
              repeat still_step
              refine wpStill_nil ?_
              have HOd : Hid (OwnV wr.drew (w.heap.size + 1) 3 (.slice (some ⟨g, 0, none⟩) L c') (numL (Skew.cn D (Skew.rowOf W num den) D.length) L)) := Lib.hid HO.out
              have HBd := Lib.hid HB.out.drew
              go_wp2
              go_roundw
              case rel => exact ⟨y + 1, by omega, by go_num, by rw [HSS.out]; rfl, HOd.out, HBd.out⟩
              case measure => simp [intOf]; omega
            · have hd3 : decide ((y : Int) < (L : Int)) = false := decide_eq_false (by omega)
              obtain rfl : y = L := by omega
              go_wp2_with fail
              go_ret2
              exact ⟨by rw [HSQ.out]; rfl, HB.out⟩
end Go.Proofs.Yticbpifgjjcjmaa
