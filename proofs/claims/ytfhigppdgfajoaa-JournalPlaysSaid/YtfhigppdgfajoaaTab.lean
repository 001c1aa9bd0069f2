/- The walks of checksum.step and checksum.table: the step of a register, and the table of the 256 registers after eight steps. -/
import Derived.Test.YtfhigppdgfajoaaProg
import Derived.Test.YtfhigppdgfajoaaMath
import Derived.Test.YtfhigppdgfajoaaBase
import Derived.Deep.LoopGhost
import Derived.Deep.QuietTactic
import Derived.BigQuiet
import Derived.WalkSpells
import Derived.WalkLawsBesides
import Derived.Lib.Hide
import Derived.Deep.DeepCutAuto
namespace Go.Proofs.Ytfhigppdgfajoaa
open Go.RowKit
theorem step_bits (x : Nat) (hx : x < 4294967296) : bits .and .u32 (x : Int) 1 = ((x % 2 : Nat) : Int) := by
  have := u32_and_nat x 1 hx (by decide)
  rw [nat_mask1] at this
  exact this
theorem step_val (x : Nat) (hx : x < 4294967296) (h : x % 2 = 1) : bits .xor .u32 ((x : Int) / 2) 3988292384 = ((CrcM.step x : Nat) : Int) := by
  have := u32_xor_nat (x / 2) 3988292384 (by omega) (by decide)
  rw [show (((x / 2 : Nat) : Int)) = (x : Int) / 2 by omega] at this
  rw [show ((3988292384 : Int)) = ((3988292384 : Nat) : Int) from rfl, this]
  unfold CrcM.step
  rw [if_pos h]; rfl
theorem step_val0 (x : Nat) (h : ¬ x % 2 = 1) : ((x : Int) / 2) = ((CrcM.step x : Nat) : Int) := by
  unfold CrcM.step
  rw [if_neg h]; omega
theorem step_any (x : Nat) (v : Int) (hv : v = x) (hx : x < 4294967296) (w : World) :
    Calls Try.prog 56 #[.int .u32 v] w fun e w' => e = .returned (.int .u32 ((CrcM.step x : Nat) : Int)) ∧ w = w' := by
  subst hv
  have ha := step_bits x hx
  by_cases h : x % 2 = 1
  · have hb : (bits .and .u32 (x : Int) 1 == 1) = true := by rw [ha, h]; rfl
    rw [← step_val x hx h]
    clear ha h
    go_enter Try.func56, Try.ntmps56
    go_wp2
    go_ret
    exact ⟨rfl, rfl⟩
  · have hb : (bits .and .u32 (x : Int) 1 == 1) = false := by rw [ha, show x % 2 = 0 by omega]; rfl
    rw [← step_val0 x h]
    clear ha h
    go_enter Try.func56, Try.ntmps56
    go_wp2
    go_ret
    exact ⟨rfl, rfl⟩
def zs : Array Value := Array.replicate 256 (.int .u32 0)
def tabL (k : Nat) : List Value := (List.range 256).map fun i => if i < k then .int .u32 ((CrcM.steps 8 i : Nat) : Int) else .int .u32 0
theorem info84 : (Try.prog.info? 84).bind (·.zero) = some (.agg zs) := by kernel_rfl
theorem info84s : (Try.prog.info? 84).map (·.size) = some 256 := by kernel_rfl
theorem und84 : Try.prog.underlying 84 = some (.array 256 58) := by kernel_rfl
theorem tab_get (k i : Nat) (hi : i < 256) : (tabL k).toArray[i]? = some (if i < k then .int .u32 ((CrcM.steps 8 i : Nat) : Int) else .int .u32 0) := by
  simp [tabL, List.getElem?_map, List.getElem?_range hi]
theorem tab_zero : (tabL 0).toArray = zs := by
  apply Array.ext
  · simp [tabL, zs]
  · intro i h1 h2; simp [tabL, zs]
theorem tab_set (k : Nat) (hk : k < 256) : (tabL k).toArray.setIfInBounds k (.int .u32 ((CrcM.steps 8 k : Nat) : Int)) = (tabL (k + 1)).toArray := by
  apply Array.ext_getElem?
  intro i
  rw [Array.getElem?_setIfInBounds]
  by_cases hi : i < 256
  · rw [tab_get _ _ hi, tab_get _ _ hi]
    by_cases hik : k = i
    · subst hik
      have : k < (tabL k).toArray.size := by simp [tabL, hi]
      rw [if_pos rfl, if_pos this, if_pos (by omega)]
    · have : i < k ↔ i < k + 1 := by omega
      simp [hik, this]
  · have h1 : (tabL k).toArray[i]? = none := by simp [tabL]; omega
    have h2 : (tabL (k + 1)).toArray[i]? = none := by simp [tabL]; omega
    have h3 : ¬ k = i := by omega
    rw [h1, h2, if_neg h3]
theorem tab_size : (Try.prog.info? 84).map (·.size) = some (tabL 256).toArray.size := by rw [show (tabL 256).toArray.size = 256 from by simp [tabL]]; exact info84s
theorem tab_same : zs.size = (tabL 256).toArray.size := by simp [zs, tabL]
theorem tab_one : (tabL 256).toArray.all (·.oneCell') = true := by
  rw [Array.all_eq_true]
  intro i hi
  have : ∀ v ∈ tabL 256, v.oneCell' = true := by
    intro v hv
    simp only [tabL, List.mem_map] at hv
    obtain ⟨j, _, rfl⟩ := hv
    split <;> rfl
  exact this _ (by simp)
attribute [irreducible] zs tabL
/-- what a new table variable holds -/
theorem cells_zs : (Value.agg zs).cells = zs := rfl
def tabV : Value := .agg (tabL 256).toArray
theorem blk_cell {w : World} {g : Nat} {t : TypeId} {cs : Array Value} (h : Blk w g t cs) (i : Nat) (v : Value) (hv : cs[i]? = some v) : w.cell? ⟨g, i, none⟩ = some v := (h.cell i).trans hv
theorem CrcM.steps_snoc (m x : Nat) : CrcM.steps (m + 1) x = CrcM.step (CrcM.steps m x) := by
  rw [CrcM.steps_add, show (1 : Nat) = 0 + 1 from rfl, CrcM.steps_succ, CrcM.steps_0]
set_option maxRecDepth 100000 in
set_option maxHeartbeats 1000000 in
theorem table_any (w : World) :
    Calls Try.prog 48 #[] w fun e w' => e = .returned tabV ∧ Below w.heap.size w w' := by
  go_enter Try.func48, Try.ntmps48
  go_wp2_with (refine wpList_new rfl 84 rfl (.agg zs) info84 ?_; rw [cells_zs]; intro w2 hb2 hB2 hz2)
  rename_i w1 hb1 hB1 hz1 K hK
  have hb1' := hb1.below hB2 hb1.lt
  have hB := hB1.trans (hB2.mono (by omega))
  rw [hz1] at hb2 hz2
  clear hb1 hB1 hB2
  have H1 := Lib.hid hz1
  have H2 := Lib.hid hz2
  clear hz2
  go_wp2_with fail
  clear hz1
  have hb2 : Blk w2 (w.heap.size + 1) 84 (tabL 0).toArray := by rw [tab_zero]; exact hb2
  have hlt : w.heap.size + 2 ≤ w2.heap.size := by rw [H2.out]; omega
  clear H1 H2
  go_loopw [4] (fun v wr => ∃ k : Nat, k ≤ 256 ∧ v = .int .i64 k ∧ Blk wr w.heap.size 84 zs ∧ Blk wr (w.heap.size + 1) 84 (tabL k).toArray ∧ Below w.heap.size w wr) (fun v _ => 256 - (intOf v).toNat)
  case atStart => exact ⟨0, by omega, rfl, hb1', hb2, hB⟩
  case round =>
    clear hb1' hb2 hB hlt
    obtain ⟨k, hk, rfl, h1, h2, hB⟩ := hrel
    by_cases hlt : k < 256
    · have hd : decide ((k : Int) < 256) = true := decide_eq_true (by omega)
      go_wp2_with fail
      have hfr := h2.frozen k
      have hcell := blk_cell h2 k (.int .u32 0) (by rw [tab_get _ _ hlt, if_neg (by omega)])
      go_loop [3, 9] (fun x j => ∃ m : Nat, m ≤ 8 ∧ j = .int .i64 m ∧ x = .int .u32 ((CrcM.steps m k : Nat) : Int)) (fun _ j => 8 - (intOf j).toNat)
      case atStart => exact ⟨0, by omega, rfl, by rw [CrcM.steps_0]⟩
      case round =>
        obtain ⟨m, hm, rfl, rfl⟩ := hrel
        have hx : CrcM.steps m k < 4294967296 := CrcM.steps_lt (by omega)
        by_cases hm8 : m < 8
        · have hd8 : decide ((m : Int) < 8) = true := decide_eq_true (by omega)
          go_wp2_with (go_at_call 56; refine (step_any _ _ rfl hx _).mono ?_; rintro e w' ⟨rfl, rfl⟩)
          go_round
          case rel => exact ⟨m + 1, by omega, by go_num, by rw [CrcM.steps_snoc]⟩
          case measure => simp [intOf]; omega
        · obtain rfl : m = 8 := by omega
          clear hm hm8
          go_wp2_with fail
          go_roundw
          case rel => exact ⟨k + 1, by omega, by go_num, h1.far (by simp) _, by rw [← tab_set k hlt]; exact h2.set_ _ _, hB.setCell (by simp) _⟩
          case measure => simp [intOf]; omega
    · have hd : decide ((k : Int) < 256) = false := decide_eq_false (by omega)
      have h2 : Blk wr (w.heap.size + 1) 84 (tabL 256).toArray := by rw [show 256 = k by omega]; exact h2
      go_wp2_with (first | refine wpList_load_row rfl 84 _ rfl _ rfl 84 _ (0, 0) _ h2 und84 rfl tab_size ?_ | refine wpList_store_row rfl 84 _ _ rfl _ (tabL 256).toArray rfl rfl 84 _ h1 tab_size tab_same tab_one ?_)
      exact bodyPost_ret (v := tabV) (results_cell_row rfl _ _ w.heap.size 84 (tabL 256).toArray (0, 0) _ rfl (h1.setRow _) und84 rfl tab_size) rfl ⟨rfl, below_setRow hB (Nat.le_refl _) _⟩
end Go.Proofs.Ytfhigppdgfajoaa
