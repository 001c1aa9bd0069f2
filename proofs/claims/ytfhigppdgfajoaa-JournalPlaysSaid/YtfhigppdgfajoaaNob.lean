/- A journal that is nil, and one that Open did not return. -/
import Derived.Test.YtfhigppdgfajoaaArg
namespace Go.Proofs.Ytfhigppdgfajoaa
open Go.RowKit Go.MuLone
/-- the cells of a journal that is not open -/
def jnA (st : Int) : Array Value := #[.int .i32 st, .int .u32 0, .bool false, .slice none 0 0, .int .i64 0]
theorem jn_cells {w : World} {g : Nat} {st : Int} (h : Blk w g 64 (jnA st)) :
    w.cell? ⟨g, 0, none⟩ = some (.int .i32 st) ∧ w.cell? ⟨g, 2, none⟩ = some (.bool false) ∧ w.cell? ⟨g, 3, none⟩ = some (.slice none 0 0) ∧ w.cell? ⟨g, 4, none⟩ = some (.int .i64 0) ∧ ∀ i, w.frozen? ⟨g, i, none⟩ = false :=
  ⟨h.cell 0, h.cell 2, h.cell 3, h.cell 4, fun i => h.frozen i⟩
theorem nob_frame {w : World} {g : Nat} (hb : Blk w g 64 (jnA 0)) : Below w.heap.size w ((w.setCell ⟨g, 0, none⟩ (.int .i32 1)).setCell ⟨g, 0, none⟩ (.int .i32 0)) := by
  have hb1 : Blk (w.setCell ⟨g, 0, none⟩ (.int .i32 1)) g 64 (jnA 1) := hb.set_ 0 _
  have hb3 : Blk ((w.setCell ⟨g, 0, none⟩ (.int .i32 1)).setCell ⟨g, 0, none⟩ (.int .i32 0)) g 64 (jnA 0) := hb1.set_ 0 _
  refine ⟨by simp [World.setCell], by simp [World.setCell], by simp [World.setCell], by simp [World.setCell], fun k hk => ?_⟩
  by_cases hkg : k = g
  · subst hkg
    exact hb3.trans hb.symm
  · rw [Below.heap_setCell _ ⟨g, 0, none⟩ _ k hkg, Below.heap_setCell w ⟨g, 0, none⟩ _ k hkg]
set_option maxRecDepth 100000 in
set_option maxHeartbeats 1000000 in
theorem nil_append (A : Option Addr) (l c : Nat) (w : World) : Calls Try.prog 21 #[.pointer none, .slice A l c] w fun e w' => e = .returned (.int .i64 2) ∧ w = w' := by
  go_enter_defers Try.func21, Try.ntmps21
  go_wp2_with fail
  exact ⟨_, results_tmp rfl _ _ _, rfl, rfl⟩
set_option maxRecDepth 100000 in
set_option maxHeartbeats 1000000 in
theorem nil_truncate (n : Int) (w : World) : Calls Try.prog 17 #[.pointer none, .int .i64 n] w fun e w' => e = .returned (.int .i64 2) ∧ w = w' := by
  go_enter_defers Try.func17, Try.ntmps17
  go_wp2_with fail
  exact ⟨_, results_tmp rfl _ _ _, rfl, rfl⟩
set_option maxRecDepth 100000 in
set_option maxHeartbeats 1000000 in
theorem nil_compact (A : Option Addr) (l c : Nat) (w : World) : Calls Try.prog 24 #[.pointer none, .slice A l c] w fun e w' => e = .returned (.int .i64 2) ∧ w = w' := by
  go_enter_defers Try.func24, Try.ntmps24
  go_wp2_with fail
  exact ⟨_, results_tmp rfl _ _ _, rfl, rfl⟩
set_option maxRecDepth 100000 in
set_option maxHeartbeats 1000000 in
theorem nil_records (w : World) : Calls Try.prog 18 #[.pointer none] w fun e w' => e = .returned (.slice none 0 0) ∧ w = w' := by
  go_enter_defers Try.func18, Try.ntmps18
  go_wp2_with fail
  exact ⟨_, results_tmp rfl _ _ _, rfl, rfl⟩
set_option maxRecDepth 100000 in
set_option maxHeartbeats 1000000 in
theorem nil_bytes (w : World) : Calls Try.prog 16 #[.pointer none] w fun e w' => e = .returned (.slice none 0 0) ∧ w = w' := by
  go_enter_defers Try.func16, Try.ntmps16
  go_wp2_with fail
  exact ⟨_, results_tmp rfl _ _ _, rfl, rfl⟩
set_option maxRecDepth 100000 in
set_option maxHeartbeats 1000000 in
theorem nob_append (A : Option Addr) (l c : Nat) (g : Nat) (w : World) (hb : Blk w g 64 (jnA 0)) : Calls Try.prog 21 #[.pointer (some ⟨g, 0, none⟩), .slice A l c] w fun e w' => e = .returned (.int .i64 2) ∧ Below w.heap.size w w' := by
  have hF := nob_frame hb
  have HF := Lib.hid hF
  have hb1 : Blk (w.setCell ⟨g, 0, none⟩ (.int .i32 1)) g 64 (jnA 1) := hb.set_ 0 _
  obtain ⟨c0, c2, c3, c4, cf⟩ := jn_cells hb
  have C0 := Lib.hid c0
  have CF := Lib.hid cf
  clear c0 c2 c3 c4 cf hF hb
  go_enter_defers Try.func21, Try.ntmps21
  go_wp2_with (go_at_call 31; refine (lock_free muLib ⟨g, 0, none⟩ _ C0.out (CF.out 0)).mono ?_; rintro e w1 ⟨rfl, h31⟩; rw [← h31] at hb1 HF; clear h31; obtain ⟨_, d2, d3, d4, df⟩ := jn_cells hb1)
  refine leaves_cons (f := 32) (args := #[.pointer (some ⟨g, 0, none⟩)]) (by simp) (by simp [go_sem]) ?_
  refine (unlock_deferred muLib ⟨g, 0, none⟩ .returning _ (jn_cells hb1).1 (hb1.frozen 0)).mono ?_
  rintro e u' w'' ⟨rfl, rfl, rfl⟩
  exact ⟨_, results_tmp rfl _ _ _, rfl, HF.out⟩
set_option maxRecDepth 100000 in
set_option maxHeartbeats 1000000 in
theorem nob_truncate (n : Int) (g : Nat) (w : World) (hb : Blk w g 64 (jnA 0)) : Calls Try.prog 17 #[.pointer (some ⟨g, 0, none⟩), .int .i64 n] w fun e w' => e = .returned (.int .i64 2) ∧ Below w.heap.size w w' := by
  have hF := nob_frame hb
  have HF := Lib.hid hF
  have hb1 : Blk (w.setCell ⟨g, 0, none⟩ (.int .i32 1)) g 64 (jnA 1) := hb.set_ 0 _
  obtain ⟨c0, c2, c3, c4, cf⟩ := jn_cells hb
  have C0 := Lib.hid c0
  have CF := Lib.hid cf
  clear c0 c2 c3 c4 cf hF hb
  go_enter_defers Try.func17, Try.ntmps17
  go_wp2_with (go_at_call 31; refine (lock_free muLib ⟨g, 0, none⟩ _ C0.out (CF.out 0)).mono ?_; rintro e w1 ⟨rfl, h31⟩; rw [← h31] at hb1 HF; clear h31; obtain ⟨_, d2, d3, d4, df⟩ := jn_cells hb1)
  refine leaves_cons (f := 32) (args := #[.pointer (some ⟨g, 0, none⟩)]) (by simp) (by simp [go_sem]) ?_
  refine (unlock_deferred muLib ⟨g, 0, none⟩ .returning _ (jn_cells hb1).1 (hb1.frozen 0)).mono ?_
  rintro e u' w'' ⟨rfl, rfl, rfl⟩
  exact ⟨_, results_tmp rfl _ _ _, rfl, HF.out⟩
set_option maxRecDepth 100000 in
set_option maxHeartbeats 1000000 in
theorem nob_compact (A : Option Addr) (l c : Nat) (g : Nat) (w : World) (hb : Blk w g 64 (jnA 0)) : Calls Try.prog 24 #[.pointer (some ⟨g, 0, none⟩), .slice A l c] w fun e w' => e = .returned (.int .i64 2) ∧ Below w.heap.size w w' := by
  have hF := nob_frame hb
  have HF := Lib.hid hF
  have hb1 : Blk (w.setCell ⟨g, 0, none⟩ (.int .i32 1)) g 64 (jnA 1) := hb.set_ 0 _
  obtain ⟨c0, c2, c3, c4, cf⟩ := jn_cells hb
  have C0 := Lib.hid c0
  have CF := Lib.hid cf
  clear c0 c2 c3 c4 cf hF hb
  go_enter_defers Try.func24, Try.ntmps24
  go_wp2_with (go_at_call 31; refine (lock_free muLib ⟨g, 0, none⟩ _ C0.out (CF.out 0)).mono ?_; rintro e w1 ⟨rfl, h31⟩; rw [← h31] at hb1 HF; clear h31; obtain ⟨_, d2, d3, d4, df⟩ := jn_cells hb1)
  refine leaves_cons (f := 32) (args := #[.pointer (some ⟨g, 0, none⟩)]) (by simp) (by simp [go_sem]) ?_
  refine (unlock_deferred muLib ⟨g, 0, none⟩ .returning _ (jn_cells hb1).1 (hb1.frozen 0)).mono ?_
  rintro e u' w'' ⟨rfl, rfl, rfl⟩
  exact ⟨_, results_tmp rfl _ _ _, rfl, HF.out⟩
set_option maxRecDepth 100000 in
set_option maxHeartbeats 1000000 in
theorem nob_records (g : Nat) (w : World) (hb : Blk w g 64 (jnA 0)) : Calls Try.prog 18 #[.pointer (some ⟨g, 0, none⟩)] w fun e w' => e = .returned (.slice none 0 0) ∧ Below w.heap.size w w' := by
  have hF := nob_frame hb
  have HF := Lib.hid hF
  have hb1 : Blk (w.setCell ⟨g, 0, none⟩ (.int .i32 1)) g 64 (jnA 1) := hb.set_ 0 _
  obtain ⟨c0, c2, c3, c4, cf⟩ := jn_cells hb
  have C0 := Lib.hid c0
  have CF := Lib.hid cf
  clear c0 c2 c3 c4 cf hF hb
  go_enter_defers Try.func18, Try.ntmps18
  go_wp2_with (go_at_call 31; refine (lock_free muLib ⟨g, 0, none⟩ _ C0.out (CF.out 0)).mono ?_; rintro e w1 ⟨rfl, h31⟩; rw [← h31] at hb1 HF; clear h31; obtain ⟨_, d2, d3, d4, df⟩ := jn_cells hb1)
  go_loopw [3, 20] (fun vo vi wr => vo = .slice none 0 0 ∧ vi = .int .i64 0 ∧ wr = w1) (fun _ _ _ => 0)
  case atStart => exact ⟨rfl, rfl, rfl⟩
  case round =>
    obtain ⟨rfl, rfl, rfl⟩ := hrel
    go_wp2_with fail
    refine leaves_cons (f := 32) (args := #[.pointer (some ⟨g, 0, none⟩)]) (by simp) (by simp [go_sem]) ?_
    refine (unlock_deferred muLib ⟨g, 0, none⟩ .returning _ (jn_cells hb1).1 (hb1.frozen 0)).mono ?_
    rintro e u' w'' ⟨rfl, rfl, rfl⟩
    exact ⟨_, results_tmp rfl _ _ _, rfl, HF.out⟩
set_option maxRecDepth 100000 in
set_option maxHeartbeats 1000000 in
theorem nob_bytes (g : Nat) (w : World) (hb : Blk w g 64 (jnA 0)) : Calls Try.prog 16 #[.pointer (some ⟨g, 0, none⟩)] w fun e w' => e = .returned (.slice none 0 0) ∧ Below w.heap.size w w' := by
  have hF := nob_frame hb
  have HF := Lib.hid hF
  have hb1 : Blk (w.setCell ⟨g, 0, none⟩ (.int .i32 1)) g 64 (jnA 1) := hb.set_ 0 _
  obtain ⟨c0, c2, c3, c4, cf⟩ := jn_cells hb
  have C0 := Lib.hid c0
  have CF := Lib.hid cf
  clear c0 c2 c3 c4 cf hF hb
  go_enter_defers Try.func16, Try.ntmps16
  go_wp2_with (go_at_call 31; refine (lock_free muLib ⟨g, 0, none⟩ _ C0.out (CF.out 0)).mono ?_; rintro e w1 ⟨rfl, h31⟩; rw [← h31] at hb1 HF; clear h31; obtain ⟨_, d2, d3, d4, df⟩ := jn_cells hb1)
  go_loopw [3, 20] (fun vo vi wr => vo = .slice none 0 0 ∧ vi = .int .i64 0 ∧ wr = w1) (fun _ _ _ => 0)
  case atStart => exact ⟨rfl, rfl, rfl⟩
  case round =>
    obtain ⟨rfl, rfl, rfl⟩ := hrel
    go_wp2_with fail
    refine leaves_cons (f := 32) (args := #[.pointer (some ⟨g, 0, none⟩)]) (by simp) (by simp [go_sem]) ?_
    refine (unlock_deferred muLib ⟨g, 0, none⟩ .returning _ (jn_cells hb1).1 (hb1.frozen 0)).mono ?_
    rintro e u' w'' ⟨rfl, rfl, rfl⟩
    exact ⟨_, results_tmp rfl _ _ _, rfl, HF.out⟩
end Go.Proofs.Ytfhigppdgfajoaa
