/- The walks of Recover and of the reference's Recover: the records with which bytes begin. -/
import Derived.Test.YtfhigppdgfajoaaRow
namespace Go.Proofs.Ytfhigppdgfajoaa
open Go.RowKit
/-- at most f records, and the number of their bytes -/
def rcvF : Nat → List Nat → List (List Nat) × Nat
  | 0, _ => ([], 0)
  | f + 1, log => match dec log with
    | none => ([], 0)
    | some p => (p :: (rcvF f (log.drop (p.length + 8))).1, p.length + 8 + (rcvF f (log.drop (p.length + 8))).2)
def rcv (log : List Nat) : List (List Nat) × Nat := rcvF 65536 log
theorem rcvF_none {log : List Nat} (h : dec log = none) (f : Nat) : rcvF f log = ([], 0) := by
  cases f with
  | zero => rfl
  | succ f => rw [rcvF, h]
theorem rcvF_some {log p : List Nat} (h : dec log = some p) (f : Nat) : rcvF (f + 1) log = (p :: (rcvF f (log.drop (p.length + 8))).1, p.length + 8 + (rcvF f (log.drop (p.length + 8))).2) := by
  rw [rcvF, h]
theorem dec_len {p q : List Nat} (h : dec p = some q) : q.length + 8 ≤ p.length := by
  unfold dec at h
  split at h
  · cases h
  · split at h
    · cases h
    · injection h with h
      subst h
      rw [List.length_drop, List.length_take]
      omega
theorem dec_bytes {p q : List Nat} (h : dec p = some q) (hp : ∀ c ∈ p, c < 256) : ∀ c ∈ q, c < 256 := by
  unfold dec at h
  split at h
  · cases h
  · split at h
    · cases h
    · injection h with h
      subst h
      exact fun c hc => hp c (List.mem_of_mem_take (List.mem_of_mem_drop hc))
theorem Rd.nil_ (w : World) (A : Option Addr) : Rd w A [] := ⟨by simp, by simp, by simp⟩
theorem Rd.drop0 {w : World} {A : Option Addr} (_ : Rd w A []) (n : Nat) : Rd w A ([].drop n) := by rw [List.drop_nil]; exact Rd.nil_ w A
theorem Rd.drop_all {w : World} {A : Option Addr} {p : List Nat} {n : Nat} (_ : Rd w A p) (h : p.length ≤ n) : Rd w A (p.drop n) := by rw [List.drop_eq_nil_of_le h]; exact Rd.nil_ w A
/-- what Recover returns -/
def RcvR (w : World) (base : Nat) (v : Value) (log : List Nat) : Prop :=
  ∃ u, v = .tuple #[u, .int .i64 (((rcv log).2 : Nat) : Int)] ∧ OwnS w base u (rcv log).1
/-- a slice of bytes as it may come: with its capacity -/
def Sl (w : World) (A : Option Addr) (p : List Nat) (cap : Nat) : Prop := Rd w A p ∧ p.length ≤ cap ∧ cap ≤ 9223372036854775807 ∧ ((A = none ∧ p = [] ∧ cap = 0) ∨ ∃ bk off, A = some ⟨bk, off, none⟩)
theorem Sl.below {w w1 : World} {A : Option Addr} {p : List Nat} {cap : Nat} (h : Sl w A p cap) (hb : Below w.heap.size w w1) : Sl w1 A p cap := ⟨h.1.below hb (Nat.le_refl _), h.2⟩
set_option maxRecDepth 100000 in
set_option maxHeartbeats 2000000 in
theorem recover_any (A : Option Addr) (p : List Nat) (cap : Nat) (w : World) (hr : Sl w A p cap) :
    Calls Try.prog 11 #[.slice A p.length cap] w fun e w' => ∃ v, e = .returned v ∧ RcvR w' w.heap.size v p ∧ Below w.heap.size w w' := by
  have HR := Lib.hid hr.1
  have hpl := hr.1.1
  obtain ⟨_, hc1, hc2, hA⟩ := hr
  go_enter Try.func11, Try.ntmps11
  go_wp2_with fail
  go_loopw [4, 5] (fun vo va wr => ∃ (ps : List (List Nat)) (n : Nat), va = .int .i64 (n : Int) ∧ n ≤ p.length ∧ ps.length ≤ 65536 ∧ rcv p = (ps ++ (rcvF (65536 - ps.length) (p.drop n)).1, n + (rcvF (65536 - ps.length) (p.drop n)).2) ∧ OwnS wr w.heap.size vo ps ∧ Below w.heap.size w wr) (fun _ va _ => p.length - (intOf va).toNat)
  case atStart => exact ⟨[], 0, rfl, Nat.zero_le _, Nat.zero_le _, by simp [rcv], OwnS.nil _ _, Below.refl _ _⟩
  case round =>
    obtain ⟨ps, n, rfl, hn, hps, hrec, hO, hB⟩ := hrel
    have HREC := Lib.hid hrec
    have HB := Lib.hid hB
    have HR2 := Lib.hid (HR.out.below hB (Nat.le_refl _))
    have hw0 := hB.size
    obtain ⟨xs, hxl, hV, hX⟩ := hO
    obtain ⟨Ao, co, rfl⟩ := hV.slice
    rw [hxl] at hV ⊢
    have HV := Lib.hid hV
    have HX := Lib.hid hX
    have HXL := Lib.hid hxl
    clear hrec hB hV hX hxl
    by_cases hfull : ps.length < 65536
    · have hd : decide ((ps.length : Int) < 65536) = true := decide_eq_true (by omega)
      have hd' : decide (ps.length < 65536) = true := decide_eq_true hfull
      have hn0 : (0 : Int) ≤ (n : Int) := by omega
      have hn1 : (n : Int) ≤ (p.length : Int) := by omega
      have hn2 : (p.length : Int) ≤ (cap : Int) := by omega
      have hn3 : (n : Int) ≤ (cap : Int) := by omega
      have hn4 : n ≤ cap := by omega
      obtain ⟨f, hf⟩ : ∃ f, 65536 - ps.length = f + 1 := ⟨65536 - ps.length - 1, by omega⟩
      rw [hf] at HREC
      rcases hA with ⟨rfl, rfl, rfl⟩ | ⟨bk, off, rfl⟩
      · obtain rfl : n = 0 := by simpa using hn
        go_wp2_with fail
        have hcall := decode_any none ([].drop 0) 0 wr (HR2.out.drop0 0) (by simp)
        refine hcall.mono ?_
        clear hcall
        rintro e w2 ⟨v2, rfl, hD, hB2⟩
        have hBw := HB.out.trans (hB2.mono hw0)
        have hs2 : w.heap.size ≤ w2.heap.size := hBw.size
        rcases hD with ⟨hdn, rfl⟩ | ⟨q, u, hds, rfl, hOu⟩
        · have hrec := HREC.out
          rw [rcvF_none hdn, List.append_nil, Nat.add_zero] at hrec
          have hOS : OwnS w2 w.heap.size (.slice Ao ps.length co) ps := OwnS.below ⟨xs, HXL.out, HV.out, HX.out⟩ hB2
          have HF := Lib.hid (show RcvR w2 w.heap.size (.tuple #[.slice Ao ps.length co, .int .i64 ((0 : Nat) : Int)]) [] from by unfold RcvR; rw [hrec]; exact ⟨_, rfl, hOS⟩)
          clear hrec hdn
          go_wp2_with fail
          go_ret2
          exact ⟨_, rfl, HF.out, hBw⟩
        · exact absurd (dec_len hds) (by simp)
      · by_cases hce : cap = n
        · go_wp2_with fail
          have hcall := decode_any (some ⟨bk, off, none⟩) (p.drop n) 0 wr (HR2.out.drop_all (by omega)) (by rw [List.length_drop]; omega)
          rw [List.length_drop] at hcall
          refine hcall.mono ?_
          clear hcall
          rintro e w2 ⟨v2, rfl, hD, hB2⟩
          have hBw := HB.out.trans (hB2.mono hw0)
          have hs2 : w.heap.size ≤ w2.heap.size := hBw.size
          rcases hD with ⟨hdn, rfl⟩ | ⟨q, u, hds, rfl, hOu⟩
          · have hrec := HREC.out
            rw [rcvF_none hdn, List.append_nil, Nat.add_zero] at hrec
            have hOS : OwnS w2 w.heap.size (.slice Ao ps.length co) ps := OwnS.below ⟨xs, HXL.out, HV.out, HX.out⟩ hB2
            have HF := Lib.hid (show RcvR w2 w.heap.size (.tuple #[.slice Ao ps.length co, .int .i64 (n : Int)]) p from by unfold RcvR; rw [hrec]; exact ⟨_, rfl, hOS⟩)
            clear hrec hdn
            go_wp2_with fail
            go_ret2
            exact ⟨_, rfl, HF.out, hBw⟩
          · exact absurd (dec_len hds) (by rw [List.length_drop]; omega)
        · go_wp2_with fail
          have hcall := decode_any (some ⟨bk, off + n, none⟩) (p.drop n) (cap - n) wr (HR2.out.drop n) (by rw [List.length_drop]; omega)
          rw [List.length_drop] at hcall
          refine hcall.mono ?_
          clear hcall
          rintro e w2 ⟨v2, rfl, hD, hB2⟩
          have hBw := HB.out.trans (hB2.mono hw0)
          have hs2 : w.heap.size ≤ w2.heap.size := hBw.size
          rcases hD with ⟨hdn, rfl⟩ | ⟨q, u, hds, rfl, hOu⟩
          · have hrec := HREC.out
            rw [rcvF_none hdn, List.append_nil, Nat.add_zero] at hrec
            have hOS : OwnS w2 w.heap.size (.slice Ao ps.length co) ps := OwnS.below ⟨xs, HXL.out, HV.out, HX.out⟩ hB2
            have HF := Lib.hid (show RcvR w2 w.heap.size (.tuple #[.slice Ao ps.length co, .int .i64 (n : Int)]) p from by unfold RcvR; rw [hrec]; exact ⟨_, rfl, hOS⟩)
            clear hrec hdn
            go_wp2_with fail
            go_ret2
            exact ⟨_, rfl, HF.out, hBw⟩
          · have hrec := HREC.out
            rw [rcvF_some hds, List.drop_drop] at hrec
            have hql := dec_len hds
            rw [List.length_drop] at hql
            have hqb := dec_bytes hds (fun c hc => HR.out.2.1 c (List.mem_of_mem_drop hc))
            have HREC2 := Lib.hid hrec
            obtain ⟨Au, cu, rfl, _⟩ := hOu.slice (by omega) hqb
            have hOu2 := World.ownsRow.mono hOu hw0
            have hOu2 : OwnB w2 w.heap.size 5 (.slice Au q.length cu) q := hOu2
            have hV2 := OwnV.below HV.out hB2
            have hX2 : ∀ (j : Nat) (u : Value) (p : List Nat), xs[j]? = some u → ps[j]? = some p → OwnB w2 w.heap.size 5 u p ∧ ∀ c ∈ p, c < 256 := fun j u p h1 h2 => ⟨(HX.out j u p h1 h2).1.below hB2, (HX.out j u p h1 h2).2⟩
            clear hrec hds
            go_wp2_with (at_builtin; refine wpList_app1V rfl _ _ 27 rfl w.heap.size 22 (.slice none 0 0) 24 Try.underlying27 info22 rfl (by decide) _ xs rfl hV2 _ (.slice Au q.length cu) rfl rfl rfl (by rw [HXL.out]; omega) hs2 ?_; intro v3 w3 hO3 hg3)
            have hOS3 := OwnS.app HXL.out hV2 hX2 hOu2 hqb hO3 hg3
            have hBw3 := hBw.grown hg3 hs2 (fun z hz => OwnV.base_ hV2 z hz)
            go_roundw
            case rel =>
              refine ⟨ps ++ [q], n + (q.length + 8), by go_num, by omega, by rw [List.length_append]; simp; omega, ?_, hOS3, hBw3⟩
              rw [List.length_append, List.length_singleton, show 65536 - (ps.length + 1) = f by omega, HREC2.out, List.append_assoc]
              exact Prod.ext rfl (by simp only []; omega)
            case measure => simp [intOf]; omega
    · have hd : decide ((ps.length : Int) < 65536) = false := decide_eq_false (by omega)
      have hd' : decide (ps.length < 65536) = false := decide_eq_false hfull
      have hf : 65536 - ps.length = 0 := by omega
      have hrec := HREC.out
      rw [hf, show rcvF 0 (p.drop n) = ([], 0) from rfl, List.append_nil, Nat.add_zero] at hrec
      have HF := Lib.hid (show RcvR wr w.heap.size (.tuple #[.slice Ao ps.length co, .int .i64 (n : Int)]) p from by unfold RcvR; rw [hrec]; exact ⟨_, rfl, ⟨xs, HXL.out, HV.out, HX.out⟩⟩)
      clear hrec
      go_wp2_with fail
      go_ret2
      exact ⟨_, rfl, HF.out, HB.out⟩
end Go.Proofs.Ytfhigppdgfajoaa
