/- The walks of Bytes and Records. -/
import Derived.Test.YtfhigppdgfajoaaJrn
import Derived.Defers
namespace Go.Proofs.Ytfhigppdgfajoaa
open Go.RowKit Go.MuLone
theorem OwnS.kept64 {w w1 : World} {base g : Nat} {v : Value} {ps : List (List Nat)} {cs : Array Value} (h : OwnS w base v ps) (hb : Blk w g 64 cs) (hg : w.grownBy w1 (some g)) : OwnS w1 base v ps := by
  obtain ⟨xs, hl, hv, hx⟩ := h
  exact ⟨xs, hl, World.ownsRow.kept hv hg (ownsRow_ne_blk hv hb (by decide)), fun j u p h1 h2 => ⟨World.ownsRow.kept (hx j u p h1 h2).1 hg (ownsRow_ne_blk (hx j u p h1 h2).1 hb (by decide)), (hx j u p h1 h2).2⟩⟩
theorem jr_cells {w : World} {g : Nat} {st : Int} {v : Value} {n : Nat} (h : Blk w g 64 (jrA st v n)) :
    w.cell? ⟨g, 0, none⟩ = some (.int .i32 st) ∧ w.cell? ⟨g, 2, none⟩ = some (.bool true) ∧ w.cell? ⟨g, 3, none⟩ = some v ∧ w.cell? ⟨g, 4, none⟩ = some (.int .i64 (n : Int)) ∧ ∀ i, w.frozen? ⟨g, i, none⟩ = false :=
  ⟨h.cell 0, h.cell 2, h.cell 3, h.cell 4, fun i => h.frozen i⟩
/-- locked, a call, unlocked: nothing has changed -/
theorem lock_frame {w w2 : World} {g : Nat} {v : Value} {n : Nat} (hb : Blk w g 64 (jrA 0 v n)) (hB : Below (w.setCell ⟨g, 0, none⟩ (.int .i32 1)).heap.size (w.setCell ⟨g, 0, none⟩ (.int .i32 1)) w2) :
    Blk w2 g 64 (jrA 1 v n) ∧ Below w.heap.size w (w2.setCell ⟨g, 0, none⟩ (.int .i32 0)) := by
  have hsz : (w.setCell ⟨g, 0, none⟩ (.int .i32 1)).heap.size = w.heap.size := by simp [World.setCell]
  have hb1 : Blk (w.setCell ⟨g, 0, none⟩ (.int .i32 1)) g 64 (jrA 1 v n) := hb.set_ 0 _
  have hb2 : Blk w2 g 64 (jrA 1 v n) := hb1.below hB hb1.lt
  have hb3 : Blk (w2.setCell ⟨g, 0, none⟩ (.int .i32 0)) g 64 (jrA 0 v n) := hb2.set_ 0 _
  refine ⟨hb2, hB.os, hB.tape, hB.output, ?_, fun k hk => ?_⟩
  · have := hB.size
    rw [hsz] at this
    simpa [World.setCell] using this
  · by_cases hkg : k = g
    · subst hkg
      exact hb3.trans hb.symm
    · rw [Below.heap_setCell w2 ⟨g, 0, none⟩ _ k hkg, hB.block k (by rw [hsz]; exact hk), Below.heap_setCell w ⟨g, 0, none⟩ _ k hkg]
/-- the bytes of all records -/
def encs (ps : List (List Nat)) : List Nat := (ps.map enc).flatten
theorem encs_app (ps : List (List Nat)) (p : List Nat) : encs (ps ++ [p]) = encs ps ++ enc p := by simp [encs]
theorem encs_len (ps : List (List Nat)) : (encs ps).length = sz ps := by
  induction ps with
  | nil => rfl
  | cons p ps ih => rw [show encs (p :: ps) = enc p ++ encs ps by simp [encs], List.length_append, enc_len, ih, sz]
theorem encs_bytes {ps : List (List Nat)} (h : ∀ p ∈ ps, ∀ c ∈ p, c < 256) : ∀ c ∈ encs ps, c < 256 := by
  intro c hc
  unfold encs at hc
  rw [List.mem_flatten] at hc
  obtain ⟨l, hl, hcl⟩ := hc
  rw [List.mem_map] at hl
  obtain ⟨p, hp, rfl⟩ := hl
  exact enc_bytes (h p hp) c hcl
theorem sz_take (ps : List (List Nat)) (i : Nat) : sz (ps.take i) ≤ sz ps := by
  conv => rhs; rw [← List.take_append_drop i ps, sz_app]
  omega
theorem grown_lock (w : World) (g : Nat) (u : Value) : w.grownBy (w.setCell ⟨g, 0, none⟩ u) (some g) := grown_set w g 0 u
section
variable {W : World}
/-- 'append([]byte{}, p...)': the goal's world is the empty row laid. -/
theorem wpList_fresh {ops : Array Oper} {rest : List Oper} {o : Oper} {a : Act} {Q : Exit → Act → World → Prop} (hgd : o.guard = none) (s x : Operand)
    (ho : o.op = .call { callee := .builtin .append, args := #[s, x], argTypes := #[22, 22] })
    (base : Nat) (hs : a.eval s = .slice (some ⟨W.heap.size, 0, none⟩) 0 0) (A : Option Addr) (c : Nat) (p : List Nat) (hx : a.eval x = .slice A p.length c) (hr : Rd W A p) (hbase : base ≤ W.heap.size)
    (h : ∀ v1 w1, OwnB w1 base 5 v1 p → Below W.heap.size W w1 → wpList Try.prog ops Q rest (a.put o.dst v1) w1) :
    wpList Try.prog ops Q (o :: rest) a (W.alloc (.cells #[] 5)) := by
  have hb0 : Below W.heap.size W (W.alloc (.cells #[] 5)) := (Below.refl _ _).alloc (Nat.le_refl _) _
  refine wpList_app_bytes hgd s x 22 ho base 5 Try.underlying22 info5 (.slice (some ⟨W.heap.size, 0, none⟩) 0 0) [] hs (World.ownsRow_made W #[] 0 hbase (by decide) rfl) A c p hx (hr.below hb0 (Nat.le_refl _)) (by have := hr.1; simp; omega) (by simp; omega) ?_
  intro v1 w1 h1 h2 _
  rw [List.nil_append] at h1
  exact h v1 w1 h1 (hb0.grown h2 (by simp) (fun z hz => by simp [Value.ownBlock] at hz; omega))
end
set_option maxRecDepth 100000 in
set_option maxHeartbeats 2000000 in
theorem bytes_any (base g : Nat) (ps : List (List Nat)) (w : World) (hj : Jr w base g ps) :
    Calls Try.prog 16 #[.pointer (some ⟨g, 0, none⟩)] w fun e w' => ∃ v, e = .returned v ∧ OwnB w' w.heap.size 5 v (encs ps) ∧ Below w.heap.size w w' := by
  obtain ⟨hbg, ⟨hp1, hp2, hp3⟩, v, hb, hO⟩ := hj
  have HBK := Lib.hid hb
  have HP3 := Lib.hid hp3
  have hO1 : OwnS (w.setCell ⟨g, 0, none⟩ (.int .i32 1)) base v ps := hO.kept64 hb (grown_lock _ _ _)
  have hb1 : Blk (w.setCell ⟨g, 0, none⟩ (.int .i32 1)) g 64 (jrA 1 v (sz ps)) := hb.set_ 0 _
  obtain ⟨c0, c2, c3, c4, cf⟩ := jr_cells hb
  have C0 := Lib.hid c0
  have CF := Lib.hid cf
  obtain ⟨A, c, rfl, hRS⟩ := hO1.rds (by omega) (fun p hp => by have := hp3 p hp; omega)
  have HBYTES := Lib.hid hRS.bytes
  clear hO hO1 hb c0 c2 c3 c4 cf hp3
  have hsz : Hid ((w.setCell ⟨g, 0, none⟩ (.int .i32 1)).heap.size = w.heap.size) := Lib.hid (by simp [World.setCell])
  go_enter_defers Try.func16, Try.ntmps16
  go_wp2_with (go_at_call 31; refine (lock_free muLib ⟨g, 0, none⟩ _ C0.out (CF.out 0)).mono ?_; rintro e w1 ⟨rfl, h31⟩; rw [← h31] at hRS hb1; have H31 := Lib.hid h31; clear h31; obtain ⟨_, _, d3, _, _⟩ := jr_cells hb1)
  have HRS := Lib.hid hRS
  have HB1 := Lib.hid hb1
  clear hRS hb1
  go_loopw [3, 20] (fun vo vi wr => ∃ (i : Nat), vi = .int .i64 (i : Int) ∧ i ≤ ps.length ∧ OwnB wr w1.heap.size 5 vo (encs (ps.take i)) ∧ Below w1.heap.size w1 wr) (fun _ vi _ => ps.length - (intOf vi).toNat)
  case atStart => exact ⟨0, rfl, Nat.zero_le _, OwnB.nil _ _ _, Below.refl _ _⟩
  case round =>
    obtain ⟨i, rfl, hi, hOw, hB⟩ := hrel
    have HB := Lib.hid hB
    have hw0 := hB.size
    have R1 := Lib.hid (HRS.out.below hB (Nat.le_refl _))
    have hb2 := (HB1.out.below hB HB1.out.lt)
    have HB2 := Lib.hid hb2
    clear hB hb2
    have hel : (encs (ps.take i)).length ≤ 16777216 := by rw [encs_len]; have := sz_take ps i; omega
    have heb : ∀ c ∈ encs (ps.take i), c < 256 := encs_bytes (fun p hp => HBYTES.out p (List.mem_of_mem_take hp))
    by_cases hd : i < ps.length
    · have hdd : decide ((i : Int) < (ps.length : Int)) = true := decide_eq_true (by omega)
      have hi0 : (0 : Int) ≤ (i : Int) := by omega
      have hi1 : (i : Int) < (ps.length : Int) := by omega
      have hwi : IntKind.i64.wrap ((i : Int) + 1) = ((i + 1 : Nat) : Int) := by rw [IntKind.wrap_i64]; omega
      obtain ⟨bk, of_, Aj, cj, rfl, hbk, hcj, hSj⟩ := R1.out.at_ hd
      obtain ⟨p, hp⟩ : ∃ p, Hid (p = ps.getD i []) := ⟨_, Lib.hid rfl⟩
      rw [← hp.out] at hcj hSj
      have hpm : p ∈ ps := by rw [hp.out, List.getD_eq_getElem?_getD, List.getElem?_eq_getElem hd]; exact List.getElem_mem hd
      have hp4 := HP3.out p hpm
      have T1 : ps.take (i + 1) = ps.take i ++ [p] := by rw [List.take_add_one, hp.out, List.getD_eq_getElem?_getD, List.getElem?_eq_getElem hd]; rfl
      have T1 := Lib.hid T1
      have hz1 : sz (ps.take (i + 1)) ≤ sz ps := sz_take ps (i + 1)
      have hz2 : (encs (ps.take i)).length + (p.length + 8) ≤ 16777216 := by
        have h1 := encs_len (ps.take (i + 1))
        rw [T1.out, encs_app, List.length_append, enc_len] at h1
        rw [T1.out] at hz1
        omega
      clear hz1
      go_wp2_with fail
      refine (encode_any Aj p cj _ hSj.1 hp4).mono ?_
      rintro e w3 ⟨v3, rfl, hO3, hB3⟩
      have hO3' : OwnB w3 w1.heap.size 5 v3 (enc p) := World.ownsRow.mono hO3 hw0
      have hOw3 := hOw.below hB3
      have hBw3 := HB.out.trans (hB3.mono hw0)
      have hs3 : w1.heap.size ≤ w3.heap.size := hBw3.size
      obtain ⟨A3, c3, rfl, hR3⟩ := hO3'.slice (by rw [enc_len]; omega) (enc_bytes hSj.1.2.1)
      clear hO3 hB3 hOw hO3'
      go_wp2_with (at_builtin; refine wpList_app_bytes rfl _ _ 22 rfl w1.heap.size 5 Try.underlying22 info5 _ (encs (ps.take i)) rfl hOw3 A3 c3 (enc p) rfl hR3 (by rw [enc_len]; omega) hs3 ?_; intro v4 w4 hO4 hg4 _)
      have hBw4 := below_grown hBw3 hs3 hOw3 hg4
      go_roundw
      case rel => exact ⟨i + 1, by go_num, by omega, by rw [T1.out, encs_app]; exact hO4, hBw4⟩
      case measure => simp [intOf]; omega
    · have hdd : decide ((i : Int) < (ps.length : Int)) = false := decide_eq_false (by omega)
      obtain rfl : i = ps.length := by omega
      rw [List.take_length] at hOw
      have hfin : ∀ w', w' = wr.setCell ⟨g, 0, none⟩ (.int .i32 0) → Hid (OwnB w' w.heap.size 5 u3 (encs ps) ∧ Below w.heap.size w w') := by
        rintro w' rfl
        have h31 := H31.out
        have hB := HB.out
        have hsz' := hsz.out
        rw [← h31] at hsz'
        rw [hsz'] at hOw
        rw [h31] at hB
        exact Lib.hid ⟨World.ownsRow.kept hOw (grown_lock wr g _) (ownsRow_ne_blk hOw HB2.out (by decide)), (lock_frame HBK.out hB).2⟩
      go_wp2_with fail
      refine leaves_cons (f := 32) (args := #[.pointer (some ⟨g, 0, none⟩)]) (by simp) (by simp [go_sem]) ?_
      refine (unlock_deferred muLib ⟨g, 0, none⟩ .returning _ (jr_cells HB2.out).1 (HB2.out.frozen 0)).mono ?_
      rintro e u' w'' ⟨rfl, rfl, rfl⟩
      obtain ⟨r1, r2⟩ := (hfin _ rfl).out
      refine ⟨_, results_tmp rfl _ _ _, ⟨_, rfl, ?_, r2⟩⟩
      exact r1
set_option maxRecDepth 100000 in
set_option maxHeartbeats 2000000 in
theorem records_any (base g : Nat) (ps : List (List Nat)) (w : World) (hj : Jr w base g ps) :
    Calls Try.prog 18 #[.pointer (some ⟨g, 0, none⟩)] w fun e w' => ∃ v, e = .returned v ∧ OwnS w' w.heap.size v ps ∧ Below w.heap.size w w' := by
  obtain ⟨hbg, ⟨hp1, hp2, hp3⟩, v, hb, hO⟩ := hj
  have HBK := Lib.hid hb
  have HP3 := Lib.hid hp3
  have hO1 : OwnS (w.setCell ⟨g, 0, none⟩ (.int .i32 1)) base v ps := hO.kept64 hb (grown_lock _ _ _)
  have hb1 : Blk (w.setCell ⟨g, 0, none⟩ (.int .i32 1)) g 64 (jrA 1 v (sz ps)) := hb.set_ 0 _
  obtain ⟨c0, c2, c3, c4, cf⟩ := jr_cells hb
  have C0 := Lib.hid c0
  have CF := Lib.hid cf
  obtain ⟨A, c, rfl, hRS⟩ := hO1.rds (by omega) (fun p hp => by have := hp3 p hp; omega)
  have HBYTES := Lib.hid hRS.bytes
  clear hO hO1 hb c0 c2 c3 c4 cf hp3
  have hsz : Hid ((w.setCell ⟨g, 0, none⟩ (.int .i32 1)).heap.size = w.heap.size) := Lib.hid (by simp [World.setCell])
  go_enter_defers Try.func18, Try.ntmps18
  go_wp2_with (go_at_call 31; refine (lock_free muLib ⟨g, 0, none⟩ _ C0.out (CF.out 0)).mono ?_; rintro e w1 ⟨rfl, h31⟩; rw [← h31] at hRS hb1; have H31 := Lib.hid h31; clear h31; obtain ⟨_, _, d3, _, _⟩ := jr_cells hb1)
  have HRS := Lib.hid hRS
  have HB1 := Lib.hid hb1
  clear hRS hb1
  go_loopw [3, 20] (fun vo vi wr => ∃ (i : Nat), vi = .int .i64 (i : Int) ∧ i ≤ ps.length ∧ OwnS wr w1.heap.size vo (ps.take i) ∧ Below w1.heap.size w1 wr) (fun _ vi _ => ps.length - (intOf vi).toNat)
  case atStart => exact ⟨0, rfl, Nat.zero_le _, OwnS.nil _ _, Below.refl _ _⟩
  case round =>
    obtain ⟨i, rfl, hi, hOw, hB⟩ := hrel
    have HB := Lib.hid hB
    have hw0 := hB.size
    have R1 := Lib.hid (HRS.out.below hB (Nat.le_refl _))
    have hb2 := (HB1.out.below hB HB1.out.lt)
    have HB2 := Lib.hid hb2
    clear hB hb2
    by_cases hd : i < ps.length
    · have hdd : decide ((i : Int) < (ps.length : Int)) = true := decide_eq_true (by omega)
      have hi0 : (0 : Int) ≤ (i : Int) := by omega
      have hi1 : (i : Int) < (ps.length : Int) := by omega
      have hwi : IntKind.i64.wrap ((i : Int) + 1) = ((i + 1 : Nat) : Int) := by rw [IntKind.wrap_i64]; omega
      obtain ⟨bk, of_, Aj, cj, rfl, hbk, hcj, hSj⟩ := R1.out.at_ hd
      obtain ⟨p, hp⟩ : ∃ p, Hid (p = ps.getD i []) := ⟨_, Lib.hid rfl⟩
      rw [← hp.out] at hcj hSj
      have hpm : p ∈ ps := by rw [hp.out, List.getD_eq_getElem?_getD, List.getElem?_eq_getElem hd]; exact List.getElem_mem hd
      have hp4 := HP3.out p hpm
      have T1 : ps.take (i + 1) = ps.take i ++ [p] := by rw [List.take_add_one, hp.out, List.getD_eq_getElem?_getD, List.getElem?_eq_getElem hd]; rfl
      have T1 := Lib.hid T1
      obtain ⟨xs, hxl, hV, hX⟩ := hOw
      obtain ⟨Ao, co, rfl⟩ := hV.slice
      have hxl2 : xs.length ≤ 65536 := by rw [hxl, List.length_take]; omega
      obtain ⟨m, hm⟩ : ∃ m, Hid (m = xs.length) := ⟨_, Lib.hid rfl⟩
      rw [← hm.out] at hV
      rw [← hm.out]
      have HV := Lib.hid hV
      have HX := Lib.hid hX
      have HXL := Lib.hid hxl
      have HSJ := Lib.hid hSj
      clear hV hX hxl hSj
      go_wp2_with (first
        | (at_builtin; refine wpList_fresh rfl _ _ rfl w1.heap.size rfl Aj cj p rfl HSJ.out.1 hw0 ?_; intro v3 w3 hO3 hB3; have hV3 := OwnV.below HV.out hB3; have hX3 : ∀ (j : Nat) (u : Value) (p : List Nat), xs[j]? = some u → (ps.take i)[j]? = some p → OwnB w3 w1.heap.size 5 u p ∧ ∀ c ∈ p, c < 256 := (fun j u p h1 h2 => ⟨(HX.out j u p h1 h2).1.below hB3, (HX.out j u p h1 h2).2⟩); have hBw3 := HB.out.trans (hB3.mono hw0); have hs3 : w1.heap.size ≤ w3.heap.size := hBw3.size; obtain ⟨A3, c3, rfl, _⟩ := hO3.slice (by omega) HSJ.out.1.2.1)
        | (at_builtin; refine wpList_app1V rfl _ _ 27 rfl w1.heap.size 22 (.slice none 0 0) 24 Try.underlying27 info22 rfl (by decide) _ xs rfl hV3 _ (.slice A3 p.length c3) rfl rfl rfl (by omega) hs3 ?_; intro v4 w4 hO4 hg4))
      have hOS4 := OwnS.app HXL.out hV3 hX3 hO3 HSJ.out.1.2.1 hO4 hg4
      have hBw4 := hBw3.grown hg4 hs3 (fun z hz => OwnV.base_ hV3 z hz)
      go_roundw
      case rel => exact ⟨i + 1, by go_num, by omega, by rw [T1.out]; exact hOS4, hBw4⟩
      case measure => simp [intOf]; omega
    · have hdd : decide ((i : Int) < (ps.length : Int)) = false := decide_eq_false (by omega)
      obtain rfl : i = ps.length := by omega
      rw [List.take_length] at hOw
      have hfin : ∀ w', w' = wr.setCell ⟨g, 0, none⟩ (.int .i32 0) → Hid (OwnS w' w.heap.size u3 ps ∧ Below w.heap.size w w') := by
        rintro w' rfl
        have h31 := H31.out
        have hB := HB.out
        have hsz' := hsz.out
        rw [← h31] at hsz'
        rw [hsz'] at hOw
        rw [h31] at hB
        exact Lib.hid ⟨hOw.kept64 HB2.out (grown_lock wr g _), (lock_frame HBK.out hB).2⟩
      go_wp2_with fail
      refine leaves_cons (f := 32) (args := #[.pointer (some ⟨g, 0, none⟩)]) (by simp) (by simp [go_sem]) ?_
      refine (unlock_deferred muLib ⟨g, 0, none⟩ .returning _ (jr_cells HB2.out).1 (HB2.out.frozen 0)).mono ?_
      rintro e u' w'' ⟨rfl, rfl, rfl⟩
      obtain ⟨r1, r2⟩ := (hfin _ rfl).out
      refine ⟨_, results_tmp rfl _ _ _, ⟨_, rfl, ?_, r2⟩⟩
      exact r1
end Go.Proofs.Ytfhigppdgfajoaa
