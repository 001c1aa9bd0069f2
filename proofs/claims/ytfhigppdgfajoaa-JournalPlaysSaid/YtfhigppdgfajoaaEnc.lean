/- The walks of encode, of Record, and of the reference's Record: the bytes of a record. -/
import Derived.Test.YtfhigppdgfajoaaFou
namespace Go.Proofs.Ytfhigppdgfajoaa
open Go.RowKit
/-- the bytes of a record -/
def enc (p : List Nat) : List Nat := four p.length ++ p ++ four (CrcM.crc (four p.length ++ p))
theorem enc_len (p : List Nat) : (enc p).length = p.length + 8 := by unfold enc; simp [four_len]; omega
section
variable {P : Program} {ops : Array Oper} {rest : List Oper} {o : Oper} {a : Act} {Q : Exit → Act → World → Prop} {w : World}
/-- make([]T, 0, n) of one-cell elements: the world behind it is left open. -/
theorem wpList_makecap (hgd : o.guard = none) (t : TypeId) (x y : Operand) (ho : o.op = .makeSlice t x y) (e : TypeId) (z : Value) (bytes : Nat) (ht : P.underlying t = some (.slice e))
    (hinfo : (P.info? e).map (fun i => (i.zero, i.size, i.bytes)) = some (some z, 1, bytes)) (hz1 : z.cells = #[z]) (k1 k2 : IntKind) (n : Nat) (hx : a.eval x = .int k1 0) (hy : a.eval y = .int k2 (n : Int)) (hn : bytes * n ≤ 281474976710656) (h63 : n ≤ 9223372036854775807)
    (base : Nat) (hb : base ≤ w.heap.size)
    (h : ∀ w1, w1.ownsRow base e 1 (.slice (some ⟨w.heap.size, 0, none⟩) 0 n) 0 [] → Below w.heap.size w w1 → w1.heap.size = w.heap.size + 1 → wpList P ops Q rest (a.put o.dst (.slice (some ⟨w.heap.size, 0, none⟩) 0 n)) w1) :
    wpList P ops Q (o :: rest) a w := by
  refine wpList_plain hgd fun K hK => ?_
  obtain ⟨i, hi, hz, hs, hbb⟩ := info_parts hinfo
  have hb' : (i.bytes : Int) * (n : Int) ≤ 281474976710656 := by
    have h : ((i.bytes * n : Nat) : Int) ≤ 281474976710656 := by rw [hbb]; omega
    rwa [Int.natCast_mul] at h
  have hr := run_make (P := P) w t e i z ht hi hz k1 k2 0 n (by omega) (by omega) hb' (by omega)
  have hm : madeCells z.cells ((n : Int).toNat * i.size) = (List.replicate n z).toArray := by
    rw [hs, hz1, Int.toNat_natCast, Nat.mul_one]
    apply Array.ext'
    rw [toList_madeCells_one]
  rw [hm, Int.toNat_natCast] at hr
  unfold Oper.wp execOp
  simp only [ho, hx, hy, Sem.run_bind, hr, Result.andThen_ok, Sem.run_pure]
  refine hK _ _ (h _ ?_ ((Below.refl _ _).alloc (Nat.le_refl _) _) (by simp))
  exact ⟨rfl, .inr ⟨w.heap.size, n, (List.replicate n z).toArray, rfl, hb, heap_alloc_new _ _, Nat.zero_le _, by unfold maxLen; omega, by simp, by simp⟩⟩
end
theorem info5 : (Try.prog.info? 5).map (fun i => (i.zero, i.size, i.bytes)) = some (some (.int .u8 0), 1, 1) := by kernel_rfl
theorem bytes_app {p q : List Nat} (hp : ∀ c ∈ p, c < 256) (hq : ∀ c ∈ q, c < 256) : ∀ c ∈ p ++ q, c < 256 := by
  intro c hc
  rw [List.mem_append] at hc
  rcases hc with h | h
  · exact hp c h
  · exact hq c h
theorem crc_lt {p : List Nat} (h : ∀ c ∈ p, c < 256) : CrcM.crc p < 4294967296 := by
  have := CrcM.upd_lt CrcM.ones_lt h
  exact Nat.xor_lt_two_pow (n := 32) this CrcM.ones_lt
theorem enc_bytes {p : List Nat} (h : ∀ c ∈ p, c < 256) : ∀ c ∈ enc p, c < 256 := bytes_app (bytes_app (four_bytes _) h) (four_bytes _)
set_option maxRecDepth 100000 in
set_option maxHeartbeats 2000000 in
theorem encode_any (A : Option Addr) (p : List Nat) (cap : Nat) (w : World) (hr : Rd w A p) (hl : p.length ≤ 4194304) :
    Calls Try.prog 26 #[.slice A p.length cap] w fun e w' => ∃ v, e = .returned v ∧ OwnB w' w.heap.size 5 v (enc p) ∧ Below w.heap.size w w' := by
  have HR := Lib.hid hr
  clear hr
  go_enter Try.func26, Try.ntmps26
  go_wp2_with (refine wpList_makecap rfl 22 _ _ rfl 5 (.int .u8 0) 1 Try.underlying22 info5 rfl .i64 .i64 (p.length + 8) rfl rfl (by omega) (by omega) w.heap.size (Nat.le_refl _) ?_; intro w1 hO1 hB1 hz1)
  have hO1 : OwnB w1 w.heap.size 5 (.slice (some ⟨w.heap.size, 0, none⟩) 0 (p.length + 8)) [] := hO1
  have HB1 := Lib.hid hB1
  clear hz1 hB1
  refine (four_any p.length (by omega) _).mono ?_
  rintro e w2 ⟨v2, rfl, hO2, hB2⟩
  obtain ⟨A2, c2, rfl, hR2⟩ := hO2.slice (by rw [four_len]; omega) (four_bytes _)
  have hOb2 := hO1.below hB2
  have hBw2 := HB1.out.trans (hB2.mono HB1.out.size)
  have hs2 : w.heap.size ≤ w2.heap.size := hBw2.size
  have HR2 := Lib.hid hR2
  clear hO2 hB2 hR2 hO1
  go_wp2_with (first
    | (at_builtin; refine wpList_app_bytes rfl _ _ 22 rfl w.heap.size 5 Try.underlying22 info5 _ [] rfl hOb2 A2 c2 (four p.length) rfl HR2.out (by rw [four_len]; simp) hs2 ?_; intro v3 w3 hO3 hg3 _; rw [List.nil_append] at hO3; have hBw3 := below_grown hBw2 hs2 hOb2 hg3; have hs3 : w.heap.size ≤ w3.heap.size := hBw3.size; have hR3 : Rd w3 A p := HR.out.below hBw3 (Nat.le_refl _))
    | (at_builtin; refine wpList_app_bytes rfl _ _ 22 rfl w.heap.size 5 Try.underlying22 info5 _ (four p.length) rfl hO3 A cap p rfl hR3 (by rw [four_len]; omega) hs3 ?_; intro v4 w4 hO4 hg4 _; have hBw4 := below_grown hBw3 hs3 hO3 hg4; have hs4 : w.heap.size ≤ w4.heap.size := hBw4.size; obtain ⟨q, hq⟩ : ∃ q, Hid (q = four p.length ++ p) := ⟨_, Lib.hid rfl⟩; rw [← hq.out] at hO4; obtain ⟨A4, c4, rfl, hR4⟩ := hO4.slice (by rw [hq.out, List.length_append, four_len]; omega) (by rw [hq.out]; exact bytes_app (four_bytes _) HR.out.2.1)))
  have HR4 := Lib.hid hR4
  have HO4 := Lib.hid hO4
  have HB4 := Lib.hid hBw4
  have hBy : ∀ c ∈ q, c < 256 := by rw [hq.out]; exact bytes_app (four_bytes p.length) HR.out.2.1
  have hlt := crc_lt hBy
  have hen : enc p = q ++ four (CrcM.crc q) := by rw [hq.out]; rfl
  have HEN := Lib.hid hen
  have hql : q.length = p.length + 4 := by rw [hq.out, List.length_append, four_len]; omega
  have HQL := Lib.hid hql
  clear hR4 hO4 hBw4 hBw3 hO3 hR3 hg3 hg4 hOb2 hBw2 HR2 hBy hen hql
  refine (crc_any A4 q c4 w4 HR4.out).mono ?_
  rintro e w5 ⟨rfl, hB5⟩
  have hBw5 := HB4.out.trans (hB5.mono hs4)
  have hO5 := HO4.out.below hB5
  have HB5 := Lib.hid hBw5
  have HO5 := Lib.hid hO5
  clear hBw5 hO5 hB5 HO4 HB4
  obtain ⟨cr, hcr⟩ : ∃ cr, Hid (cr = CrcM.crc q) := ⟨_, Lib.hid rfl⟩
  rw [← hcr.out] at hlt HEN ⊢
  go_wp2_with fail
  refine (four_any cr hlt _).mono ?_
  rintro e w6 ⟨v6, rfl, hO6, hB6⟩
  obtain ⟨A6, c6, rfl, hR6⟩ := hO6.slice (by rw [four_len]; omega) (four_bytes _)
  have hOb6 := HO5.out.below hB6
  have hBw6 := HB5.out.trans (hB6.mono HB5.out.size)
  have hs6 : w.heap.size ≤ w6.heap.size := hBw6.size
  go_wp2_with (at_builtin; refine wpList_app_bytes rfl _ _ 22 rfl w.heap.size 5 Try.underlying22 info5 _ q rfl hOb6 A6 c6 (four cr) rfl hR6 (by have := HQL.out; rw [four_len]; omega) hs6 ?_; intro v7 w7 hO7 hg7 _)
  go_ret
  exact ⟨_, rfl, by rw [HEN.out]; exact hO7, below_grown hBw6 hs6 hOb6 hg7⟩
/-- what Record returns -/
def RecR (w : World) (base : Nat) (v : Value) (p : List Nat) : Prop :=
  (4194304 < p.length ∧ v = .tuple #[.slice none 0 0, .int .i64 4]) ∨ (p.length ≤ 4194304 ∧ ∃ u, v = .tuple #[u, .int .i64 0] ∧ OwnB w base 5 u (enc p))
set_option maxRecDepth 100000 in
set_option maxHeartbeats 2000000 in
theorem record_any (A : Option Addr) (p : List Nat) (cap : Nat) (w : World) (hr : Rd w A p) :
    Calls Try.prog 9 #[.slice A p.length cap] w fun e w' => ∃ v, e = .returned v ∧ RecR w' w.heap.size v p ∧ Below w.heap.size w w' := by
  have HR := Lib.hid hr
  have hpl := hr.1
  clear hr
  by_cases hb : 4194304 < p.length
  · have hd : decide (4194304 < (p.length : Int)) = true := decide_eq_true (by omega)
    have hd' : decide (4194304 < p.length) = true := decide_eq_true hb
    go_enter Try.func9, Try.ntmps9
    go_wp2_with fail
    go_ret2
    exact ⟨_, rfl, .inl ⟨hb, rfl⟩, Below.refl _ _⟩
  · have hd : decide (4194304 < (p.length : Int)) = false := decide_eq_false (by omega)
    have hd' : decide (4194304 < p.length) = false := decide_eq_false hb
    go_enter Try.func9, Try.ntmps9
    go_wp2_with fail
    refine (encode_any A p cap w HR.out (by omega)).mono ?_
    rintro e w2 ⟨v2, rfl, hO2, hB2⟩
    go_wp2_with fail
    go_ret2
    exact ⟨_, rfl, .inr ⟨by omega, v2, rfl, hO2⟩, hB2⟩
set_option maxRecDepth 100000 in
set_option maxHeartbeats 2000000 in
theorem refrecord_any (A : Option Addr) (p : List Nat) (cap : Nat) (w : World) (hr : Rd w A p) :
    Calls Try.prog 10 #[.slice A p.length cap] w fun e w' => ∃ v, e = .returned v ∧ RecR w' w.heap.size v p ∧ Below w.heap.size w w' := by
  have HR := Lib.hid hr
  have hpl := hr.1
  clear hr
  by_cases hb : 4194304 < p.length
  · have hd : decide (4194304 < (p.length : Int)) = true := decide_eq_true (by omega)
    have hd' : decide (4194304 < p.length) = true := decide_eq_true hb
    go_enter Try.func10, Try.ntmps10
    go_wp2_with fail
    go_ret2
    exact ⟨_, rfl, .inl ⟨hb, rfl⟩, Below.refl _ _⟩
  · have hd : decide (4194304 < (p.length : Int)) = false := decide_eq_false (by omega)
    have hd' : decide (4194304 < p.length) = false := decide_eq_false hb
    go_enter Try.func10, Try.ntmps10
    go_wp2_with fail
    refine (reffour_any p.length (by omega) _).mono ?_
    rintro e w2 ⟨v2, rfl, hO2, hBw2⟩
    have hs2 : w.heap.size ≤ w2.heap.size := hBw2.size
    have hR2 : Rd w2 A p := HR.out.below hBw2 (Nat.le_refl _)
    go_wp2_with (at_builtin; refine wpList_app_bytes rfl _ _ 22 rfl w.heap.size 5 Try.underlying22 info5 _ (four p.length) rfl hO2 A cap p rfl hR2 (by rw [four_len]; omega) hs2 ?_; intro v4 w4 hO4 hg4 _; have hBw4 := below_grown hBw2 hs2 hO2 hg4; have hs4 : w.heap.size ≤ w4.heap.size := hBw4.size; obtain ⟨q, hq⟩ : ∃ q, Hid (q = four p.length ++ p) := ⟨_, Lib.hid rfl⟩; rw [← hq.out] at hO4; obtain ⟨A4, c4, rfl, hR4⟩ := hO4.slice (by rw [hq.out, List.length_append, four_len]; omega) (by rw [hq.out]; exact bytes_app (four_bytes _) HR.out.2.1))
    have HR4 := Lib.hid hR4
    have HO4 := Lib.hid hO4
    have HB4 := Lib.hid hBw4
    have hBy : ∀ c ∈ q, c < 256 := by rw [hq.out]; exact bytes_app (four_bytes p.length) HR.out.2.1
    have hlt := crc_lt hBy
    have hen : enc p = q ++ four (CrcM.crc q) := by rw [hq.out]; rfl
    have HEN := Lib.hid hen
    have hql : q.length = p.length + 4 := by rw [hq.out, List.length_append, four_len]; omega
    have HQL := Lib.hid hql
    clear hR4 hO4 hBw4 hg4 hBw2 hBy hen hql hO2 hR2
    refine (refcrc_any A4 q c4 w4 HR4.out).mono ?_
    rintro e w5 ⟨rfl, rfl⟩
    obtain ⟨cr, hcr⟩ : ∃ cr, Hid (cr = CrcM.crc q) := ⟨_, Lib.hid rfl⟩
    rw [← hcr.out] at hlt HEN ⊢
    go_wp2_with fail
    refine (reffour_any cr hlt _).mono ?_
    rintro e w6 ⟨v6, rfl, hO6, hB6⟩
    obtain ⟨A6, c6, rfl, hR6⟩ := hO6.slice (by rw [four_len]; omega) (four_bytes _)
    have hOb6 := HO4.out.below hB6
    have hBw6 := HB4.out.trans (hB6.mono HB4.out.size)
    have hs6 : w.heap.size ≤ w6.heap.size := hBw6.size
    go_wp2_with (at_builtin; refine wpList_app_bytes rfl _ _ 22 rfl w.heap.size 5 Try.underlying22 info5 _ q rfl hOb6 A6 c6 (four cr) rfl hR6 (by have := HQL.out; rw [four_len]; omega) hs6 ?_; intro v7 w7 hO7 hg7 _)
    go_ret2
    exact ⟨_, rfl, .inr ⟨by omega, v7, rfl, by rw [HEN.out]; exact hO7⟩, below_grown hBw6 hs6 hOb6 hg7⟩
end Go.Proofs.Ytfhigppdgfajoaa
