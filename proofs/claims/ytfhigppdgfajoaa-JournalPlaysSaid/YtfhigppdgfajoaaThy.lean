/- Plain laws of the journal's bytes. -/
import Derived.Test.YtfhigppdgfajoaaTru
namespace Go.Proofs.Ytfhigppdgfajoaa
/-- good contents -/
def Good (p : List Nat) : Prop := p.length ≤ 4194304 ∧ ∀ c ∈ p, c < 256
theorem dec_enc {p : List Nat} (h : Good p) (t : List Nat) : dec (enc p ++ t) = some p := by
  have he : enc p ++ t = four p.length ++ (p ++ (four (CrcM.crc (four p.length ++ p)) ++ t)) := by unfold enc; simp only [List.append_assoc]
  have hn : num (enc p ++ t) = p.length := by rw [he]; exact num_four (by have := h.1; omega) _
  have hc : CrcM.crc (four p.length ++ p) < 4294967296 := crc_lt (bytes_app (four_bytes _) h.2)
  have hl : (enc p ++ t).length = p.length + 8 + t.length := by rw [List.length_append, enc_len]
  have hs : enc p ++ t = (four p.length ++ p) ++ (four (CrcM.crc (four p.length ++ p)) ++ t) := by unfold enc; simp only [List.append_assoc]
  have h4 : 4 + p.length = (four p.length ++ p).length := by rw [List.length_append, four_len]
  unfold dec
  rw [hn, hl, if_neg (by have := h.1; omega)]
  rw [hs, h4, List.take_left, List.drop_left, num_four hc]
  rw [if_neg (by simp)]
  rw [show (4 : Nat) = (four p.length).length from rfl, List.drop_left]
theorem dec_cut {p : List Nat} (h : Good p) (m : Nat) (hm : m < p.length + 8) (t : List Nat) : dec ((enc p ++ t).take m) = none := by
  have he : enc p ++ t = four p.length ++ (p ++ (four (CrcM.crc (four p.length ++ p)) ++ t)) := by unfold enc; simp only [List.append_assoc]
  have hl : ((enc p ++ t).take m).length = min m (p.length + 8 + t.length) := by rw [List.length_take, List.length_append, enc_len]
  unfold dec
  by_cases h8 : m < 8
  · rw [if_pos (.inl (by omega))]
  · have hn : num ((enc p ++ t).take m) = p.length := by
      rw [he, List.take_append, List.take_of_length_le (by rw [four_len]; omega)]
      exact num_four (by have := h.1; omega) _
    rw [hn, hl, if_neg (by have := h.1; omega), if_pos (.inl (by omega))]
theorem dec_nil : dec [] = none := by unfold dec; rw [if_pos (.inl (by simp))]
theorem rcvF_nil (f : Nat) : rcvF f [] = ([], 0) := rcvF_none dec_nil f
theorem encs_cons (p : List Nat) (ps : List (List Nat)) : encs (p :: ps) = enc p ++ encs ps := by simp [encs]
theorem rcvF_enc : ∀ (ps : List (List Nat)) (f : Nat) (t : List Nat), ps.length ≤ f → (∀ p ∈ ps, Good p) → rcvF f (encs ps ++ t) = (ps ++ (rcvF (f - ps.length) t).1, sz ps + (rcvF (f - ps.length) t).2)
  | [], f, t, _, _ => by simp [encs, sz]
  | p :: ps, 0, t, h, _ => by simp at h
  | p :: ps, f + 1, t, h, hg => by
    have hp := hg p (by simp)
    have hd := dec_enc hp (encs ps ++ t)
    rw [encs_cons, List.append_assoc, rcvF_some hd]
    have hdr : (enc p ++ (encs ps ++ t)).drop (p.length + 8) = encs ps ++ t := by rw [← enc_len p, List.drop_left]
    rw [hdr, rcvF_enc ps f t (by simp at h; omega) (fun q hq => hg q (by simp [hq]))]
    simp only [List.length_cons, Nat.add_sub_add_right, List.cons_append, sz, Nat.add_assoc]
theorem rcv_encs {ps : List (List Nat)} (hl : ps.length ≤ 65536) (hg : ∀ p ∈ ps, Good p) : rcv (encs ps) = (ps, sz ps) := by
  have h := rcvF_enc ps 65536 [] hl hg
  rw [List.append_nil, rcvF_nil] at h
  unfold rcv
  rw [h]
  simp
theorem keep_len : ∀ (ps : List (List Nat)) (m : Nat), (keep m ps).length ≤ ps.length
  | [], m => by simp [keep]
  | p :: ps, m => by
    rw [keep]
    split
    · have := keep_len ps (m - (p.length + 8)); simp only [List.length_cons]; omega
    · simp
theorem keep_pre : ∀ (ps : List (List Nat)) (m : Nat), ∃ t, ps = keep m ps ++ t
  | [], m => ⟨[], by simp [keep]⟩
  | p :: ps, m => by
    rw [keep]
    split
    · obtain ⟨t, ht⟩ := keep_pre ps (m - (p.length + 8))
      exact ⟨t, by rw [List.cons_append, ← ht]⟩
    · exact ⟨p :: ps, rfl⟩
theorem keep_sz : ∀ (ps : List (List Nat)) (m : Nat), sz (keep m ps) ≤ m
  | [], m => by simp [keep, sz]
  | p :: ps, m => by
    rw [keep]
    split
    · have := keep_sz ps (m - (p.length + 8)); simp only [sz]; omega
    · simp [sz]
theorem keep_mem {ps : List (List Nat)} {m : Nat} : ∀ p ∈ keep m ps, p ∈ ps := by
  intro p hp
  obtain ⟨t, ht⟩ := keep_pre ps m
  rw [ht]
  exact List.mem_append_left _ hp
theorem keep_all : ∀ (ps : List (List Nat)) (m : Nat), sz ps ≤ m → keep m ps = ps
  | [], m, _ => rfl
  | p :: ps, m, h => by
    rw [sz] at h
    rw [keep, if_pos (by omega), keep_all ps _ (by omega)]
theorem rcvF_cut : ∀ (ps : List (List Nat)) (f m : Nat), ps.length ≤ f → (∀ p ∈ ps, Good p) → rcvF f ((encs ps).take m) = (keep m ps, sz (keep m ps))
  | [], f, m, _, _ => by rw [show encs [] = [] from rfl, List.take_nil, rcvF_nil]; rfl
  | p :: ps, 0, m, h, _ => by simp at h
  | p :: ps, f + 1, m, h, hg => by
    have hp := hg p (by simp)
    rw [encs_cons, keep]
    split
    · rename_i hm
      have ht : (enc p ++ encs ps).take m = enc p ++ (encs ps).take (m - (p.length + 8)) := by
        rw [List.take_append, List.take_of_length_le (by rw [enc_len]; omega), enc_len]
      have hd := dec_enc hp ((encs ps).take (m - (p.length + 8)))
      rw [ht, rcvF_some hd]
      have hdr : (enc p ++ (encs ps).take (m - (p.length + 8))).drop (p.length + 8) = (encs ps).take (m - (p.length + 8)) := by rw [← enc_len p, List.drop_left]
      rw [hdr, rcvF_cut ps f _ (by simp at h; omega) (fun q hq => hg q (by simp [hq]))]
      rfl
    · rename_i hm
      rw [rcvF_none (dec_cut hp m (by omega) _)]
      rfl
theorem rcv_cut {ps : List (List Nat)} (hl : ps.length ≤ 65536) (hg : ∀ p ∈ ps, Good p) (m : Nat) : rcv ((encs ps).take m) = (keep m ps, sz (keep m ps)) := rcvF_cut ps 65536 m hl hg
theorem encs_append (ps qs : List (List Nat)) : encs (ps ++ qs) = encs ps ++ encs qs := by simp [encs]
theorem encs_keep (ps : List (List Nat)) (m : Nat) : (encs ps).take (sz (keep m ps)) = encs (keep m ps) := by
  obtain ⟨t, ht⟩ := keep_pre ps m
  have h := congrArg encs ht
  rw [encs_append] at h
  rw [h, ← encs_len (keep m ps), List.take_left]
theorem four_num {p : List Nat} (h : ∀ c ∈ p, c < 256) (hl : 4 ≤ p.length) : four (num p) = p.take 4 := by
  rcases p with _ | ⟨a, _ | ⟨b, _ | ⟨c, _ | ⟨d, t⟩⟩⟩⟩ <;> simp at hl
  · have ha := h a (by simp)
    have hb := h b (by simp)
    have hc := h c (by simp)
    have hd := h d (by simp)
    unfold four num
    simp only [List.getD_cons_zero, List.getD_cons_succ, List.take_succ_cons, List.take_zero]
    congr 1
    · omega
    · congr 1
      · omega
      · congr 1
        · omega
        · congr 1; omega
theorem enc_dec {p q : List Nat} (hb : ∀ c ∈ p, c < 256) (h : dec p = some q) : enc q = p.take (q.length + 8) := by
  unfold dec at h
  split at h
  · cases h
  · rename_i h1
    split at h
    · cases h
    · rename_i h2
      injection h with h
      have hn : q.length = num p := by rw [← h, List.length_drop, List.length_take]; omega
      have h8 : 8 ≤ p.length := by omega
      have hlen : num p + 8 ≤ p.length := by omega
      have hcrc : CrcM.crc (p.take (4 + num p)) = num (p.drop (4 + num p)) := by
        rcases Nat.lt_or_ge 0 1 with _ | h0
        · by_cases hh : CrcM.crc (p.take (4 + num p)) = num (p.drop (4 + num p))
          · exact hh
          · exact absurd (.inr hh) h2
        · omega
      have hfq : four q.length ++ q = p.take (4 + num p) := by
        rw [hn, four_num hb (by omega), ← h]
        conv => rhs; rw [← List.take_append_drop 4 (p.take (4 + num p))]
        rw [List.take_take, Nat.min_eq_left (by omega)]
      unfold enc
      rw [hfq, hcrc, four_num (fun c hc => hb c (List.mem_of_mem_drop hc)) (by rw [List.length_drop]; omega), hn]
      rw [show num p + 8 = (4 + num p) + 4 by omega, List.take_add (i := 4 + num p) (j := 4)]
theorem encs_rcvF : ∀ (f : Nat) (p : List Nat), (∀ c ∈ p, c < 256) → encs (rcvF f p).1 = p.take (rcvF f p).2
  | 0, p, _ => by simp [rcvF, encs]
  | f + 1, p, hb => by
    cases h : dec p with
    | none => rw [rcvF_none h]; simp [encs]
    | some q =>
      rw [rcvF_some h]
      simp only
      rw [encs_cons, enc_dec hb h, encs_rcvF f _ (fun c hc => hb c (List.mem_of_mem_drop hc)), List.take_add (i := q.length + 8)]
theorem encs_rcv {p : List Nat} (hb : ∀ c ∈ p, c < 256) : encs (rcv p).1 = p.take (rcv p).2 := encs_rcvF 65536 p hb
theorem rcvF_bytes : ∀ (f : Nat) (p : List Nat), (∀ c ∈ p, c < 256) → ∀ q ∈ (rcvF f p).1, ∀ c ∈ q, c < 256
  | 0, p, _ => by simp [rcvF]
  | f + 1, p, hb => by
    cases h : dec p with
    | none => rw [rcvF_none h]; simp
    | some q =>
      rw [rcvF_some h]
      intro r hr
      simp only [List.mem_cons] at hr
      rcases hr with rfl | hr
      · exact dec_bytes h hb
      · exact rcvF_bytes f _ (fun c hc => hb c (List.mem_of_mem_drop hc)) r hr
theorem rcv_good {p : List Nat} (hb : ∀ c ∈ p, c < 256) : ∀ q ∈ (rcv p).1, Good q := fun q hq => ⟨(rcv_ok p).2.2.2 q hq, rcvF_bytes 65536 p hb q hq⟩
/-- recovering what has been recovered -/
theorem rcv_rcv {p : List Nat} (hb : ∀ c ∈ p, c < 256) : rcv (p.take (rcv p).2) = rcv p := by
  obtain ⟨h1, h2, h3, h4⟩ := rcv_ok p
  rw [← encs_rcv hb, rcv_encs h3 (rcv_good hb), h1]
end Go.Proofs.Ytfhigppdgfajoaa
