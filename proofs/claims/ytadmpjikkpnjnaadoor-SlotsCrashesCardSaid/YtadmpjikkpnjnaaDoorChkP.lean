/-
  What one other byte, and two neighbours that change places, do to the sums: plain numbers. No program. No premise.
-/
import Derived.Test.YtadmpjikkpnjnaaDoorChk4
namespace Go.Proofs.YtadmpjikkpnjnaaDoor
open Go.RowKit Go.Proofs.YtadmpjikkpnjnaaDoorW.PrintWords

theorem byt_inj_reg {r r' x : Nat} (h : r < 4294967296) (h' : r' < 4294967296) (hx : x < 256) (e : byt r x = byt r' x) : r = r' := by
  unfold byt at e
  have h1 : r ^^^ x < 4294967296 := by
    have := Nat.xor_lt_two_pow (n := 32) (x := r) (y := x) (by rw [two32]; exact h) (by rw [two32]; omega)
    rwa [two32] at this
  have h2 : r' ^^^ x < 4294967296 := by
    have := Nat.xor_lt_two_pow (n := 32) (x := r') (y := x) (by rw [two32]; exact h') (by rw [two32]; omega)
    rwa [two32] at this
  have e2 := itN_inj 8 h1 h2 e
  have e3 : r ^^^ x ^^^ x = r' ^^^ x ^^^ x := by rw [e2]
  rwa [Nat.xor_assoc, Nat.xor_assoc, Nat.xor_self, Nat.xor_zero, Nat.xor_zero] at e3
theorem byt_inj_byte {r x y : Nat} (h : r < 4294967296) (hx : x < 256) (hy : y < 256) (e : byt r x = byt r y) : x = y := by
  unfold byt at e
  have h1 : r ^^^ x < 4294967296 := by
    have := Nat.xor_lt_two_pow (n := 32) (x := r) (y := x) (by rw [two32]; exact h) (by rw [two32]; omega)
    rwa [two32] at this
  have h2 : r ^^^ y < 4294967296 := by
    have := Nat.xor_lt_two_pow (n := 32) (x := r) (y := y) (by rw [two32]; exact h) (by rw [two32]; omega)
    rwa [two32] at this
  have e2 := itN_inj 8 h1 h2 e
  have e3 : r ^^^ (r ^^^ x) = r ^^^ (r ^^^ y) := by rw [e2]
  rwa [xor_back, xor_back] at e3
theorem reg_inj {l : List Int} (hb : Bts l) {r r' : Nat} (h : r < 4294967296) (h' : r' < 4294967296) (e : reg r l = reg r' l) : r = r' := by
  induction l generalizing r r' with
  | nil => exact e
  | cons x l ih =>
    have hx := hb x List.mem_cons_self
    have hb2 : Bts l := fun y hy => hb y (List.mem_cons_of_mem _ hy)
    exact byt_inj_reg h h' (by omega) (ih hb2 (byt_lt h (by omega)) (byt_lt h' (by omega)) e)
theorem reg_turned {p s : List Int} {x y : Int} (hp : Bts p) (hs : Bts s) (hx : 0 ≤ x ∧ x ≤ 255) (hy : 0 ≤ y ∧ y ≤ 255) (hne : x ≠ y) {r : Nat} (h : r < 4294967296) : reg r (p ++ x :: s) ≠ reg r (p ++ y :: s) := by
  intro e
  rw [reg_append, reg_append] at e
  have hq := reg_lt hp h
  generalize reg r p = q at e hq
  have e2 : byt q x.toNat = byt q y.toNat := reg_inj hs (byt_lt hq (by omega)) (byt_lt hq (by omega)) e
  have e3 := byt_inj_byte hq (by omega) (by omega) e2
  omega
theorem n32_inj {a b : Nat} (ha : a < 4294967296) (hb : b < 4294967296) (h : n32 a = n32 b) : a = b := by
  have := n32_n32 ha
  rw [h, n32_n32 hb] at this
  exact this.symm
theorem set_split (l : List Int) (k : Nat) (h : k < l.length) (y : Int) : l = l.take k ++ rdI l k :: l.drop (k + 1) ∧ l.set k y = l.take k ++ y :: l.drop (k + 1) := by
  constructor
  · have e : rdI l k = l[k] := by simp [rdI, h]
    rw [e, List.getElem_cons_drop, List.take_append_drop]
  · rw [List.set_eq_take_append_cons_drop, if_pos h]
theorem crc_turned {l : List Int} (hb : Bts l) (k : Nat) (h : k < l.length) (y : Int) (hy : 0 ≤ y ∧ y ≤ 255) (hne : y ≠ rdI l k) : moreS 0 (l.set k y) ≠ moreS 0 l := by
  obtain ⟨e1, e2⟩ := set_split l k h y
  have hx := hb.at k
  intro e
  unfold moreS at e
  have e0 : n32 (reg (n32 (0 : Int).toNat) (l.set k y)) = n32 (reg (n32 (0 : Int).toNat) l) := by exact_mod_cast e
  have hbs : Bts (l.set k y) := by
    intro z hz
    rcases List.mem_or_eq_of_mem_set hz with h1 | h1
    · exact hb z h1
    · rw [h1]; exact hy
  have e3 := n32_inj (reg_lt hbs (n32_lt _)) (reg_lt hb (n32_lt _)) e0
  have e4 := reg_turned (hb.take k) (hb.drop (k + 1)) hy hx hne (n32_lt (0 : Int).toNat)
  rw [← e1, ← e2] at e4
  exact e4 e3

/-- Fletcher's registers, told apart by what they are apart. -/
theorem fl_low (s : List Int) (p q : Int × Int) : ((s.foldl flStep p).1 - (s.foldl flStep q).1 - (p.1 - q.1)) % 65535 = 0 := by
  induction s generalizing p q with
  | nil => simp
  | cons x s ih =>
    have h := ih (flStep p x) (flStep q x)
    rw [List.foldl_cons, List.foldl_cons]
    generalize (s.foldl flStep (flStep p x)).1 = a at h
    generalize (s.foldl flStep (flStep q x)).1 = b at h
    simp only [flStep] at h
    omega
theorem fl_high (s : List Int) (p q : Int × Int) (h1 : p.1 = q.1) : (s.foldl flStep p).1 = (s.foldl flStep q).1 ∧ ((s.foldl flStep p).2 - (s.foldl flStep q).2 - (p.2 - q.2)) % 65535 = 0 := by
  induction s generalizing p q with
  | nil => exact ⟨h1, by simp⟩
  | cons x s ih =>
    have h := ih (flStep p x) (flStep q x) (by simp only [flStep]; rw [h1])
    rw [List.foldl_cons, List.foldl_cons]
    refine ⟨h.1, ?_⟩
    have h := h.2
    generalize (s.foldl flStep (flStep p x)).2 = a at h
    generalize (s.foldl flStep (flStep q x)).2 = b at h
    simp only [flStep, h1] at h
    omega
theorem flP_append (p s : List Int) : flP (p ++ s) = s.foldl flStep (flP p) := by simp [flP]
theorem fletS_inj {a b : List Int} (h : fletS a = fletS b) : flP a = flP b := by
  unfold fletS at h
  have h1 := flP_range a
  have h2 := flP_range b
  generalize flP a = p at *
  generalize flP b = q at *
  obtain ⟨p1, p2⟩ := p
  obtain ⟨q1, q2⟩ := q
  simp only at *
  have e1 : p1 = q1 := by omega
  have e2 : p2 = q2 := by omega
  rw [e1, e2]
theorem flet_turned {l : List Int} (hb : Bts l) (k : Nat) (h : k < l.length) (y : Int) (hy : 0 ≤ y ∧ y ≤ 255) (hne : y ≠ rdI l k) : fletS (l.set k y) ≠ fletS l := by
  obtain ⟨e1, e2⟩ := set_split l k h y
  have hx := hb.at k
  intro e
  have e3 := congrArg Prod.fst (fletS_inj e)
  rw [e2] at e3
  conv at e3 => rhs; rw [e1]
  rw [flP_append, flP_append, List.foldl_cons, List.foldl_cons] at e3
  have h4 := fl_low (l.drop (k + 1)) (flStep (flP (l.take k)) y) (flStep (flP (l.take k)) (rdI l k))
  rw [e3] at h4
  generalize rdI l k = x at *
  generalize flP (l.take k) = p at *
  simp only [flStep] at h4
  omega
theorem flet_places {l : List Int} (hb : Bts l) (k : Nat) (h : k + 1 < l.length) : fletS ((l.set k (rdI l (k + 1))).set (k + 1) (rdI l k)) = fletS l ↔ rdI l k = rdI l (k + 1) := by
  have hx := hb.at k
  have hy := hb.at (k + 1)
  have e1 : l = l.take k ++ rdI l k :: rdI l (k + 1) :: l.drop (k + 1 + 1) := by
    have a1 : rdI l k = l[k] := by simp [rdI, show k < l.length by omega]
    have a2 : rdI l (k + 1) = l[k + 1] := by simp [rdI, h]
    rw [a1, a2, List.getElem_cons_drop, List.getElem_cons_drop, List.take_append_drop]
  have e2 : (l.set k (rdI l (k + 1))).set (k + 1) (rdI l k) = l.take k ++ rdI l (k + 1) :: rdI l k :: l.drop (k + 1 + 1) := by
    have hp : (l.take k).length = k := by rw [List.length_take]; omega
    generalize rdI l k = x at *
    generalize rdI l (k + 1) = y at *
    conv => lhs; rw [e1]
    generalize l.take k = p at hp
    subst hp
    simp [List.set_append]
  generalize rdI l k = x at *
  generalize rdI l (k + 1) = y at *
  rw [e2]
  conv => lhs; rhs; rw [e1]
  generalize l.take k = p
  generalize l.drop (k + 1 + 1) = s
  constructor
  · intro e
    have e3 := congrArg Prod.snd (fletS_inj e)
    rw [flP_append, flP_append, List.foldl_cons, List.foldl_cons, List.foldl_cons, List.foldl_cons] at e3
    have h4 := fl_high s (flStep (flStep (flP p) y) x) (flStep (flStep (flP p) x) y) (by simp only [flStep]; omega)
    rw [e3] at h4
    generalize flP p = q at *
    have h4 := h4.2
    simp only [flStep] at h4
    omega
  · intro e
    rw [e]
theorem sealL_bts {l : List Int} (h : Bts l) : Bts (sealL l) := h.append (dig_bts _ _ _)
theorem sealL_length (l : List Int) : (sealL l).length = l.length + 4 := by unfold sealL; rw [List.length_append, dig_length]
theorem usL_bts {l : List Int} (h : Bts l) : Bts (usL l) := by
  unfold usL
  split
  · exact h.take _
  · exact Bts.nil
theorem usL_length (l : List Int) : (usL l).length ≤ l.length := by
  unfold usL
  split
  · rw [List.length_take]; omega
  · exact Nat.zero_le _
theorem lent_cap {w : World} {base g cap n : Nat} {l : List Int} (h : Own w base (.slice (some ⟨g, 0, none⟩) (n + 1) cap) l) : n ≤ cap := by have := (own_open h).2.2.1; omega

theorem place_k (place : Int) (n : Nat) (h0 : 0 < n) (h1 : n ≤ 1500000000000000) : ∃ k : Nat, k < n ∧ (wrap64 (place.tmod (n : Int) + (n : Int))).tmod (n : Int) = (k : Int) := by
  have a1 : place.tmod n < n := Int.tmod_lt_of_pos _ (by omega)
  have a2 : -(n : Int) < place.tmod n := by
    have := Int.tmod_lt_of_pos (-place) (show (0 : Int) < n by omega)
    rw [Int.neg_tmod] at this
    omega
  generalize place.tmod n = t at *
  have e : wrap64 (t + n) = t + n := by unfold wrap64; omega
  rw [e, Int.tmod_eq_emod_of_nonneg (by omega)]
  have b1 := Int.emod_nonneg (t + n) (show (n : Int) ≠ 0 by omega)
  have b2 := Int.emod_lt_of_pos (t + n) (show (0 : Int) < n by omega)
  obtain ⟨k, hk⟩ := Int.eq_ofNat_of_zero_le b1
  exact ⟨k, by omega, hk⟩
theorem xor_byte {x y : Int} (hx : 0 ≤ x ∧ x ≤ 255) (hy : 0 ≤ y ∧ y ≤ 255) (h0 : y ≠ 0) : ∃ z : Int, bits .xor .u8 x y = z ∧ (0 ≤ z ∧ z ≤ 255) ∧ z ≠ x := by
  obtain ⟨x, rfl⟩ := Int.eq_ofNat_of_zero_le hx.1
  obtain ⟨y, rfl⟩ := Int.eq_ofNat_of_zero_le hy.1
  refine ⟨((x ^^^ y : Nat) : Int), u8_xor_nat x y (by omega) (by omega), ?_, ?_⟩
  · have := Nat.xor_lt_two_pow (n := 8) (x := x) (y := y) (by omega) (by omega)
    omega
  · intro h
    have h2 : x ^^^ y = x := by exact_mod_cast h
    have h3 : x ^^^ (x ^^^ y) = x ^^^ x := by rw [h2]
    rw [xor_back, Nat.xor_self] at h3
    omega
theorem rdI_seal (l : List Int) (k : Nat) (h : k < l.length) : rdI (sealL l) k = rdI l k := by
  unfold rdI sealL
  rw [List.getD_eq_getElem?_getD, List.getD_eq_getElem?_getD, List.getElem?_append_left h]
theorem set_seal (l : List Int) (k : Nat) (h : k < l.length) (y : Int) : (sealL l).set k y = l.set k y ++ dig 4 false (moreS 0 l) := by
  unfold sealL
  rw [List.set_append_left _ _ h]
theorem dig4_inj {u v : Int} (hu : 0 ≤ u ∧ u < 4294967296) (hv : 0 ≤ v ∧ v < 4294967296) (h : dig 4 false u = dig 4 false v) : u = v := by
  have := dig4_mod hu.1 hu.2
  rw [h, dig4_mod hv.1 hv.2] at this
  exact this.symm
/-- What has a sum behind it that is not its own is not unsealed. -/
theorem us_bad (x : List Int) (u : Int) (hu : 0 ≤ u ∧ u < 4294967296) (hne : moreS 0 x ≠ u) : usE (x ++ dig 4 false u) = 5 ∧ usL (x ++ dig 4 false u) = [] := by
  have hl : (x ++ dig 4 false u).length = x.length + 4 := by rw [List.length_append, dig_length]
  have hE : usE (x ++ dig 4 false u) = 5 := by
    unfold usE
    rw [if_neg (by omega), hl, Nat.add_sub_cancel, List.take_left, if_neg]
    intro h
    unfold sealL at h
    exact hne (dig4_inj (moreS_range 0 x) hu (List.append_cancel_left h))
  refine ⟨hE, ?_⟩
  unfold usL
  rw [if_neg (by omega)]
theorem us_good (x : List Int) : usE (sealL x) = 0 ∧ usL (sealL x) = x := by
  have hl := sealL_length x
  have ht : (sealL x).take ((sealL x).length - 4) = x := by
    rw [hl, Nat.add_sub_cancel]
    unfold sealL
    exact List.take_left
  have hE : usE (sealL x) = 0 := by
    unfold usE
    rw [if_neg (by omega), ht, if_pos rfl]
  refine ⟨hE, ?_⟩
  unfold usL
  rw [if_pos hE, ht]
theorem bts_set {l : List Int} (hb : Bts l) (k : Nat) {y : Int} (hy : 0 ≤ y ∧ y ≤ 255) : Bts (l.set k y) := fun z hz => by
  rcases List.mem_or_eq_of_mem_set hz with h1 | h1
  · exact hb z h1
  · rw [h1]; exact hy
theorem own_rd {w : World} {base g n cap : Nat} {xs : List Int} (h : Own w base (.slice (some ⟨g, 0, none⟩) n cap) xs) : Rd w (some ⟨g, 0, none⟩) xs := by
  obtain ⟨A', c', hv, hrd⟩ := own_reads h
  injection hv with e1 e2 e3
  subst e1
  exact hrd
end Go.Proofs.YtadmpjikkpnjnaaDoor
