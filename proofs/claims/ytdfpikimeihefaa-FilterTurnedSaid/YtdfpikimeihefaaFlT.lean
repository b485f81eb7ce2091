/-
  What one other byte does to Fletcher's sum, and to what was sealed by it: plain numbers. No program. No premise.
-/
import Derived.Test.YtdfpikimeihefaaFiP
namespace Go.Proofs.Ytdfpikimeihefaa
open Go.RowKit Go.Proofs.YtdfpikimeihefaaW.PrintWords

theorem set_split (l : List Int) (k : Nat) (h : k < l.length) (y : Int) : l = l.take k ++ rdI l k :: l.drop (k + 1) ∧ l.set k y = l.take k ++ y :: l.drop (k + 1) := by
  constructor
  · have e : rdI l k = l[k] := by simp [rdI, h]
    rw [e, List.getElem_cons_drop, List.take_append_drop]
  · rw [List.set_eq_take_append_cons_drop, if_pos h]
/-- Fletcher's registers, told apart by what they are apart. -/
theorem fl_low (s : List Int) (p q : Int × Int) : ((s.foldl flStep p).1 - (s.foldl flStep q).1 - (p.1 - q.1)) % 65535 = 0 := by
  induction s generalizing p q with
  | nil => simp
  | cons x s ih =>
    have h := ih (flStep p x) (flStep q x)
    rw [List.foldl_cons, List.foldl_cons]
    generalize (s.foldl flStep (flStep p x)).1 = a at h
    generalize (s.foldl flStep (flStep q x)).1 = b at h
    simp only [flStep] at h
    omega
theorem flP_append (p s : List Int) : flP (p ++ s) = s.foldl flStep (flP p) := by simp [flP]
theorem fletS_inj {a b : List Int} (h : fletS a = fletS b) : flP a = flP b := by
  unfold fletS at h
  have h1 := flP_range a
  have h2 := flP_range b
  generalize flP a = p at *
  generalize flP b = q at *
  obtain ⟨p1, p2⟩ := p
  obtain ⟨q1, q2⟩ := q
  simp only at *
  have e1 : p1 = q1 := by omega
  have e2 : p2 = q2 := by omega
  rw [e1, e2]
theorem flet_turned {l : List Int} (hb : Bts l) (k : Nat) (h : k < l.length) (y : Int) (hy : 0 ≤ y ∧ y ≤ 255) (hne : y ≠ rdI l k) : fletS (l.set k y) ≠ fletS l := by
  obtain ⟨e1, e2⟩ := set_split l k h y
  have hx := hb.at k
  intro e
  have e3 := congrArg Prod.fst (fletS_inj e)
  rw [e2] at e3
  conv at e3 => rhs; rw [e1]
  rw [flP_append, flP_append, List.foldl_cons, List.foldl_cons] at e3
  have h4 := fl_low (l.drop (k + 1)) (flStep (flP (l.take k)) y) (flStep (flP (l.take k)) (rdI l k))
  rw [e3] at h4
  generalize rdI l k = x at *
  generalize flP (l.take k) = p at *
  simp only [flStep] at h4
  omega
theorem place_k (place : Int) (n : Nat) (h0 : 0 < n) (h1 : n ≤ 1500000000000000) : ∃ k : Nat, k < n ∧ (wrap64 (place.tmod (n : Int) + (n : Int))).tmod (n : Int) = (k : Int) := by
  have a1 : place.tmod n < n := Int.tmod_lt_of_pos _ (by omega)
  have a2 : -(n : Int) < place.tmod n := by
    have := Int.tmod_lt_of_pos (-place) (show (0 : Int) < n by omega)
    rw [Int.neg_tmod] at this
    omega
  generalize place.tmod n = t at *
  have e : wrap64 (t + n) = t + n := by unfold wrap64; omega
  rw [e, Int.tmod_eq_emod_of_nonneg (by omega)]
  have b1 := Int.emod_nonneg (t + n) (show (n : Int) ≠ 0 by omega)
  have b2 := Int.emod_lt_of_pos (t + n) (show (0 : Int) < n by omega)
  obtain ⟨k, hk⟩ := Int.eq_ofNat_of_zero_le b1
  exact ⟨k, by omega, hk⟩
theorem xor_byte {x y : Int} (hx : 0 ≤ x ∧ x ≤ 255) (hy : 0 ≤ y ∧ y ≤ 255) (h0 : y ≠ 0) : ∃ z : Int, bits .xor .u8 x y = z ∧ (0 ≤ z ∧ z ≤ 255) ∧ z ≠ x := by
  obtain ⟨x, rfl⟩ := Int.eq_ofNat_of_zero_le hx.1
  obtain ⟨y, rfl⟩ := Int.eq_ofNat_of_zero_le hy.1
  refine ⟨((x ^^^ y : Nat) : Int), u8_xor_nat x y (by omega) (by omega), ?_, ?_⟩
  · have := Nat.xor_lt_two_pow (n := 8) (x := x) (y := y) (by omega) (by omega)
    omega
  · intro h
    have h2 : x ^^^ y = x := by exact_mod_cast h
    have h3 : x ^^^ (x ^^^ y) = x ^^^ x := by rw [h2]
    rw [← Nat.xor_assoc, Nat.xor_self, Nat.zero_xor] at h3
    omega
theorem dig4b_inj {u v : Int} (hu : 0 ≤ u ∧ u < 4294967296) (hv : 0 ≤ v ∧ v < 4294967296) (h : dig 4 true u = dig 4 true v) : u = v := by
  have hp : (2 : Int) ^ (8 * 4) = 4294967296 := by decide +kernel
  have h1 := getk_dig 4 true u 4 (by decide)
  have h2 := getk_dig 4 true v 4 (by decide)
  rw [hp, Int.emod_eq_of_lt hu.1 hu.2] at h1
  rw [hp, Int.emod_eq_of_lt hv.1 hv.2] at h2
  rw [← h1, ← h2, h]
theorem bts_set {l : List Int} (hb : Bts l) (k : Nat) {y : Int} (hy : 0 ≤ y ∧ y ≤ 255) : Bts (l.set k y) := fun z hz => by
  rcases List.mem_or_eq_of_mem_set hz with h1 | h1
  · exact hb z h1
  · rw [h1]; exact hy
/-- What has a sum behind it that is not its own is not unsealed. -/
theorem usF_ill (x d : List Int) (hd : d.length = 4) (hne : dig 4 true (fletS x) ≠ d) : usF (x ++ d) = ([], 5) := by
  have hl : (x ++ d).length = x.length + 4 := by rw [List.length_append, hd]
  unfold usF
  rw [if_neg (by omega), hl, Nat.add_sub_cancel, List.take_left, if_neg]
  intro h
  unfold sealF at h
  exact hne (List.append_cancel_left h)
theorem usF_turned {l : List Int} (hb : Bts l) (k : Nat) (h : k < l.length + 4) (y : Int) (hy : 0 ≤ y ∧ y ≤ 255) (hne : y ≠ rdI (sealF l) k) : usF ((sealF l).set k y) = ([], 5) := by
  unfold sealF at hne ⊢
  rcases Nat.lt_or_ge k l.length with hk | hk
  · rw [rdI_append_lt _ _ _ hk] at hne
    rw [List.set_append_left _ _ hk]
    refine usF_ill _ _ (dig_length _ _ _) fun e => ?_
    exact flet_turned hb k hk y hy hne (dig4b_inj (fletS_range _) (fletS_range _) e)
  · rw [rdI_append_ge _ _ _ hk] at hne
    rw [List.set_append_right _ _ hk]
    refine usF_ill _ _ (by rw [List.length_set, dig_length]) fun e => ?_
    have h1 := congrArg (fun m => rdI m (k - l.length)) e
    have h1' : rdI (dig 4 true (fletS l)) (k - l.length) = rdI ((dig 4 true (fletS l)).set (k - l.length) y) (k - l.length) := h1
    rw [h1'] at hne
    apply hne
    unfold rdI
    rw [List.getD_eq_getElem?_getD, List.getElem?_set_self (by rw [dig_length]; omega)]
    rfl
/-- A sum at the end, one byte turned: nothing is undone. -/
theorem udR_turned {l : List Fl} {b : List Int} (hb : Bts b) (hck : fck (l ++ [(4, 0)]) = 0) (hl : b.length ≤ 4096) (k : Nat) (h : k < (doA (l ++ [(4, 0)]) b).length) (y : Int) (hy : 0 ≤ y ∧ y ≤ 255) (hne : y ≠ rdI (doA (l ++ [(4, 0)]) b) k) :
    udR (l ++ [(4, 0)]) ((doA (l ++ [(4, 0)]) b).set k y) b.length = ([], 5) := by
  have e : doA (l ++ [(4, 0)]) b = sealF (doA l b) := by
    rw [doA_append]
    show do1 (4, 0) (doA l b) = _
    unfold do1
    rw [if_neg (by decide), if_neg (by decide), if_neg (by decide), if_pos rfl]
  rw [e] at h hne ⊢
  rw [sealF_length] at h
  have hu := usF_turned (doA_bts l hb) k h y hy hne
  unfold udR
  rw [if_neg (by rw [hck]; decide), if_neg (by omega), List.reverse_append]
  show fin (und ((4, 0) :: l.reverse) _) _ = _
  have h1 : un1 (4, 0) ((sealF (doA l b)).set k y) = ([], 5) := by
    unfold un1
    rw [if_neg (by decide), if_neg (by decide), if_neg (by decide), if_pos rfl]
    exact hu
  rw [und, h1, if_neg (by decide)]
  rfl
end Go.Proofs.Ytdfpikimeihefaa
