/-
  Bytes of one rank together: plain lists. No program. No premise.
-/
import Derived.Test.YtadmpjikkpnjnaaDoorOct5
namespace Go.Proofs.YtadmpjikkpnjnaaDoor
open Go.RowKit Go.Proofs.YtadmpjikkpnjnaaDoorW.PrintWords

/-- The list whose first bytes are told by f, those behind as they were. -/
def preL (f : Nat → Int) (m : Nat) : List Int := (List.range m).map f
theorem preL_length (f : Nat → Int) (m : Nat) : (preL f m).length = m := by simp [preL]
theorem preL_succ (f : Nat → Int) (m : Nat) : preL f (m + 1) = preL f m ++ [f m] := by simp [preL, List.range_succ]
theorem rdI_preL (f : Nat → Int) (m q : Nat) (h : q < m) : rdI (preL f m) q = f q := by
  unfold rdI preL
  rw [List.getD_eq_getElem?_getD, List.getElem?_map, List.getElem?_range h]
  rfl
theorem rdI_append_lt (a b : List Int) (q : Nat) (h : q < a.length) : rdI (a ++ b) q = rdI a q := by
  unfold rdI
  rw [List.getD_eq_getElem?_getD, List.getD_eq_getElem?_getD, List.getElem?_append_left h]
theorem rdI_append_ge (a b : List Int) (q : Nat) (h : a.length ≤ q) : rdI (a ++ b) q = rdI b (q - a.length) := by
  unfold rdI
  rw [List.getD_eq_getElem?_getD, List.getD_eq_getElem?_getD, List.getElem?_append_right h]
theorem rdI_drop (l : List Int) (m q : Nat) : rdI (l.drop m) q = rdI l (m + q) := by
  unfold rdI
  rw [List.getD_eq_getElem?_getD, List.getD_eq_getElem?_getD, List.getElem?_drop]
theorem preL_bts {f : Nat → Int} {m : Nat} (h : ∀ q, q < m → 0 ≤ f q ∧ f q ≤ 255) : Bts (preL f m) := fun x hx => by
  simp only [preL, List.mem_map, List.mem_range] at hx
  obtain ⟨q, hq, rfl⟩ := hx
  exact h q hq

/-- Ranked place q of numbers of w bytes, n of them: where its byte comes from. -/
def shF (w n : Nat) (l : List Int) (q : Nat) : Int := rdI l ((q % n) * w + q / n)
/-- Plain place p: where its byte comes from. -/
def unF (w n : Nat) (l : List Int) (p : Nat) : Int := rdI l ((p % w) * n + p / w)
def shufL (w : Nat) (l : List Int) : List Int := preL (shF w (l.length / w) l) (w * (l.length / w)) ++ l.drop (w * (l.length / w))
def unshL (w : Nat) (l : List Int) : List Int := preL (unF w (l.length / w) l) (w * (l.length / w)) ++ l.drop (w * (l.length / w))
theorem wn_le (w : Nat) (l : List Int) : w * (l.length / w) ≤ l.length := Nat.mul_div_le _ _
theorem shufL_length (w : Nat) (l : List Int) : (shufL w l).length = l.length := by
  have := wn_le w l
  unfold shufL
  rw [List.length_append, preL_length, List.length_drop]
  omega
theorem unshL_length (w : Nat) (l : List Int) : (unshL w l).length = l.length := by
  have := wn_le w l
  unfold unshL
  rw [List.length_append, preL_length, List.length_drop]
  omega
theorem place_in {w n i k : Nat} (hi : i < n) (hk : k < w) : i * w + k < w * n := by
  have h : (i + 1) * w ≤ n * w := Nat.mul_le_mul_right _ hi
  rw [Nat.succ_mul] at h
  rw [Nat.mul_comm w n]
  omega
theorem rank_in {w n i k : Nat} (hi : i < n) (hk : k < w) : k * n + i < w * n := by
  have h : (k + 1) * n ≤ w * n := Nat.mul_le_mul_right _ hk
  rw [Nat.succ_mul] at h
  omega
theorem mod_of {a b r : Nat} (h : r < b) : (a * b + r) % b = r := by
  rw [Nat.add_comm, Nat.add_mul_mod_self_right, Nat.mod_eq_of_lt h]
theorem div_of {a b r : Nat} (h : r < b) : (a * b + r) / b = a := by
  rw [Nat.add_comm, Nat.add_mul_div_right _ _ (by omega), Nat.div_eq_of_lt h, Nat.zero_add]

/-- In place, numbers i whole and k bytes of the next one. -/
def mixS (w n : Nat) (l : List Int) (i k : Nat) : List Int := (List.range l.length).map fun q => if q < w * n ∧ (q % n < i ∨ (q % n = i ∧ q / n < k)) then shF w n l q else rdI l q
theorem mixS_length (w n : Nat) (l : List Int) (i k : Nat) : (mixS w n l i k).length = l.length := by simp [mixS]
theorem rdI_mixS (w n : Nat) (l : List Int) (i k q : Nat) (h : q < l.length) : rdI (mixS w n l i k) q = if q < w * n ∧ (q % n < i ∨ (q % n = i ∧ q / n < k)) then shF w n l q else rdI l q := by
  unfold mixS
  conv => lhs; unfold rdI
  rw [List.getD_eq_getElem?_getD, List.getElem?_map, List.getElem?_range h]
  rfl
theorem mixS_start (w n : Nat) (l : List Int) : mixS w n l 0 0 = l := ext_rdI (mixS_length ..) fun q hq => by
  rw [mixS_length] at hq
  rw [rdI_mixS _ _ _ _ _ _ hq, if_neg]
  rintro ⟨_, h | ⟨_, h⟩⟩
  · exact absurd h (Nat.not_lt_zero _)
  · exact absurd h (Nat.not_lt_zero _)
theorem mixS_next (w n : Nat) (l : List Int) (i : Nat) : mixS w n l i w = mixS w n l (i + 1) 0 := ext_rdI (by rw [mixS_length, mixS_length]) fun q hq => by
  rw [mixS_length] at hq
  rw [rdI_mixS _ _ _ _ _ _ hq, rdI_mixS _ _ _ _ _ _ hq]
  by_cases h1 : q < w * n
  · have h2 : q / n < w := by
      rw [Nat.div_lt_iff_lt_mul (by rcases Nat.eq_zero_or_pos n with h | h; (rw [h] at h1; omega); exact h)]
      exact h1
    congr 1
    apply propext
    generalize q / n = d at h2 ⊢
    generalize q % n = r
    constructor
    · rintro ⟨_, h⟩
      exact ⟨h1, .inl (by omega)⟩
    · rintro ⟨_, h⟩
      exact ⟨h1, by omega⟩
  · rw [if_neg (fun h => h1 h.1), if_neg (fun h => h1 h.1)]
theorem mixS_step {w n : Nat} {l : List Int} (hl : w * n ≤ l.length) {i k : Nat} (hi : i < n) (hk : k < w) : (mixS w n l i k).set (k * n + i) (rdI l (i * w + k)) = mixS w n l i (k + 1) := ext_rdI (by rw [List.length_set, mixS_length, mixS_length]) fun q hq => by
  rw [List.length_set, mixS_length] at hq
  have hin := rank_in hi hk
  rw [rdI_set _ _ _ _ (by rw [mixS_length]; omega), rdI_mixS _ _ _ _ _ _ hq, rdI_mixS _ _ _ _ _ _ hq]
  by_cases h : k * n + i = q
  · rw [if_pos h, ← h, if_pos ⟨hin, .inr ⟨mod_of hi, by rw [div_of hi]; omega⟩⟩]
    unfold shF
    rw [mod_of hi, div_of hi]
  · rw [if_neg h]
    by_cases h1 : q < w * n
    · congr 1
      apply propext
      have hdm := Nat.div_add_mod q n
      generalize q / n = d at hdm ⊢
      generalize q % n = r at hdm ⊢
      constructor
      · rintro ⟨_, h2⟩
        exact ⟨h1, by omega⟩
      · rintro ⟨_, h2⟩
        refine ⟨h1, ?_⟩
        rcases h2 with h2 | ⟨h2, h3⟩
        · exact .inl h2
        · right
          refine ⟨h2, ?_⟩
          rcases Nat.lt_or_ge d k with h4 | h4
          · exact h4
          · have h5 : d = k := by omega
            rw [h5, h2, Nat.mul_comm] at hdm
            exact absurd hdm h
    · rw [if_neg (fun h => h1 h.1), if_neg (fun h => h1 h.1)]
theorem mixS_end (w : Nat) (l : List Int) : mixS w (l.length / w) l (l.length / w) 0 = shufL w l := ext_rdI (by rw [mixS_length, shufL_length]) fun q hq => by
  rw [mixS_length] at hq
  rw [rdI_mixS _ _ _ _ _ _ hq]
  unfold shufL
  by_cases h1 : q < w * (l.length / w)
  · rw [rdI_append_lt _ _ _ (by rw [preL_length]; exact h1), rdI_preL _ _ _ h1, if_pos]
    refine ⟨h1, .inl (Nat.mod_lt _ ?_)⟩
    rcases Nat.eq_zero_or_pos (l.length / w) with h | h
    · rw [h] at h1; omega
    · exact h
  · rw [if_neg (fun h => h1 h.1), rdI_append_ge _ _ _ (by rw [preL_length]; omega), preL_length, rdI_drop]
    congr 1
    omega
/-- In place, the first m plain places. -/
def mixU (w n : Nat) (l : List Int) (m : Nat) : List Int := (List.range l.length).map fun p => if p < m then unF w n l p else rdI l p
theorem mixU_length (w n : Nat) (l : List Int) (m : Nat) : (mixU w n l m).length = l.length := by simp [mixU]
theorem rdI_mixU (w n : Nat) (l : List Int) (m p : Nat) (h : p < l.length) : rdI (mixU w n l m) p = if p < m then unF w n l p else rdI l p := by
  unfold mixU
  conv => lhs; unfold rdI
  rw [List.getD_eq_getElem?_getD, List.getElem?_map, List.getElem?_range h]
  rfl
theorem mixU_start (w n : Nat) (l : List Int) : mixU w n l 0 = l := ext_rdI (mixU_length ..) fun q hq => by
  rw [mixU_length] at hq
  rw [rdI_mixU _ _ _ _ _ hq, if_neg (by omega)]
theorem mixU_step {w n : Nat} {l : List Int} (hl : w * n ≤ l.length) {i k : Nat} (hi : i < n) (hk : k < w) : (mixU w n l (i * w + k)).set (i * w + k) (rdI l (k * n + i)) = mixU w n l (i * w + (k + 1)) := ext_rdI (by rw [List.length_set, mixU_length, mixU_length]) fun q hq => by
  rw [List.length_set, mixU_length] at hq
  have hin := place_in hi hk
  rw [rdI_set _ _ _ _ (by rw [mixU_length]; omega), rdI_mixU _ _ _ _ _ hq, rdI_mixU _ _ _ _ _ hq]
  by_cases h : i * w + k = q
  · rw [if_pos h, ← h, if_pos (by omega)]
    unfold unF
    rw [mod_of hk, div_of hk]
  · rw [if_neg h]
    by_cases h1 : q < i * w + k
    · rw [if_pos h1, if_pos (by omega)]
    · rw [if_neg h1, if_neg (by omega)]
theorem mixU_end (w : Nat) (l : List Int) : mixU w (l.length / w) l (w * (l.length / w)) = unshL w l := ext_rdI (by rw [mixU_length, unshL_length]) fun q hq => by
  rw [mixU_length] at hq
  rw [rdI_mixU _ _ _ _ _ hq]
  unfold unshL
  by_cases h1 : q < w * (l.length / w)
  · rw [rdI_append_lt _ _ _ (by rw [preL_length]; exact h1), rdI_preL _ _ _ h1, if_pos h1]
  · rw [if_neg h1, rdI_append_ge _ _ _ (by rw [preL_length]; omega), preL_length, rdI_drop]
    congr 1
    omega
theorem shufL_bts {l : List Int} (h : Bts l) (w : Nat) : Bts (shufL w l) := (preL_bts fun _q _ => h.at _).append (h.drop _)
theorem unshL_bts {l : List Int} (h : Bts l) (w : Nat) : Bts (unshL w l) := (preL_bts fun _q _ => h.at _).append (h.drop _)
/-- They undo one another. -/
theorem unsh_shuf (w : Nat) (l : List Int) (hw : 0 < w) : unshL w (shufL w l) = l := ext_rdI (by rw [unshL_length, shufL_length]) fun q hq => by
  rw [unshL_length, shufL_length] at hq
  have hle := wn_le w l
  conv => lhs; unfold unshL
  rw [shufL_length]
  by_cases h1 : q < w * (l.length / w)
  · rw [rdI_append_lt _ _ _ (by rw [preL_length]; exact h1), rdI_preL _ _ _ h1]
    unfold unF
    have hi : q / w < l.length / w := Nat.div_lt_of_lt_mul h1
    have hk : q % w < w := Nat.mod_lt _ hw
    have hr := rank_in hi hk
    unfold shufL
    rw [rdI_append_lt _ _ _ (by rw [preL_length]; exact hr), rdI_preL _ _ _ hr]
    unfold shF
    rw [mod_of hi, div_of hi, Nat.mul_comm, Nat.div_add_mod]
  · rw [rdI_append_ge _ _ _ (by rw [preL_length]; omega), preL_length, rdI_drop]
    unfold shufL
    rw [rdI_append_ge _ _ _ (by rw [preL_length]; omega), preL_length, rdI_drop]
    congr 1
    omega
theorem shuf_unsh (w : Nat) (l : List Int) (_hw : 0 < w) : shufL w (unshL w l) = l := ext_rdI (by rw [shufL_length, unshL_length]) fun q hq => by
  rw [shufL_length, unshL_length] at hq
  have hle := wn_le w l
  conv => lhs; unfold shufL
  rw [unshL_length]
  by_cases h1 : q < w * (l.length / w)
  · rw [rdI_append_lt _ _ _ (by rw [preL_length]; exact h1), rdI_preL _ _ _ h1]
    unfold shF
    have hn : 0 < l.length / w := by
      rcases Nat.eq_zero_or_pos (l.length / w) with h | h
      · rw [h] at h1; omega
      · exact h
    have hi : q % (l.length / w) < l.length / w := Nat.mod_lt _ hn
    have hk : q / (l.length / w) < w := by rw [Nat.div_lt_iff_lt_mul hn]; exact h1
    have hr := place_in hi hk
    unfold unshL
    rw [rdI_append_lt _ _ _ (by rw [preL_length]; exact hr), rdI_preL _ _ _ hr]
    unfold unF
    rw [mod_of hk, div_of hk, Nat.mul_comm, Nat.div_add_mod]
  · rw [rdI_append_ge _ _ _ (by rw [preL_length]; omega), preL_length, rdI_drop]
    unfold unshL
    rw [rdI_append_ge _ _ _ (by rw [preL_length]; omega), preL_length, rdI_drop]
    congr 1
    omega
end Go.Proofs.YtadmpjikkpnjnaaDoor
