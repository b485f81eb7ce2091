/-
  Layer 15: plain lists: copies, runs, tokens. No program. No premise.
-/
import Derived.Test.YtdfpikimeihefaaShP
namespace Go.Proofs.Ytdfpikimeihefaa
open Go.RowKit Go.Proofs.YtdfpikimeihefaaW.PrintWords

/-- From n on, r places at most: how far p holds. -/
def ml (p : Nat → Bool) (n : Nat) : Nat → Nat
  | 0 => n
  | r + 1 => if p n = true then ml p (n + 1) r else n
theorem ml_ge (p : Nat → Bool) (n r : Nat) : n ≤ ml p n r := by
  induction r generalizing n with
  | zero => exact Nat.le_refl _
  | succ r ih =>
    simp only [ml]
    split
    · have := ih (n + 1); omega
    · exact Nat.le_refl _
theorem ml_le (p : Nat → Bool) (n r : Nat) : ml p n r ≤ n + r := by
  induction r generalizing n with
  | zero => exact Nat.le_refl _
  | succ r ih =>
    simp only [ml]
    split
    · have := ih (n + 1); omega
    · omega
theorem ml_yes {p : Nat → Bool} {n m : Nat} (h : p n = true) (hm : n < m) : ml p n (m - n) = ml p (n + 1) (m - (n + 1)) := by
  obtain ⟨k, hk⟩ : ∃ k, m - n = k + 1 := ⟨m - n - 1, by omega⟩
  rw [hk, ml, if_pos h, show m - (n + 1) = k from by omega]
theorem ml_no {p : Nat → Bool} {n m : Nat} (h : p n = false) (hm : n < m) : ml p n (m - n) = n := by
  obtain ⟨k, hk⟩ : ∃ k, m - n = k + 1 := ⟨m - n - 1, by omega⟩
  rw [hk, ml, if_neg (by rw [h]; decide)]
/-- All below the answer hold. -/
theorem ml_all (p : Nat → Bool) (n r j : Nat) (h1 : n ≤ j) (h2 : j < ml p n r) : p j = true := by
  induction r generalizing n with
  | zero => simp only [ml] at h2; omega
  | succ r ih =>
    simp only [ml] at h2
    split at h2
    · next h =>
      rcases Nat.lt_or_ge n j with h3 | h3
      · exact ih (n + 1) (by omega) h2
      · have : n = j := by omega
        subst this
        exact h
    · omega
/-- Where all hold, the answer is the most. -/
theorem ml_full {p : Nat → Bool} {n r : Nat} (h : ∀ j, n ≤ j → j < n + r → p j = true) : ml p n r = n + r := by
  induction r generalizing n with
  | zero => rfl
  | succ r ih =>
    rw [ml, if_pos (h n (Nat.le_refl _) (by omega)), ih (fun j h1 h2 => h j (by omega) (by omega))]
    omega

def mtc (l : List Int) (at_ d : Nat) (n : Nat) : Bool := rdI l (at_ + n) == rdI l (at_ + n - d)
/-- The room of a copy. -/
def roomL (l : List Int) (at_ : Nat) : Nat := min 131 (l.length - at_)
def mlen (l : List Int) (at_ d : Nat) : Nat := ml (mtc l at_ d) 0 (roomL l at_)
theorem mlen_le (l : List Int) (at_ d : Nat) : mlen l at_ d ≤ roomL l at_ := by have := ml_le (mtc l at_ d) 0 (roomL l at_); unfold mlen; omega
/-- The best of the first D. -/
def bst (f : Nat → Nat) : Nat → Nat × Nat
  | 0 => (0, 0)
  | D + 1 => if (bst f D).1 < f (D + 1) then (f (D + 1), D + 1) else bst f D
theorem bst_le {f : Nat → Nat} {room : Nat} (h : ∀ d, f d ≤ room) (D : Nat) : (bst f D).1 ≤ room := by
  induction D with
  | zero => exact Nat.zero_le _
  | succ D ih =>
    simp only [bst]
    split
    · exact h _
    · exact ih
theorem bst_by (f : Nat → Nat) (D : Nat) : (bst f D).2 ≤ D := by
  induction D with
  | zero => exact Nat.le_refl _
  | succ D ih =>
    simp only [bst]
    split
    · exact Nat.le_refl _
    · omega
theorem bst_full {f : Nat → Nat} {room : Nat} (h : ∀ d, f d ≤ room) (D k : Nat) (hf : room ≤ (bst f D).1) : bst f (D + k) = bst f D := by
  induction k with
  | zero => rfl
  | succ k ih =>
    rw [← Nat.add_assoc, bst, ih, if_neg (by have := h (D + k + 1); omega)]
theorem bst_yes (f : Nat → Nat) (D : Nat) (h : (bst f D).1 < f (D + 1)) : bst f (D + 1) = (f (D + 1), D + 1) := by rw [bst, if_pos h]
theorem bst_no (f : Nat → Nat) (D : Nat) (h : ¬ (bst f D).1 < f (D + 1)) : bst f (D + 1) = bst f D := by rw [bst, if_neg h]
/-- A best copy of any length is what stands so far ahead. -/
theorem bst_is (f : Nat → Nat) (D : Nat) (h : 0 < (bst f D).1) : 1 ≤ (bst f D).2 ∧ f (bst f D).2 = (bst f D).1 := by
  induction D with
  | zero => exact absurd h (by simp [bst])
  | succ D ih =>
    simp only [bst] at h ⊢
    split
    · exact ⟨by simp, rfl⟩
    · next hn => rw [if_neg hn] at h; exact ih h
theorem bst_max (f : Nat → Nat) (D d : Nat) (h1 : 1 ≤ d) (h2 : d ≤ D) : f d ≤ (bst f D).1 := by
  induction D with
  | zero => omega
  | succ D ih =>
    simp only [bst]
    rcases Nat.lt_or_ge d (D + 1) with h | h
    · have := ih (by omega)
      split
      · show f d ≤ f (D + 1); omega
      · exact this
    · have : d = D + 1 := by omega
      subst this
      split
      · exact Nat.le_refl _
      · omega
def best (l : List Int) (at_ : Nat) : Nat × Nat := bst (mlen l at_) (min 255 at_)
theorem best_le (l : List Int) (at_ : Nat) : (best l at_).1 ≤ roomL l at_ := bst_le (mlen_le l at_) _
theorem best_room (l : List Int) (at_ : Nat) : (best l at_).1 ≤ 131 ∧ (best l at_).1 ≤ l.length - at_ := by have := best_le l at_; unfold roomL at this; omega
theorem best_by (l : List Int) (at_ : Nat) : (best l at_).2 ≤ 255 ∧ (best l at_).2 ≤ at_ := by have := bst_by (mlen l at_) (min 255 at_); unfold best; omega

/-- Bytes as runs. -/
def rn : Nat → List Int → List Int
  | 0, _ => []
  | k + 1, l => if l = [] then [] else (((l.take 128).length : Int) - 1) :: (l.take 128 ++ rn k (l.drop 128))
theorem rn_nil (k : Nat) : rn k [] = [] := by cases k <;> simp [rn]
theorem rn_fuel (k m : Nat) (l : List Int) (h1 : l.length ≤ k) (h2 : l.length ≤ m) : rn k l = rn m l := by
  induction k generalizing m l with
  | zero =>
    have : l = [] := List.length_eq_zero_iff.1 (by omega)
    subst this
    rw [rn_nil, rn_nil]
  | succ k ih =>
    by_cases hl : l = []
    · subst hl; rw [rn_nil, rn_nil]
    · have h0 : 0 < l.length := List.length_pos_iff.2 hl
      obtain ⟨m', rfl⟩ : ∃ m', m = m' + 1 := ⟨m - 1, by omega⟩
      rw [rn, rn, if_neg hl, if_neg hl, ih m' (l.drop 128) (by rw [List.length_drop]; omega) (by rw [List.length_drop]; omega)]
def rnL (l : List Int) : List Int := rn l.length l
theorem rnL_nil : rnL [] = [] := rfl
theorem rnL_cons (l : List Int) (h : l ≠ []) : rnL l = (((l.take 128).length : Int) - 1) :: (l.take 128 ++ rnL (l.drop 128)) := by
  have h0 : 0 < l.length := List.length_pos_iff.2 h
  obtain ⟨m, hm⟩ : ∃ m, l.length = m + 1 := ⟨l.length - 1, by omega⟩
  unfold rnL
  rw [hm, rn, if_neg h, rn_fuel m (l.drop 128).length (l.drop 128) (by rw [List.length_drop]; omega) (Nat.le_refl _)]
theorem rnL_short (l : List Int) (h : l ≠ []) (h2 : l.length ≤ 128) : rnL l = ((l.length : Int) - 1) :: l := by
  rw [rnL_cons l h, List.take_of_length_le h2, List.drop_of_length_le h2, rnL_nil, List.append_nil]
theorem rnL_full (a b : List Int) (h : a.length = 128) : rnL (a ++ b) = 127 :: (a ++ rnL b) := by
  have hne : a ++ b ≠ [] := by intro e; rw [List.append_eq_nil_iff] at e; rw [e.1] at h; simp at h
  rw [rnL_cons _ hne, List.take_left' h, List.drop_left' h, h]
  rfl
theorem rnL_length (l : List Int) : (rnL l).length ≤ 2 * l.length := by
  suffices ∀ k (l : List Int), l.length ≤ k → (rn k l).length ≤ 2 * l.length from this _ l (Nat.le_refl _)
  intro k
  induction k with
  | zero => intro l _; exact Nat.zero_le _
  | succ k ih =>
    intro l h
    rw [rn]
    split
    · exact Nat.zero_le _
    · next hl =>
      have h0 : 0 < l.length := List.length_pos_iff.2 hl
      have := ih (l.drop 128) (by rw [List.length_drop]; omega)
      rw [List.length_cons, List.length_append, List.length_take]
      rw [List.length_drop] at this
      omega
theorem rnL_bts {l : List Int} (h : Bts l) : Bts (rnL l) := by
  suffices ∀ k (l : List Int), Bts l → Bts (rn k l) from this _ l h
  intro k
  induction k with
  | zero => intro l _; exact Bts.nil
  | succ k ih =>
    intro l h
    rw [rn]
    split
    · exact Bts.nil
    · next hl =>
      intro x hx
      have h0 : 0 < l.length := List.length_pos_iff.2 hl
      rcases List.mem_cons.1 hx with hx | hx
      · subst hx
        rw [List.length_take]
        omega
      · exact ((h.take 128).append (ih _ (h.drop 128))) x hx

/-- The first k pieces, told. -/
def rnK (t : List Int) : Nat → List Int
  | 0 => []
  | k + 1 => rnK t k ++ ((((t.drop (k * 128)).take 128).length : Int) - 1) :: (t.drop (k * 128)).take 128
theorem rnK_rest (t : List Int) (k : Nat) (h : ∀ j, j < k → j * 128 < t.length) : rnL t = rnK t k ++ rnL (t.drop (k * 128)) := by
  induction k with
  | zero => simp [rnK]
  | succ k ih =>
    have hk := h k (by omega)
    have hne : t.drop (k * 128) ≠ [] := by
      intro e
      have := congrArg List.length e
      rw [List.length_drop, List.length_nil] at this
      omega
    have e : (t.drop (k * 128)).drop 128 = t.drop ((k + 1) * 128) := by rw [List.drop_drop, Nat.succ_mul]
    rw [ih (fun j hj => h j (by omega)), rnL_cons _ hne, rnK, e]
    simp
theorem rnK_all (t : List Int) (k : Nat) (h : ∀ j, j < k → j * 128 < t.length) (h2 : t.length ≤ k * 128) : rnK t k = rnL t := by
  rw [rnK_rest t k h, List.drop_of_length_le h2, rnL_nil, List.append_nil]
theorem rnK_length (t : List Int) (k : Nat) : (rnK t k).length ≤ 129 * k := by
  induction k with
  | zero => exact Nat.le_refl _
  | succ k ih =>
    rw [rnK, List.length_append, List.length_cons, List.length_take]
    omega

/-- The tokens from a place on; what stands from 'fr' on is not yet told. -/
def tk (l : List Int) : Nat → Nat → Nat → List Int
  | 0, _, fr => rnL (l.drop fr)
  | k + 1, at_, fr =>
    if at_ < l.length then
      if (best l at_).1 < 4 then tk l k (at_ + 1) fr
      else rnL ((l.take at_).drop fr) ++ ([124 + ((best l at_).1 : Int), ((best l at_).2 : Int)] ++ tk l k (at_ + (best l at_).1) (at_ + (best l at_).1))
    else rnL (l.drop fr)
theorem tk_fuel (l : List Int) (k m at_ fr : Nat) (h1 : l.length - at_ ≤ k) (h2 : l.length - at_ ≤ m) : tk l k at_ fr = tk l m at_ fr := by
  induction k generalizing m at_ fr with
  | zero =>
    cases m with
    | zero => rfl
    | succ m => rw [tk, tk, if_neg (by omega)]
  | succ k ih =>
    by_cases hl : at_ < l.length
    · obtain ⟨m', rfl⟩ : ∃ m', m = m' + 1 := ⟨m - 1, by omega⟩
      rw [tk, tk, if_pos hl, if_pos hl]
      by_cases hb : (best l at_).1 < 4
      · rw [if_pos hb, if_pos hb, ih m' _ _ (by omega) (by omega)]
      · rw [if_neg hb, if_neg hb, ih m' _ _ (by omega) (by omega)]
    · rw [tk, if_neg hl]
      cases m with
      | zero => rfl
      | succ m => rw [tk, if_neg hl]
/-- .. with enough rounds. -/
def tkF (l : List Int) (at_ fr : Nat) : List Int := tk l (l.length - at_) at_ fr
def tkL (l : List Int) : List Int := tkF l 0 0
theorem tkF_end (l : List Int) (at_ fr : Nat) (h : l.length ≤ at_) : tkF l at_ fr = rnL (l.drop fr) := by
  unfold tkF
  rw [show l.length - at_ = 0 from by omega]
  rfl
theorem tkF_on (l : List Int) (at_ fr : Nat) (h : at_ < l.length) (hb : (best l at_).1 < 4) : tkF l at_ fr = tkF l (at_ + 1) fr := by
  obtain ⟨k, hk⟩ : ∃ k, l.length - at_ = k + 1 := ⟨l.length - at_ - 1, by omega⟩
  unfold tkF
  rw [hk, tk, if_pos h, if_pos hb, show l.length - (at_ + 1) = k from by omega]
theorem tkF_copy (l : List Int) (at_ fr : Nat) (h : at_ < l.length) (hb : ¬ (best l at_).1 < 4) :
    tkF l at_ fr = rnL ((l.take at_).drop fr) ++ ([124 + ((best l at_).1 : Int), ((best l at_).2 : Int)] ++ tkF l (at_ + (best l at_).1) (at_ + (best l at_).1)) := by
  obtain ⟨k, hk⟩ : ∃ k, l.length - at_ = k + 1 := ⟨l.length - at_ - 1, by omega⟩
  unfold tkF
  rw [hk, tk, if_pos h, if_neg hb, tk_fuel l k _ _ _ (by omega) (Nat.le_refl _)]
/-- A run that is full may be told at once. -/
theorem tkF_full (l : List Int) (at_ fr : Nat) (h : at_ ≤ l.length) (hf : fr + 128 ≤ at_) : tkF l at_ fr = 127 :: ((l.drop fr).take 128 ++ tkF l at_ (fr + 128)) := by
  have hcut : ∀ m, fr + 128 ≤ m → m ≤ l.length → rnL ((l.take m).drop fr) = 127 :: ((l.drop fr).take 128 ++ rnL ((l.take m).drop (fr + 128))) := by
    intro m hm hl
    have e : (l.take m).drop fr = (l.drop fr).take 128 ++ (l.take m).drop (fr + 128) := by
      have e1 : (l.drop fr).take 128 = ((l.take m).drop fr).take 128 := by
        rw [List.drop_take, List.take_take, Nat.min_eq_left (by omega)]
      have e2 : (l.take m).drop (fr + 128) = ((l.take m).drop fr).drop 128 := by rw [List.drop_drop]
      rw [e1, e2, List.take_append_drop]
    rw [e, rnL_full _ _ (by rw [List.length_take, List.length_drop]; omega)]
  suffices ∀ k a, l.length - a ≤ k → a ≤ l.length → fr + 128 ≤ a → tkF l a fr = 127 :: ((l.drop fr).take 128 ++ tkF l a (fr + 128)) from this _ at_ (Nat.le_refl _) h hf
  intro k
  induction k with
  | zero =>
    intro a h1 h2 h3
    have ha : a = l.length := by omega
    have := hcut l.length (by omega) (Nat.le_refl _)
    rw [List.take_of_length_le (Nat.le_refl _)] at this
    rw [tkF_end l a fr (by omega), tkF_end l a (fr + 128) (by omega), this]
  | succ k ih =>
    intro a h1 h2 h3
    rcases Nat.lt_or_ge a l.length with hl | hl
    · by_cases hb : (best l a).1 < 4
      · rw [tkF_on l a fr hl hb, tkF_on l a (fr + 128) hl hb, ih (a + 1) (by omega) (by omega) (by omega)]
      · rw [tkF_copy l a fr hl hb, tkF_copy l a (fr + 128) hl hb, hcut a h3 h2]
        simp
    · have ha : a = l.length := by omega
      have := hcut l.length (by omega) (Nat.le_refl _)
      rw [List.take_of_length_le (Nat.le_refl _)] at this
      rw [tkF_end l a fr (by omega), tkF_end l a (fr + 128) (by omega), this]
theorem tkF_length (l : List Int) (at_ fr : Nat) (h : fr ≤ at_) (h2 : at_ ≤ l.length) : (tkF l at_ fr).length ≤ 2 * (l.length - fr) := by
  suffices ∀ k a f, l.length - a ≤ k → f ≤ a → a ≤ l.length → (tkF l a f).length ≤ 2 * (l.length - f) from this _ at_ fr (Nat.le_refl _) h h2
  intro k
  induction k with
  | zero =>
    intro a f h1 h2 h3
    rw [tkF_end l a f (by omega)]
    have := rnL_length (l.drop f)
    rw [List.length_drop] at this
    exact this
  | succ k ih =>
    intro a f h1 h2 h3
    rcases Nat.lt_or_ge a l.length with hl | hl
    · by_cases hb : (best l a).1 < 4
      · rw [tkF_on l a f hl hb]; exact ih (a + 1) f (by omega) (by omega) (by omega)
      · have hr := best_room l a
        have := ih (a + (best l a).1) (a + (best l a).1) (by omega) (by omega) (by omega)
        rw [tkF_copy l a f hl hb]
        have h5 := rnL_length ((l.take a).drop f)
        rw [List.length_drop, List.length_take] at h5
        rw [List.length_append, List.length_append]
        simp only [List.length_cons, List.length_nil]
        omega
    · rw [tkF_end l a f hl]
      have := rnL_length (l.drop f)
      rw [List.length_drop] at this
      exact this
theorem tkL_length (l : List Int) : (tkL l).length ≤ 2 * l.length := tkF_length l 0 0 (Nat.le_refl _) (Nat.zero_le _)
theorem tkF_bts {l : List Int} (hb : Bts l) (at_ fr : Nat) (h : fr ≤ at_) (h2 : at_ ≤ l.length) : Bts (tkF l at_ fr) := by
  suffices ∀ k a f, l.length - a ≤ k → f ≤ a → a ≤ l.length → Bts (tkF l a f) from this _ at_ fr (Nat.le_refl _) h h2
  intro k
  induction k with
  | zero =>
    intro a f h1 h2 h3
    rw [tkF_end l a f (by omega)]
    exact rnL_bts (hb.drop f)
  | succ k ih =>
    intro a f h1 h2 h3
    rcases Nat.lt_or_ge a l.length with hl | hl
    · by_cases hq : (best l a).1 < 4
      · rw [tkF_on l a f hl hq]; exact ih (a + 1) f (by omega) (by omega) (by omega)
      · have hr := best_room l a
        have hy := best_by l a
        have := ih (a + (best l a).1) (a + (best l a).1) (by omega) (by omega) (by omega)
        rw [tkF_copy l a f hl hq]
        refine (rnL_bts ((hb.take a).drop f)).append (Bts.append ?_ this)
        intro x hx
        simp only [List.mem_cons, List.not_mem_nil, or_false] at hx
        rcases hx with rfl | rfl <;> omega
    · rw [tkF_end l a f hl]
      exact rnL_bts (hb.drop f)

/-- What Pack tells. -/
def pkE (l : List Int) : Int := if 65536 < l.length then 3 else 0
def pkL (l : List Int) : List Int := if 65536 < l.length then [] else if (tkL l).length < l.length then 1 :: tkL l else 0 :: l
end Go.Proofs.Ytdfpikimeihefaa
