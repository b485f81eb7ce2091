/-
  Layer 16: bytes of which all but a few are alike are packed short: plain lists. No program. No premise.
-/
import Derived.Test.YtdfpikimeihefaaFiP
import Derived.Test.YtdfpikimeihefaaFil3
import Derived.Test.YtdfpikimeihefaaCntP
namespace Go.Proofs.Ytdfpikimeihefaa
open Go.RowKit Go.Proofs.YtdfpikimeihefaaW.PrintWords

/-- How many are not x. -/
def bd (x : Int) : List Int → Nat
  | [] => 0
  | y :: r => (if y = x then 0 else 1) + bd x r
/-- How many x stand ahead of all others. -/
def dst (x : Int) : List Int → Nat
  | [] => 0
  | y :: r => if y = x then dst x r + 1 else 0
theorem bd_append (x : Int) (a b : List Int) : bd x (a ++ b) = bd x a + bd x b := by
  induction a with
  | nil => simp [bd]
  | cons y a ih => rw [List.cons_append, bd, bd, ih]; omega
theorem bd_le (x : Int) (a : List Int) : bd x a ≤ a.length := by
  induction a with
  | nil => exact Nat.le_refl _
  | cons y a ih => rw [bd, List.length_cons]; split <;> omega
theorem bd_drop (x : Int) (m : List Int) (n : Nat) : bd x (m.drop n) ≤ bd x m := by
  have h := bd_append x (m.take n) (m.drop n)
  rw [List.take_append_drop] at h
  omega
theorem dst_le (x : Int) (m : List Int) : dst x m ≤ m.length := by
  induction m with
  | nil => exact Nat.le_refl _
  | cons y m ih => rw [dst, List.length_cons]; split <;> omega
theorem dst_drop (x : Int) (m : List Int) (n : Nat) (h : n ≤ dst x m) : dst x (m.drop n) + n = dst x m := by
  induction n generalizing m with
  | zero => rfl
  | succ n ih =>
    cases m with
    | nil => simp [dst] at h
    | cons y m =>
      rw [dst] at h ⊢
      split at h
      · next hy =>
        have := ih m (by omega)
        rw [List.drop_succ_cons, if_pos hy]
        omega
      · omega
theorem dst_pass (x : Int) (m : List Int) (n : Nat) (h : dst x m < n) (h2 : n ≤ m.length) : bd x (m.drop n) + 1 ≤ bd x m := by
  induction n generalizing m with
  | zero => omega
  | succ n ih =>
    cases m with
    | nil => simp at h2
    | cons y m =>
      rw [List.length_cons] at h2
      rw [dst] at h
      rw [List.drop_succ_cons, bd]
      split at h
      · have := ih m (by omega) (by omega)
        omega
      · next hy =>
        rw [if_neg hy]
        have := bd_drop x m n
        omega
theorem dst_good (x : Int) (m : List Int) (j : Nat) (h : j < dst x m) : rdI m j = x := by
  induction j generalizing m with
  | zero =>
    cases m with
    | nil => simp [dst] at h
    | cons y m =>
      rw [dst] at h
      split at h
      · next hy => exact hy
      · omega
  | succ j ih =>
    cases m with
    | nil => simp [dst] at h
    | cons y m =>
      rw [dst] at h
      split at h
      · have := ih m (by omega)
        exact this
      · omega
theorem drop_at (l : List Int) (a : Nat) (h : a < l.length) : l.drop a = rdI l a :: l.drop (a + 1) := by
  rw [List.drop_eq_getElem_cons h]
  congr 1
  unfold rdI
  rw [List.getD_eq_getElem?_getD, List.getElem?_eq_getElem h]
  rfl
theorem ml_atleast {p : Nat → Bool} {n r m : Nat} (hm : m ≤ r) (h : ∀ j, n ≤ j → j < n + m → p j = true) : n + m ≤ ml p n r := by
  induction r generalizing n m with
  | zero => simp only [ml]; omega
  | succ r ih =>
    rcases Nat.eq_zero_or_pos m with rfl | h0
    · exact ml_ge _ _ _
    · rw [ml, if_pos (h n (Nat.le_refl _) (by omega))]
      have := ih (n := n + 1) (m := m - 1) (by omega) (fun j h1 h2 => h j (by omega) (by omega))
      omega
/-- Behind an x, as many as follow. -/
theorem best_least (x : Int) (l : List Int) (a : Nat) (h1 : 1 ≤ a) (h2 : a < l.length) (hp : rdI l (a - 1) = x) : min 131 (dst x (l.drop a)) ≤ (best l a).1 := by
  have hmax := bst_max (mlen l a) (min 255 a) 1 (Nat.le_refl _) (by omega)
  have hd := dst_le x (l.drop a)
  rw [List.length_drop] at hd
  have hr : roomL l a = min 131 (l.length - a) := rfl
  have hm : 0 + min 131 (dst x (l.drop a)) ≤ ml (mtc l a 1) 0 (roomL l a) := ml_atleast (by omega) fun j _ hj => by
    unfold mtc
    have e1 : rdI l (a + j) = x := by rw [← rdI_drop]; exact dst_good x _ j (by omega)
    have e2 : rdI l (a + j - 1) = x := by
      rcases Nat.eq_zero_or_pos j with rfl | hj0
      · exact hp
      · rw [show a + j - 1 = a + (j - 1) from by omega, ← rdI_drop]
        exact dst_good x _ _ (by omega)
    rw [e1, e2]
    simp
  unfold best
  unfold mlen at hmax
  unfold mlen
  omega
def eF (x : Int) (l : List Int) (a fr : Nat) : Nat := if a = 0 ∨ rdI l (a - 1) ≠ x then 6 else if 4 ≤ dst x (l.drop a) then 4 else dst x (l.drop a) + (if fr < a then 0 else 1)
theorem eF_le (x : Int) (l : List Int) (a fr : Nat) : eF x l a fr ≤ 6 := by
  unfold eF
  split
  · omega
  split
  · omega
  · split <;> omega
theorem eF_good (x : Int) (l : List Int) (a fr : Nat) (h1 : 1 ≤ a) (hp : rdI l (a - 1) = x) : eF x l a fr = if 4 ≤ dst x (l.drop a) then 4 else dst x (l.drop a) + (if fr < a then 0 else 1) := by
  unfold eF
  rw [if_neg (by rintro (h | h); omega; exact h hp)]
theorem eF_good4 (x : Int) (l : List Int) (a fr : Nat) (h1 : 1 ≤ a) (hp : rdI l (a - 1) = x) : eF x l a fr ≤ 4 := by
  rw [eF_good x l a fr h1 hp]
  split
  · omega
  · split <;> omega
theorem rn_pend (l : List Int) (a fr : Nat) (h1 : fr ≤ a) (h2 : a ≤ l.length) (h3 : a - fr ≤ 128) : (rnL ((l.take a).drop fr)).length ≤ (a - fr) + (if fr < a then 1 else 0) := by
  by_cases h : fr < a
  · rw [if_pos h]
    have hl : ((l.take a).drop fr).length = a - fr := by rw [List.length_drop, List.length_take]; omega
    rw [rnL_short _ (by intro e; rw [e, List.length_nil] at hl; omega) (by omega), List.length_cons, hl]
    exact Nat.le_refl _
  · rw [List.drop_of_length_le (by rw [List.length_take]; omega), rnL_nil]
    exact Nat.zero_le _
theorem tk_few (x : Int) (l : List Int) (at_ fr : Nat) (h1 : fr ≤ at_) (h2 : at_ < l.length) (hS : (at_ - fr) + 8 * bd x (l.drop at_) + eF x l at_ fr ≤ 128) :
    (tkF l at_ fr).length ≤ (at_ - fr) + (if fr < at_ then 1 else 0) + 2 * ((l.length - at_) / 131) + 8 * bd x (l.drop at_) + eF x l at_ fr := by
  suffices ∀ k a f, l.length - a ≤ k → f ≤ a → a < l.length → (a - f) + 8 * bd x (l.drop a) + eF x l a f ≤ 128 → (tkF l a f).length ≤ (a - f) + (if f < a then 1 else 0) + 2 * ((l.length - a) / 131) + 8 * bd x (l.drop a) + eF x l a f from this _ at_ fr (Nat.le_refl _) h1 h2 hS
  intro k
  induction k with
  | zero => intro a f h0 _ h2; omega
  | succ k ih =>
    intro a f h0 h1 h2 hS
    have hcons := drop_at l a h2
    have hbd : bd x (l.drop a) = (if rdI l a = x then 0 else 1) + bd x (l.drop (a + 1)) := by rw [hcons, bd]
    have hds : dst x (l.drop a) = if rdI l a = x then dst x (l.drop (a + 1)) + 1 else 0 := by rw [hcons, dst]
    have hdl := dst_le x (l.drop a)
    rw [List.length_drop] at hdl
    have hbr := best_room l a
    have hlast := dst_pass x (l.drop a)
    by_cases hq : (best l a).1 < 4
    · rw [tkF_on l a f h2 hq]
      have hif : (if f < a + 1 then 1 else 0) = 1 := if_pos (by omega)
      -- one more of the run
      have key : 8 * bd x (l.drop (a + 1)) + (if a + 1 < l.length then eF x l (a + 1) f else 0) + 1 + (if f < a then 0 else 1) ≤ 8 * bd x (l.drop a) + eF x l a f := by
        have he6 := eF_le x l (a + 1) f
        by_cases hg : rdI l a = x
        · rw [if_pos hg] at hbd hds
          have he4 := eF_good4 x l (a + 1) f (by omega) (by rw [Nat.add_sub_cancel]; exact hg)
          by_cases hpq : a = 0 ∨ rdI l (a - 1) ≠ x
          · have : eF x l a f = 6 := by unfold eF; rw [if_pos hpq]
            rw [this]
            split <;> split <;> omega
          · have hp : rdI l (a - 1) = x := Decidable.not_not.1 fun h => hpq (.inr h)
            have ha : 1 ≤ a := by rcases Nat.eq_zero_or_pos a with h | h; exact absurd (.inl h) hpq; exact h
            have hb := best_least x l a ha h2 hp
            have hd4 : ¬ 4 ≤ dst x (l.drop a) := fun h4 => by
              have : 4 ≤ min 131 (dst x (l.drop a)) := by omega
              omega
            have e1 := eF_good x l a f ha hp
            have e2 := eF_good x l (a + 1) f (by omega) (by rw [Nat.add_sub_cancel]; exact hg)
            rw [if_neg hd4] at e1
            rw [if_neg (by omega), if_pos (by omega)] at e2
            rw [e1, e2]
            split <;> split <;> omega
        · rw [if_neg hg] at hbd hds
          split <;> split <;> omega
      by_cases hend : a + 1 < l.length
      · rw [if_pos hend] at key
        have := ih (a + 1) f (by omega) (by omega) hend (by split at key <;> omega)
        rw [hif] at this
        have hdv : (l.length - (a + 1)) / 131 ≤ (l.length - a) / 131 := Nat.div_le_div_right (by omega)
        split at key
        · rw [if_pos (by assumption)]; omega
        · rw [if_neg (by assumption)]; omega
      · rw [if_neg hend] at key
        have hl : l.length = a + 1 := by omega
        rw [tkF_end l (a + 1) f (by omega)]
        have hr := rn_pend l (a + 1) f (by omega) (by omega) (by split at key <;> omega)
        rw [List.take_of_length_le (by omega), hif] at hr
        split at key
        · rw [if_pos (by assumption)]; omega
        · rw [if_neg (by assumption)]; omega
    · obtain ⟨n, hn⟩ : ∃ n, n = (best l a).1 := ⟨_, rfl⟩
      rw [tkF_copy l a f h2 hq, List.length_append, List.length_append]
      have hr := rn_pend l a f h1 (by omega) (by omega)
      simp only [List.length_cons, List.length_nil]
      have hb : 1 ≤ a → rdI l (a - 1) = x → min 131 (dst x (l.drop a)) ≤ n := fun ha hp => by rw [hn]; exact best_least x l a ha h2 hp
      rw [← hn] at hq hbr ⊢
      have hlast := hlast n
      rw [List.length_drop, List.drop_drop] at hlast
      have hmono := bd_drop x (l.drop a) n
      rw [List.drop_drop] at hmono
      have he6 := eF_le x l (a + n) (a + n)
      have hdv : (l.length - (a + n)) / 131 ≤ (l.length - a) / 131 := Nat.div_le_div_right (by omega)
      have hdv1 : n = 131 → (l.length - (a + n)) / 131 + 1 ≤ (l.length - a) / 131 := fun e => by
        rw [e, show l.length - a = l.length - (a + 131) + 131 from by omega, Nat.add_div_right _ (by decide)]
        exact Nat.le_refl _
      -- what the copy costs
      have key : 2 * ((l.length - (a + n)) / 131) + 8 * bd x (l.drop (a + n)) + (if a + n < l.length then eF x l (a + n) (a + n) else 0) + 2 ≤ 2 * ((l.length - a) / 131) + 8 * bd x (l.drop a) + eF x l a f := by
        by_cases hpass : dst x (l.drop a) < n
        · have := hlast hpass (by omega)
          split <;> omega
        · have hdn := dst_drop x (l.drop a) n (by omega)
          rw [List.drop_drop] at hdn
          have hg' : rdI l (a + n - 1) = x := by
            rw [show a + n - 1 = a + (n - 1) from by omega, ← rdI_drop]
            exact dst_good x _ _ (by omega)
          have he4 := eF_good4 x l (a + n) (a + n) (by omega) hg'
          by_cases hpq : a = 0 ∨ rdI l (a - 1) ≠ x
          · have : eF x l a f = 6 := by unfold eF; rw [if_pos hpq]
            rw [this]
            split <;> omega
          · have hp : rdI l (a - 1) = x := Decidable.not_not.1 fun h => hpq (.inr h)
            have ha : 1 ≤ a := by rcases Nat.eq_zero_or_pos a with h | h; exact absurd (.inl h) hpq; exact h
            have hb := hb ha hp
            have hd4 : 4 ≤ dst x (l.drop a) := by omega
            have e1 := eF_good x l a f ha hp
            rw [if_pos hd4] at e1
            rw [e1]
            by_cases h131 : n = 131
            · have := hdv1 h131
              split <;> omega
            · have hd0 : dst x (l.drop (a + n)) = 0 := by omega
              have e2 := eF_good x l (a + n) (a + n) (by omega) hg'
              rw [hd0, if_neg (by omega), if_neg (Nat.lt_irrefl _)] at e2
              rw [e2]
              split <;> omega
      have hle6 := eF_le x l a f
      by_cases hend : a + n < l.length
      · rw [if_pos hend] at key
        have := ih (a + n) (a + n) (by omega) (Nat.le_refl _) hend (by omega)
        rw [if_neg (Nat.lt_irrefl _)] at this
        omega
      · rw [if_neg hend] at key
        rw [tkF_end l (a + n) (a + n) (by omega), List.drop_of_length_le (show l.length ≤ a + n by omega), rnL_nil]
        simp only [List.length_nil]
        omega
theorem pk_few (x : Int) (l : List Int) (k s : Nat) (hl : l.length ≤ k + 4 * s) (hs : s ≤ 3) (hk : k ≤ 4096) (hb : bd x l ≤ 4 * s) : (pkL l).length + 4 * (3 - s) ≤ k / 64 + 128 := by
  have h1 := pk_le_tk l (by omega)
  rcases Nat.eq_zero_or_pos l.length with h0 | h0
  · have := tkL_length l
    omega
  · have he := eF_le x l 0 0
    have := tk_few x l 0 0 (Nat.le_refl _) h0 (by rw [List.drop_zero]; omega)
    rw [List.drop_zero, if_neg (Nat.lt_irrefl _), Nat.sub_zero] at this
    unfold tkL at h1
    have h2 : l.length / 131 ≤ (k + 12) / 131 := Nat.div_le_div_right (by omega)
    omega
/-! ### What stands ahead of the match coder -/
theorem sum_ind (l : List Int) (x : Int) : sumTo (fun i => ind (rdI l i) x) l.length + (bd x l : Int) = l.length := by
  have h : ∀ k, k ≤ l.length → sumTo (fun i => ind (rdI l i) x) k + (bd x (l.take k) : Int) = k := by
    intro k
    induction k with
    | zero => intro _; rfl
    | succ k ih =>
      intro hk
      have := ih (by omega)
      rw [sumTo, take_rdI l k (by omega), bd_append]
      have e : ind (rdI l k) x + (bd x [rdI l k] : Int) = 1 := by
        unfold ind
        simp only [bd]
        split <;> rfl
      omega
  have := h l.length (Nat.le_refl _)
  rw [List.take_length] at this
  exact this
theorem bd_shuf (w : Nat) (hw : 0 < w) (l : List Int) (x : Int) : bd x (shufL w l) = bd x l := by
  have h := cnt_shuf w hw l x
  rw [sumTo_sub] at h
  have h1 := sum_ind l x
  have h2 := sum_ind (shufL w l) x
  rw [shufL_length] at h2
  omega
theorem do1_pre (f : Fl) (hf : okF f = true) (h2 : f.1 ≠ 2) (h3 : f.1 ≠ 3) (x : Int) (l : List Int) : (do1 f l).length ≤ l.length + 4 ∧ bd x (do1 f l) ≤ bd x l + 4 := by
  refine ⟨do1_length f l, ?_⟩
  rw [okF_iff] at hf
  unfold do1
  by_cases h1 : f.1 = 1
  · rw [if_pos h1]
    unfold mxL
    rw [if_pos (by omega), bd_shuf _ (by omega)]
    omega
  · rw [if_neg h1, if_neg h2, if_neg h3, if_pos (by omega)]
    unfold sealF
    rw [bd_append]
    have := bd_le x (dig 4 true (fletS l))
    rw [dig_length] at this
    omega
theorem doA_pre (p : List Fl) (hf : p.all okF = true) (hp : ∀ f ∈ p, f.1 ≠ 2 ∧ f.1 ≠ 3) (x : Int) (l : List Int) : (doA p l).length ≤ l.length + 4 * p.length ∧ bd x (doA p l) ≤ bd x l + 4 * p.length := by
  induction p generalizing l with
  | nil => exact ⟨Nat.le_refl _, Nat.le_refl _⟩
  | cons f p ih =>
    rw [List.all_cons, Bool.and_eq_true] at hf
    have h1 := hp f (List.mem_cons_self ..)
    have h2 := do1_pre f hf.1 h1.1 h1.2 x l
    have h3 := ih hf.2 (fun g hg => hp g (List.mem_cons_of_mem _ hg)) (do1 f l)
    rw [doA_cons, List.length_cons]
    omega
theorem do1_some (f : Fl) (hf : okF f = true) (l : List Int) (h1 : 1 ≤ l.length) (h2 : l.length ≤ 65536) : 1 ≤ (do1 f l).length := by
  rw [okF_iff] at hf
  unfold do1
  by_cases c1 : f.1 = 1
  · rw [if_pos c1]
    unfold mxL
    rw [if_pos (by omega), shufL_length]
    exact h1
  by_cases c2 : f.1 = 2
  · rw [if_neg c1, if_pos c2]
    unfold mxL
    rw [if_pos (by omega), deltaL_length]
    exact h1
  by_cases c3 : f.1 = 3
  · rw [if_neg c1, if_neg c2, if_pos c3]
    exact (pk_len l h2).2.1
  · rw [if_neg c1, if_neg c2, if_neg c3, if_pos (by omega), sealF_length]
    omega
theorem doA_some (p : List Fl) (hf : p.all okF = true) (l : List Int) (h1 : 1 ≤ l.length) (h2 : l.length + 4 * p.length ≤ 65536) : 1 ≤ (doA p l).length := by
  induction p generalizing l with
  | nil => exact h1
  | cons f p ih =>
    rw [List.all_cons, Bool.and_eq_true] at hf
    rw [List.length_cons] at h2
    have h3 := do1_length f l
    rw [doA_cons]
    exact ih hf.2 _ (do1_some f hf.1 l h1 (by omega)) (by omega)
theorem bd_rep (x : Int) (k : Nat) : bd x (List.replicate k x) = 0 := by
  induction k with
  | zero => rfl
  | succ k ih => rw [List.replicate_succ, bd, ih, if_pos rfl]
/-- The law: the first match coder stands at place m, no difference ahead of it. -/
theorem alike_short (l : List Fl) (m : Nat) (hm : m < l.length) (h3 : (l.getD m (0, 0)).1 = 3) (hpre : ∀ j, j < m → (l.getD j (0, 0)).1 ≠ 2 ∧ (l.getD j (0, 0)).1 ≠ 3) (hck : fck l = 0) (x : Int) (k : Nat) (hk : k ≤ 4096) :
    1 ≤ (doA l (List.replicate k x)).length ∧ (doA l (List.replicate k x)).length ≤ k / 64 + 128 := by
  have h4 := fck_few hck
  have hall : l.all okF = true := by
    unfold fck at hck
    split at hck
    · cases hck
    split at hck
    · next h => exact h
    · cases hck
  have e : l = l.take m ++ l.getD m (0, 0) :: l.drop (m + 1) := by
    conv => lhs; rw [← List.take_append_drop m l, List.drop_eq_getElem_cons hm]
    rw [List.getD_eq_getElem?_getD, List.getElem?_eq_getElem hm]
    rfl
  have hp : ∀ f ∈ l.take m, f.1 ≠ 2 ∧ f.1 ≠ 3 := fun f hf => by
    obtain ⟨j, hj, rfl⟩ := List.getElem_of_mem hf
    rw [List.length_take] at hj
    have := hpre j (by omega)
    rw [List.getD_eq_getElem?_getD, List.getElem?_eq_getElem (by omega)] at this
    rw [List.getElem_take]
    exact this
  obtain ⟨p, hpe⟩ : ∃ p, p = l.take m := ⟨_, rfl⟩
  obtain ⟨q, hqe⟩ : ∃ q, q = l.drop (m + 1) := ⟨_, rfl⟩
  obtain ⟨g, hge⟩ : ∃ g, g = l.getD m (0, 0) := ⟨_, rfl⟩
  have hpl : p.length = m := by rw [hpe, List.length_take]; omega
  have hql : q.length = l.length - (m + 1) := by rw [hqe, List.length_drop]
  rw [← hpe, ← hqe, ← hge] at e
  rw [← hpe] at hp
  rw [← hge] at h3
  rw [e, List.all_append, List.all_cons, Bool.and_eq_true, Bool.and_eq_true] at hall
  obtain ⟨hp1, hp2⟩ := doA_pre p hall.1 hp x (List.replicate k x)
  rw [bd_rep, Nat.zero_add] at hp2
  rw [List.length_replicate] at hp1
  have hg : do1 g (doA p (List.replicate k x)) = pkL (doA p (List.replicate k x)) := by
    unfold do1
    rw [if_neg (by omega), if_neg (by omega), if_pos h3]
  have hpk := pk_few x (doA p (List.replicate k x)) k m (by omega) (by omega) hk (by omega)
  have hpl2 := pk_len (doA p (List.replicate k x)) (by omega)
  rw [e, doA_append, doA_cons, hg]
  have hl := doA_length q (pkL (doA p (List.replicate k x)))
  refine ⟨doA_some q hall.2.2 _ hpl2.2.1 (by omega), ?_⟩
  omega
end Go.Proofs.Ytdfpikimeihefaa
