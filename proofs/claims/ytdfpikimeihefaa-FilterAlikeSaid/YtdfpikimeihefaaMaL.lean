/-
  Layer 15: the plain laws: back, alike, twice. No program. No premise.
-/
import Derived.Test.YtdfpikimeihefaaUnP
import Derived.Test.YtdfpikimeihefaaMat4
namespace Go.Proofs.Ytdfpikimeihefaa
open Go.RowKit Go.Proofs.YtdfpikimeihefaaW.PrintWords

/-! ### What was packed is unpacked -/
theorem rdI_cons (x : Int) (l : List Int) : rdI (x :: l) 0 = x := rfl
theorem rdI_cons1 (x y : Int) (l : List Int) : rdI (x :: y :: l) 1 = y := rfl
theorem unW_run (most : Int) (o p rest : List Int) (hp : p ≠ []) (hp2 : p.length ≤ 128) (hm : ((o ++ p).length : Int) ≤ most) : unW most o ((((p.length : Int) - 1) :: p) ++ rest) = unW most (o ++ p) rest := by
  have h0 : 0 < p.length := List.length_pos_iff.2 hp
  have hk : rdI ((((p.length : Int) - 1) :: p) ++ rest) 0 = (p.length : Int) - 1 := rfl
  have hb : badTok o ((((p.length : Int) - 1) :: p) ++ rest) = false := by
    unfold badTok
    rw [hk]
    refine decide_eq_false (fun h => ?_)
    rw [List.length_append, List.length_cons] at h
    rcases h with h | h <;> omega
  have hno : nextOut o ((((p.length : Int) - 1) :: p) ++ rest) = o ++ p := by
    unfold nextOut stepRun
    rw [hk, if_pos (by omega), show ((p.length : Int) - 1).toNat + 1 = p.length from by omega]
    simp
  have hnr : nextRest ((((p.length : Int) - 1) :: p) ++ rest) = rest := by
    unfold nextRest
    rw [hk, if_pos (by omega), show ((p.length : Int) - 1).toNat + 2 = p.length + 1 from by omega]
    simp
  rw [unW_on (by simp) hb (by rw [hno]; omega), hno, hnr]
theorem unW_runs (most : Int) (o p rest : List Int) (hm : ((o ++ p).length : Int) ≤ most) : unW most o (rnL p ++ rest) = unW most (o ++ p) rest := by
  suffices ∀ k (o p : List Int), p.length ≤ k → ((o ++ p).length : Int) ≤ most → unW most o (rnL p ++ rest) = unW most (o ++ p) rest from this _ o p (Nat.le_refl _) hm
  intro k
  induction k with
  | zero =>
    intro o p h _
    have : p = [] := List.length_eq_zero_iff.1 (by omega)
    subst this
    rw [rnL_nil, List.append_nil, List.nil_append]
  | succ k ih =>
    intro o p h hm
    by_cases hp : p = []
    · subst hp; rw [rnL_nil, List.append_nil, List.nil_append]
    · have h0 : 0 < p.length := List.length_pos_iff.2 hp
      have e : rnL p ++ rest = (((((p.take 128).length : Int) - 1) :: p.take 128) ++ (rnL (p.drop 128) ++ rest)) := by rw [rnL_cons p hp]; simp
      rw [List.length_append] at hm
      rw [e, unW_run most o (p.take 128) _ (by intro e; have := congrArg List.length e; rw [List.length_take, List.length_nil] at this; omega) (by rw [List.length_take]; omega) (by rw [List.length_append, List.length_take]; omega),
        ih (o ++ p.take 128) (p.drop 128) (by rw [List.length_drop]; omega) (by simp only [List.length_append, List.length_take, List.length_drop]; omega), List.append_assoc, List.take_append_drop]
theorem rdI_take (l : List Int) (m q : Nat) (h : q < m) : rdI (l.take m) q = rdI l q := by
  unfold rdI
  rw [List.getD_eq_getElem?_getD, List.getD_eq_getElem?_getD, List.getElem?_take, if_pos h]
theorem take_rdI (l : List Int) (m : Nat) (h : m < l.length) : l.take (m + 1) = l.take m ++ [rdI l m] := by
  rw [List.take_succ_eq_append_getElem h]
  unfold rdI
  rw [List.getD_eq_getElem?_getD, List.getElem?_eq_getElem h]
  rfl
theorem repK_take (l : List Int) (at_ d n : Nat) (h1 : 1 ≤ d) (h2 : d ≤ at_) (hn : at_ + n ≤ l.length) (h : ∀ j, j < n → mtc l at_ d j = true) : repK d n (l.take at_) = l.take (at_ + n) := by
  induction n with
  | zero => rfl
  | succ n ih =>
    rw [repK, ih (by omega) (fun j hj => h j (by omega)), ← Nat.add_assoc, take_rdI l (at_ + n) (by omega), List.length_take, Nat.min_eq_left (by omega), rdI_take _ _ _ (by omega)]
    have := h n (by omega)
    unfold mtc at this
    rw [beq_iff_eq] at this
    rw [this]
theorem best_copy (l : List Int) (at_ : Nat) (h : 0 < (best l at_).1) : 1 ≤ (best l at_).2 ∧ (best l at_).2 ≤ at_ ∧ ∀ j, j < (best l at_).1 → mtc l at_ (best l at_).2 j = true := by
  have h1 := bst_is (mlen l at_) (min 255 at_) h
  have h2 := best_by l at_
  refine ⟨h1.1, h2.2, fun j hj => ?_⟩
  have h3 : mlen l at_ (best l at_).2 = (best l at_).1 := h1.2
  rw [← h3] at hj
  exact ml_all _ 0 _ j (Nat.zero_le _) hj
theorem unW_copy (most : Int) (l : List Int) (at_ n d : Nat) (rest : List Int) (hn1 : 4 ≤ n) (hn2 : n ≤ 131) (hd1 : 1 ≤ d) (hd2 : d ≤ at_) (hl : at_ + n ≤ l.length) (hm : (l.length : Int) ≤ most) (h : ∀ j, j < n → mtc l at_ d j = true) :
    unW most (l.take at_) ([124 + (n : Int), (d : Int)] ++ rest) = unW most (l.take (at_ + n)) rest := by
  have hk : rdI ([124 + (n : Int), (d : Int)] ++ rest) 0 = 124 + (n : Int) := rfl
  have hk1 : rdI ([124 + (n : Int), (d : Int)] ++ rest) 1 = (d : Int) := rfl
  have htl : (l.take at_).length = at_ := by rw [List.length_take]; omega
  have hb : badTok (l.take at_) ([124 + (n : Int), (d : Int)] ++ rest) = false := by
    unfold badTok
    rw [hk, hk1, htl]
    refine decide_eq_false (fun h => ?_)
    rw [List.length_append] at h
    simp only [List.length_cons, List.length_nil] at h
    rcases h with h | ⟨_, h | h | h⟩ <;> omega
  have hno : nextOut (l.take at_) ([124 + (n : Int), (d : Int)] ++ rest) = l.take (at_ + n) := by
    unfold nextOut stepCopy
    rw [hk, hk1, if_neg (by omega), Int.toNat_natCast, show (124 + (n : Int)).toNat - 124 = n from by omega]
    exact repK_take l at_ d n hd1 hd2 hl h
  have hnr : nextRest ([124 + (n : Int), (d : Int)] ++ rest) = rest := by
    unfold nextRest
    rw [hk, if_neg (by omega)]
    rfl
  rw [unW_on (by simp) hb (by rw [hno, List.length_take]; omega), hno, hnr]
theorem unW_tkF (most : Int) (l : List Int) (hm : (l.length : Int) ≤ most) (at_ fr : Nat) (h : fr ≤ at_) (h2 : at_ ≤ l.length) : unW most (l.take fr) (tkF l at_ fr) = (l, 0) := by
  have hend : ∀ f, f ≤ l.length → unW most (l.take f) (rnL (l.drop f)) = (l, 0) := fun f hf => by
    have := unW_runs most (l.take f) (l.drop f) [] (by rw [List.take_append_drop]; exact hm)
    rw [List.append_nil, List.take_append_drop, unW_end] at this
    exact this
  suffices ∀ k a f, l.length - a ≤ k → f ≤ a → a ≤ l.length → unW most (l.take f) (tkF l a f) = (l, 0) from this _ at_ fr (Nat.le_refl _) h h2
  intro k
  induction k with
  | zero =>
    intro a f h1 h2 h3
    rw [tkF_end l a f (by omega)]
    exact hend f (by omega)
  | succ k ih =>
    intro a f h1 h2 h3
    rcases Nat.lt_or_ge a l.length with hl | hl
    · by_cases hq : (best l a).1 < 4
      · rw [tkF_on l a f hl hq]; exact ih (a + 1) f (by omega) (by omega) (by omega)
      · have hr := best_room l a
        obtain ⟨c1, c2, c3⟩ := best_copy l a (by omega)
        rw [tkF_copy l a f hl hq, unW_runs _ _ _ _ (by simp only [List.length_append, List.length_take, List.length_drop]; omega)]
        have e : l.take f ++ (l.take a).drop f = l.take a := by
          have : l.take f = (l.take a).take f := by rw [List.take_take, Nat.min_eq_left h2]
          rw [this, List.take_append_drop]
        rw [e, unW_copy most l a _ _ _ (by omega) (by omega) c1 c2 (by omega) hm c3]
        exact ih _ _ (by omega) (Nat.le_refl _) (by omega)
    · rw [tkF_end l a f hl]
      exact hend f (by omega)
theorem unW_pre {M : Int} {o r l : List Int} (h : unW M o r = (l, 0)) : o.length ≤ l.length := by
  suffices ∀ k (o r : List Int), r.length ≤ k → unW M o r = (l, 0) → o.length ≤ l.length from this _ o r (Nat.le_refl _) h
  intro k
  induction k with
  | zero =>
    intro o r hk h
    have : r = [] := List.length_eq_zero_iff.1 (by omega)
    subst this
    rw [unW_end] at h
    injection h with h1 _
    rw [h1]
    exact Nat.le_refl _
  | succ k ih =>
    intro o r hk h
    by_cases hr : r = []
    · subst hr
      rw [unW_end] at h
      injection h with h1 _
      rw [h1]
      exact Nat.le_refl _
    · cases hb : badTok o r with
      | true => rw [unW_bad hr hb] at h; injection h with _ h2; cases h2
      | false =>
        by_cases hm : M < ((nextOut o r).length : Int)
        · rw [unW_over hr hb hm] at h; injection h with _ h2; cases h2
        · rw [unW_on hr hb hm] at h
          have := ih _ _ (by have := nextRest_lt r hr; omega) h
          have h5 : o.length ≤ (nextOut o r).length := by
            unfold nextOut stepRun stepCopy
            split
            · rw [List.length_append]; omega
            · rw [repK_length]; omega
          omega
theorem unW_less {M most : Int} {o r l : List Int} (h : unW M o r = (l, 0)) (ho : (o.length : Int) ≤ most) : unW most o r = if (l.length : Int) ≤ most then (l, 0) else ([], 3) := by
  suffices ∀ k (o r : List Int), r.length ≤ k → unW M o r = (l, 0) → (o.length : Int) ≤ most → unW most o r = if (l.length : Int) ≤ most then (l, 0) else ([], 3) from this _ o r (Nat.le_refl _) h ho
  have hbase : ∀ o : List Int, unW M o [] = (l, 0) → (o.length : Int) ≤ most → unW most o [] = if (l.length : Int) ≤ most then (l, 0) else ([], 3) := fun o h ho => by
    rw [unW_end] at h ⊢
    injection h with h1 _
    rw [← h1, if_pos ho]
  intro k
  induction k with
  | zero =>
    intro o r hk h ho
    have : r = [] := List.length_eq_zero_iff.1 (by omega)
    subst this
    exact hbase o h ho
  | succ k ih =>
    intro o r hk h ho
    by_cases hr : r = []
    · subst hr; exact hbase o h ho
    · cases hb : badTok o r with
      | true => rw [unW_bad hr hb] at h; injection h with _ h2; cases h2
      | false =>
        by_cases hm : M < ((nextOut o r).length : Int)
        · rw [unW_over hr hb hm] at h; injection h with _ h2; cases h2
        · rw [unW_on hr hb hm] at h
          have h5 := unW_pre h
          by_cases hm2 : most < ((nextOut o r).length : Int)
          · rw [unW_over hr hb hm2, if_neg (by omega)]
          · rw [unW_on hr hb hm2]
            exact ih _ _ (by have := nextRest_lt r hr; omega) h (by omega)
theorem upk_pk (l : List Int) (hl : l.length ≤ 65536) (most : Int) (h0 : 0 ≤ most) (h1 : most ≤ 65536) : upk (pkL l) most = if (l.length : Int) ≤ most then (l, 0) else ([], 3) := by
  have hb : ¬ 65536 < l.length := by omega
  have hm : ¬ (most < 0 ∨ 65536 < most) := by omega
  by_cases hs : (tkL l).length < l.length
  · rw [(pk_short hb hs).2, upk_walk hm (by intro h; rcases h with h | h; cases h; rw [rdI_cons] at h; omega) (by rw [rdI_cons]; decide)]
    have := unW_tkF (l.length : Int) l (by omega) 0 0 (Nat.le_refl _) (Nat.zero_le _)
    exact unW_less this (by simpa using h0)
  · rw [(pk_plain hb hs).2]
    have hn : ¬ (0 :: l = [] ∨ 1 < rdI (0 :: l) 0) := by intro h; rcases h with h | h; cases h; rw [rdI_cons] at h; omega
    by_cases hc : most < ((0 :: l).length : Int) - 1
    · rw [upk_big hm hn rfl hc, if_neg (by rw [List.length_cons] at hc; omega)]
    · rw [upk_plain hm hn rfl hc, if_pos (by rw [List.length_cons] at hc; omega)]
      rfl
theorem pk_len (l : List Int) (h : l.length ≤ 65536) : pkE l = 0 ∧ 1 ≤ (pkL l).length ∧ (pkL l).length ≤ l.length + 1 := by
  have hb : ¬ 65536 < l.length := by omega
  refine ⟨?_, ?_, pkL_length l⟩
  · unfold pkE; rw [if_neg hb]
  · by_cases hs : (tkL l).length < l.length
    · rw [(pk_short hb hs).2, List.length_cons]; omega
    · rw [(pk_plain hb hs).2, List.length_cons]; omega
theorem pk_le_tk (l : List Int) (h : l.length ≤ 65536) : (pkL l).length ≤ (tkL l).length + 1 := by
  have hb : ¬ 65536 < l.length := by omega
  by_cases hs : (tkL l).length < l.length
  · rw [(pk_short hb hs).2, List.length_cons]; omega
  · rw [(pk_plain hb hs).2, List.length_cons]; omega

/-! ### Bytes that are all alike -/
theorem rdI_rep (k : Nat) (x : Int) (i : Nat) (h : i < k) : rdI (List.replicate k x) i = x := by
  unfold rdI
  rw [List.getD_eq_getElem?_getD, List.getElem?_replicate, if_pos h]
  rfl
theorem best_rep (k : Nat) (x : Int) (at_ : Nat) (h1 : 1 ≤ at_) (h2 : at_ < k) : (best (List.replicate k x) at_).1 = roomL (List.replicate k x) at_ := by
  have hle := best_le (List.replicate k x) at_
  have hmax := bst_max (mlen (List.replicate k x) at_) (min 255 at_) 1 (Nat.le_refl _) (by omega)
  have hf : mlen (List.replicate k x) at_ 1 = roomL (List.replicate k x) at_ := by
    unfold mlen
    rw [ml_full, Nat.zero_add]
    intro j _ hj
    unfold roomL at hj
    rw [List.length_replicate] at hj
    unfold mtc
    rw [rdI_rep k x _ (by omega), rdI_rep k x _ (by omega)]
    simp
  unfold best at hle ⊢
  omega
theorem tk_rep (k : Nat) (x : Int) (a : Nat) (h1 : 1 ≤ a) (h2 : a ≤ k) : (tkF (List.replicate k x) a a).length ≤ 2 * ((k - a) / 131) + 8 := by
  have hll : (List.replicate k x).length = k := List.length_replicate
  suffices ∀ q a, k - a ≤ q → 1 ≤ a → a ≤ k → (tkF (List.replicate k x) a a).length ≤ 2 * ((k - a) / 131) + 8 from this _ a (Nat.le_refl _) h1 h2
  intro q
  induction q with
  | zero =>
    intro a h0 h1 h2
    rw [tkF_end _ _ _ (by omega), List.drop_of_length_le (by omega), rnL_nil]
    exact Nat.zero_le _
  | succ q ih =>
    intro a h0 h1 h2
    by_cases hs : k - a < 4
    · have := tkF_length (List.replicate k x) a a (Nat.le_refl _) (by omega)
      omega
    · have hb := best_rep k x a h1 (by omega)
      have hr : roomL (List.replicate k x) a = min 131 (k - a) := by unfold roomL; rw [hll]
      rw [tkF_copy _ _ _ (by omega) (by omega), List.drop_of_length_le (by rw [List.length_take]; omega), rnL_nil, List.nil_append, List.length_append]
      have h3 := ih (a + (best (List.replicate k x) a).1) (by omega) (by omega) (by omega)
      rw [hb, hr] at h3 ⊢
      simp only [List.length_cons, List.length_nil]
      by_cases h131 : 131 ≤ k - a
      · rw [Nat.min_eq_left h131] at h3 ⊢
        have e : (k - a) / 131 = (k - (a + 131)) / 131 + 1 := by
          have : k - a = k - (a + 131) + 131 := by omega
          rw [this, Nat.add_div_right _ (by decide)]
        omega
      · rw [Nat.min_eq_right (by omega)] at h3 ⊢
        rw [show k - (a + (k - a)) = 0 from by omega] at h3
        have : (tkF (List.replicate k x) (a + (k - a)) (a + (k - a))).length ≤ 0 := by
          have := tkF_length (List.replicate k x) (a + (k - a)) (a + (k - a)) (Nat.le_refl _) (by omega)
          omega
        omega
theorem tkL_rep (k : Nat) (x : Int) (hk : k ≤ 10000) : (tkL (List.replicate k x)).length ≤ k / 64 + 127 := by
  have hll : (List.replicate k x).length = k := List.length_replicate
  by_cases hk5 : k < 5
  · have := tkL_length (List.replicate k x)
    omega
  · have h0 : (best (List.replicate k x) 0).1 < 4 := by
      unfold best
      rw [show min 255 0 = 0 from rfl]
      show 0 < 4
      omega
    unfold tkL
    rw [tkF_on _ _ _ (by omega) h0]
    have hb := best_rep k x 1 (Nat.le_refl _) (by omega)
    have hr : roomL (List.replicate k x) 1 = min 131 (k - 1) := by unfold roomL; rw [hll]
    rw [tkF_copy _ _ _ (by omega) (by rw [show 0 + 1 = 1 from rfl]; omega), List.length_append, List.length_append]
    have h1 := rnL_length (((List.replicate k x).take (0 + 1)).drop 0)
    rw [List.length_drop, List.length_take] at h1
    have h2 := tk_rep k x (0 + 1 + (best (List.replicate k x) (0 + 1)).1) (by omega) (by rw [show 0 + 1 = 1 from rfl, hb, hr]; omega)
    simp only [List.length_cons, List.length_nil]
    have h3 : (k - (0 + 1 + (best (List.replicate k x) (0 + 1)).1)) / 131 ≤ k / 131 := Nat.div_le_div_right (by omega)
    have h4 : 2 * (k / 131) ≤ k / 64 := by omega
    omega

/-! ### A row that stands twice -/
theorem rnL_near (p : List Int) (h : p.length ≤ 256) : (rnL p).length ≤ p.length + 2 := by
  by_cases hp : p = []
  · subst hp; exact Nat.zero_le _
  · rw [rnL_cons p hp, List.length_cons, List.length_append]
    have h1 : (p.take 128).length + (p.drop 128).length = p.length := by rw [← List.length_append, List.take_append_drop]
    by_cases hq : p.drop 128 = []
    · rw [hq, rnL_nil, List.length_nil]
      rw [hq, List.length_nil] at h1
      omega
    · rw [rnL_short _ hq (by rw [List.length_drop]; omega), List.length_cons]
      omega
theorem best_twice (b : List Int) (at_ : Nat) (h1 : b.length ≤ at_) (h2 : at_ < b.length + b.length) (h0 : 1 ≤ b.length) (h3 : b.length ≤ 131) : (best (b ++ b) at_).1 = b.length + b.length - at_ := by
  have hll : (b ++ b).length = b.length + b.length := List.length_append
  have hle := best_room (b ++ b) at_
  have hmax := bst_max (mlen (b ++ b) at_) (min 255 at_) b.length h0 (by omega)
  have hrm : roomL (b ++ b) at_ = b.length + b.length - at_ := by unfold roomL; rw [hll]; omega
  have hf : mlen (b ++ b) at_ b.length = b.length + b.length - at_ := by
    unfold mlen
    rw [ml_full, Nat.zero_add, hrm]
    intro j _ hj
    rw [hrm] at hj
    unfold mtc
    rw [rdI_append_ge _ _ _ (by omega), rdI_append_lt _ _ _ (by omega)]
    simp
  unfold best at hle ⊢
  omega
theorem tail_twice (b : List Int) (a : Nat) (h1 : b.length ≤ a) (h2 : a ≤ b.length + b.length) (h0 : 1 ≤ b.length) (h3 : b.length ≤ 131) : (tkF (b ++ b) a a).length ≤ 4 := by
  have hll : (b ++ b).length = b.length + b.length := List.length_append
  by_cases he : a = b.length + b.length
  · rw [tkF_end _ _ _ (by omega), List.drop_of_length_le (by omega), rnL_nil]; exact Nat.zero_le _
  · have hb := best_twice b a h1 (by omega) h0 h3
    by_cases h4 : b.length + b.length - a < 4
    · suffices ∀ q c, b.length + b.length - c ≤ q → a ≤ c → c ≤ b.length + b.length → tkF (b ++ b) c a = rnL ((b ++ b).drop a) by
        rw [this _ a (Nat.le_refl _) (Nat.le_refl _) h2]
        have hne : (b ++ b).drop a ≠ [] := by intro e; have := congrArg List.length e; rw [List.length_drop, List.length_nil] at this; omega
        rw [rnL_short _ hne (by rw [List.length_drop]; omega), List.length_cons, List.length_drop]
        omega
      intro q
      induction q with
      | zero => intro c hc h5 h6; exact tkF_end _ _ _ (by omega)
      | succ q ih =>
        intro c hc h5 h6
        by_cases hce : c = b.length + b.length
        · exact tkF_end _ _ _ (by omega)
        · have hbc := best_twice b c (by omega) (by omega) h0 h3
          rw [tkF_on _ _ _ (by omega) (by omega)]
          exact ih (c + 1) (by omega) (by omega) (by omega)
    · rw [tkF_copy _ _ _ (by omega) (by omega), List.drop_of_length_le (by rw [List.length_take]; omega), rnL_nil, List.nil_append, hb, tkF_end _ _ _ (by omega), List.drop_of_length_le (by omega), rnL_nil]
      simp
theorem tk_twice (b : List Int) (h0 : 10 ≤ b.length) (h3 : b.length ≤ 131) (at_ fr : Nat) (h1 : fr ≤ at_) (h2 : at_ ≤ b.length) : (tkF (b ++ b) at_ fr).length + fr ≤ b.length + 7 := by
  have hll : (b ++ b).length = b.length + b.length := List.length_append
  suffices ∀ q a f, b.length - a ≤ q → f ≤ a → a ≤ b.length → (tkF (b ++ b) a f).length + f ≤ b.length + 7 from this _ at_ fr (Nat.le_refl _) h1 h2
  have hm : ∀ f, f ≤ b.length → (tkF (b ++ b) b.length f).length + f ≤ b.length + 7 := fun f hf => by
    have hb := best_twice b b.length (Nat.le_refl _) (by omega) (by omega) h3
    have hr := rnL_near (((b ++ b).take b.length).drop f) (by rw [List.length_drop, List.length_take]; omega)
    rw [List.length_drop, List.length_take, Nat.min_eq_left (by omega)] at hr
    have ht : (tkF (b ++ b) (b.length + (best (b ++ b) b.length).1) (b.length + (best (b ++ b) b.length).1)).length ≤ 0 := by
      have := tkF_length (b ++ b) (b.length + (best (b ++ b) b.length).1) (b.length + (best (b ++ b) b.length).1) (Nat.le_refl _) (by omega)
      omega
    rw [tkF_copy _ _ _ (by omega) (by omega), List.length_append, List.length_append]
    simp only [List.length_cons, List.length_nil]
    omega
  intro q
  induction q with
  | zero =>
    intro a f h4 h5 h6
    have : a = b.length := by omega
    subst this
    exact hm f h5
  | succ q ih =>
    intro a f h4 h5 h6
    by_cases ha : a = b.length
    · subst ha; exact hm f h5
    · by_cases hq : (best (b ++ b) a).1 < 4
      · rw [tkF_on _ _ _ (by omega) hq]
        exact ih (a + 1) f (by omega) (by omega) (by omega)
      · have hr := rnL_near (((b ++ b).take a).drop f) (by rw [List.length_drop, List.length_take]; omega)
        have hbr := best_room (b ++ b) a
        rw [List.length_drop, List.length_take] at hr
        rw [tkF_copy _ _ _ (by omega) hq, List.length_append, List.length_append]
        simp only [List.length_cons, List.length_nil]
        by_cases hn : a + (best (b ++ b) a).1 ≤ b.length
        · have := ih (a + (best (b ++ b) a).1) (a + (best (b ++ b) a).1) (by omega) (Nat.le_refl _) hn
          omega
        · have := tail_twice b (a + (best (b ++ b) a).1) (by omega) (by omega) (by omega) h3
          omega
theorem pk_twice (b : List Int) (h0 : 10 ≤ b.length) (h3 : b.length ≤ 131) : (pkL (b ++ b)).length ≤ b.length + 8 := by
  have hll : (b ++ b).length = b.length + b.length := List.length_append
  have h1 := tk_twice b h0 h3 0 0 (Nat.le_refl _) (Nat.zero_le _)
  have h2 := pk_le_tk (b ++ b) (by omega)
  unfold tkL at h2
  omega
end Go.Proofs.Ytdfpikimeihefaa
