/-
  Plain facts for BtreeBetween: the nodes that are told behind a node as its children are its children, and their keys lie between.
-/
import Derived.Test.YtfhonfeopkhdeaaBtPl
namespace Go.Proofs.Ytfhonfeopkhdeaa.BS
open Go.RowKit Go.Proofs.YtfhonfeopkhdeaaW.PrintWords

/-- Where children of a node of a level stand in what comes behind it, and which they are. -/
def chF (lv : Nat) : Nat → List Nt → List (Nat × Nt)
  | _, [] => []
  | b, x :: R => if lv < x.lv then (if x.lv = lv + 1 then (b, x) :: chF lv (b + 1) R else chF lv (b + 1) R) else []
theorem chF_stop {lv b : Nat} {S : List Nt} (h : ∀ y, S.head? = some y → y.lv ≤ lv) : chF lv b S = [] := by
  cases S with
  | nil => rfl
  | cons y S => exact if_neg (by have := h y rfl; omega)
theorem chF_deep {lv : Nat} {S : List Nt} : ∀ {R : List Nt} {b : Nat}, (∀ y ∈ R, lv + 1 < y.lv) → chF lv b (R ++ S) = chF lv (b + R.length) S
  | [], _, _ => rfl
  | x :: R, b, h => by
    have h1 := h x List.mem_cons_self
    show (if lv < x.lv then (if x.lv = lv + 1 then (b, x) :: chF lv (b + 1) (R ++ S) else chF lv (b + 1) (R ++ S)) else []) = _
    rw [if_pos (by omega), if_neg (by omega), chF_deep (fun y hy => h y (List.mem_cons_of_mem _ hy))]
    congr 1
    simp
    omega
theorem chF_at {lv : Nat} : ∀ {R : List Nt} {b : Nat}, ∀ p ∈ chF lv b R, b ≤ p.1 ∧ R[p.1 - b]? = some p.2
  | [], _, p, hp => by cases hp
  | x :: R, b, p, hp => by
    unfold chF at hp
    split at hp
    · have gen : p ∈ chF lv (b + 1) R → b ≤ p.1 ∧ (x :: R)[p.1 - b]? = some p.2 := fun h => by
        have h1 := chF_at p h
        obtain ⟨q, hq⟩ : ∃ q, p.1 - b = q + 1 := ⟨p.1 - b - 1, by omega⟩
        refine ⟨by omega, ?_⟩
        rw [hq, List.getElem?_cons_succ, show q = p.1 - (b + 1) from by omega]
        exact h1.2
      split at hp
      · rcases List.mem_cons.1 hp with rfl | hp
        · exact ⟨Nat.le_refl _, by simp⟩
        · exact gen hp
      · exact gen hp
    · cases hp
/-- The first of a subtree's nodes. -/
def hdN (h : Nat) (lv : Nat) (t : BT Ky h) : Nt := ⟨lv, decide (h = 0), t.its.map (·.1)⟩
theorem chF_kids {m h lv : Nat} {S : List Nt} (hS : ∀ y, S.head? = some y → y.lv ≤ lv) : ∀ {cs : List (BT Ky h)} {b : Nat}, (∀ c ∈ cs, OkT m h (m / 2) m c) → (chF lv b (cs.flatMap (fun c => nodesL h c (lv + 1)) ++ S)).map (·.2) = cs.map (hdN h (lv + 1))
  | [], b, _ => by
    show (chF lv b S).map _ = []
    rw [chF_stop hS]
    rfl
  | c :: cs, b, hc => by
    obtain ⟨R, hR⟩ := nodesL_cons h c (lv + 1)
    have hdp := nodesL_rest (hc c List.mem_cons_self) hR
    rw [List.flatMap_cons, hR, List.append_assoc]
    show (if lv < lv + 1 then (if lv + 1 = lv + 1 then (b, _) :: chF lv (b + 1) (R ++ (cs.flatMap _ ++ S)) else _) else []).map (·.2) = _
    rw [if_pos (by omega), if_pos rfl, chF_deep (fun y hy => (hdp y hy).2.2), List.map_cons, List.map_cons, chF_kids hS (fun d hd => hc d (List.mem_cons_of_mem _ hd))]
    rfl
theorem drop_flat {α β : Type} (f : α → List β) : ∀ (cs : List α) (i : Nat), i < (cs.flatMap f).length → ∃ C1 c C2 j, cs = C1 ++ c :: C2 ∧ j < (f c).length ∧ (cs.flatMap f).drop i = (f c).drop j ++ C2.flatMap f
  | [], i, h => by simp at h
  | c :: cs, i, h => by
    rw [List.flatMap_cons] at h ⊢
    by_cases hi : i < (f c).length
    · refine ⟨[], c, cs, i, rfl, hi, ?_⟩
      rw [List.drop_append, show i - (f c).length = 0 from by omega, List.drop_zero]
    · obtain ⟨C1, d, C2, j, e1, e2, e3⟩ := drop_flat f cs (i - (f c).length) (by rw [List.length_append] at h; omega)
      refine ⟨c :: C1, d, C2, j, by rw [e1]; rfl, e2, ?_⟩
      rw [List.drop_append, List.drop_of_length_le (by omega), List.nil_append]
      exact e3
theorem kid_sorted {m h lo hi : Nat} {t : BT Ky (h + 1)} (ho : OkT m (h + 1) lo hi t) (hs : SortedL kct (toL (h + 1) t)) {c : BT Ky h} (hc : c ∈ t.kds) : SortedL kct (toL h c) :=
  hs.sublist (weave_kid t.its (List.map (toL h) t.kds) (by rw [List.length_map]; exact ho.kids) _ (List.mem_map_of_mem hc))
/-- Every node that is told is the first of a subtree; what comes behind the subtree is no deeper. -/
theorem nodesL_at {m : Nat} : ∀ {h lo hi : Nat} {t : BT Ky h} {lv : Nat}, OkT m h lo hi t → SortedL kct (toL h t) → ∀ {i : Nat}, i < (nodesL h t lv).length →
    ∃ h' t' lv' lo' hi' S, OkT m h' lo' hi' t' ∧ SortedL kct (toL h' t') ∧ (nodesL h t lv).drop i = nodesL h' t' lv' ++ S ∧ (∀ y, S.head? = some y → y.lv ≤ lv') ∧ lv ≤ lv'
  | h, lo, hi, t, lv, ho, hs, 0, _ => ⟨h, t, lv, lo, hi, [], ho, hs, by simp, fun y hy => (by cases hy), Nat.le_refl _⟩
  | 0, lo, hi, t, lv, ho, hs, i + 1, hl => by
    have h1 : (nodesL 0 t lv).length = 1 := rfl
    omega
  | h + 1, lo, hi, t, lv, ho, hs, i + 1, hl => by
    have h1 : nodesL (h + 1) t lv = ⟨lv, false, t.its.map (·.1)⟩ :: t.kds.flatMap (fun c => nodesL h c (lv + 1)) := rfl
    rw [h1] at hl ⊢
    rw [List.drop_succ_cons]
    obtain ⟨C1, c, C2, j, e1, e2, e3⟩ := drop_flat (fun c => nodesL h c (lv + 1)) t.kds i (by simpa using hl)
    have hcm : c ∈ t.kds := by rw [e1]; simp
    obtain ⟨h', t', lv', lo', hi', S, f1, f2, f3, f4, f5⟩ := nodesL_at (lv := lv + 1) (ho.2.2 c hcm) (kid_sorted ho hs hcm) e2
    refine ⟨h', t', lv', lo', hi', S ++ C2.flatMap (fun c => nodesL h c (lv + 1)), f1, f2, ?_, fun y hy => ?_, by omega⟩
    · rw [e3, f3, List.append_assoc]
    · cases S with
      | cons z S => exact f4 y hy
      | nil =>
        cases C2 with
        | nil => cases hy
        | cons d C2 =>
          obtain ⟨R, hR⟩ := nodesL_cons h d (lv + 1)
          rw [List.nil_append, List.flatMap_cons, hR] at hy
          rw [← Option.some.inj hy]
          exact f5
/-- Children and keys of a node lie as the law asks. -/
theorem kid_between {m h lo hi : Nat} {t : BT Ky (h + 1)} (ho : OkT m (h + 1) lo hi t) (hs : SortedL kct (toL (h + 1) t)) {k : Nat} (hk : k < t.kds.length) :
    (∀ j (hj : j < t.its.length), k = j + 1 → ∀ x ∈ t.kds[k].its, kc kct t.its[j].1 x.1 < 0) ∧ (∀ hj : k < t.its.length, ∀ x ∈ t.kds[k].its, kc kct x.1 t.its[k].1 < 0) := by
  have hkl : t.kds.length = t.its.length + 1 := ho.kids
  have hke : t.kds[k]? = some t.kds[k] := List.getElem?_eq_getElem hk
  have hsub := its_sub (ho.2.2 t.kds[k] (List.getElem_mem hk))
  generalize t.kds[k] = c at hke hsub
  obtain ⟨I1, I2, C1, c', C2, e1, e2, e3, e4, e5⟩ := node_at ho.kids (i := k) (by omega)
  have hc : c' = c := by
    rw [e2, List.getElem?_append_right (by omega), e4, Nat.sub_self] at hke
    exact Option.some.inj hke
  subst hc
  have hs2 : SortedL kct (preW (C1.map (toL h)) I1 ++ (toL h c' ++ postW I2 (C2.map (toL h)))) := by
    have h1 := toL_node (n := t.id) (I1 := I1) (I2 := I2) (C1 := C1) (C2 := C2) (c := c') (by omega) e5
    rw [← h1]
    have h2 : (⟨t.id, I1 ++ I2, (C1 ++ c' :: C2 : List (BT Ky h))⟩ : BT Ky (h + 1)) = t := by
      rw [← e1, ← e2]
      rfl
    rw [h2]
    exact hs
  have hp := List.pairwise_append.1 hs2
  refine ⟨fun j hj hkj x hx => ?_, fun hj x hx => ?_⟩
  · obtain ⟨X, I0, a, g1, g2⟩ := preW_last (C1 := C1.map (toL h)) (I1 := I1) (by rw [List.length_map]; omega) (by intro e; rw [e] at e3; simp at e3; omega)
    have ha : t.its[j] = a := by
      have h1 : t.its[j]? = some a := by
        rw [e1, g1, List.append_assoc, List.getElem?_append_right (by rw [g1, List.length_append] at e3; simp at e3; omega)]
        have : j - I0.length = 0 := by rw [g1, List.length_append] at e3; simp at e3; omega
        rw [this]
        rfl
      rw [List.getElem?_eq_getElem hj] at h1
      exact Option.some.inj h1
    rw [ha]
    exact hp.2.2 a (by rw [g2]; simp) x (List.mem_append_left _ (hsub.subset hx))
  · obtain ⟨a, I0, X, g1, g2⟩ := postW_first (I2 := I2) (C2 := C2.map (toL h)) (by rw [List.length_map]; exact e5) (by intro e; rw [e1, e] at hj; simp at hj; omega)
    have ha : t.its[k] = a := by
      have h1 : t.its[k]? = some a := by
        rw [e1, List.getElem?_append_right (by omega), e3, Nat.sub_self, g1]
        rfl
      rw [List.getElem?_eq_getElem hj] at h1
      exact Option.some.inj h1
    rw [ha]
    exact (List.pairwise_append.1 hp.2.1).2.2 x (hsub.subset hx) a (by rw [g2]; simp)
/-- What the law asks of a node and of its children. -/
structure BwAt (N : List Nt) (X : Nt) (C : List (Nat × Nt)) : Prop where
  fit : ∀ k (hk : k < C.length), N[C[k].1]? = some C[k].2
  leaf : X.lf = true → C.length = 0
  inner : X.lf = false → C.length = X.ks.length + 1
  some : ∀ k (hk : k < C.length), 0 < C[k].2.ks.length
  low : ∀ k (hk : k < C.length), ∀ j (hj : j < X.ks.length), k = j + 1 → ∀ x ∈ C[k].2.ks, kc kct X.ks[j] x < 0
  high : ∀ k (hk : k < C.length), ∀ hj : k < X.ks.length, ∀ x ∈ C[k].2.ks, kc kct x X.ks[k] < 0
theorem between_ok {m h : Nat} {t : BT Ky h} (hm : 3 ≤ m) (ho : OkT m h (min h 1) m t) (hs : SortedL kct (toL h t)) (i : Nat) (hi : i < (nodesT h t).length) :
    BwAt (nodesT h t) (nodesT h t)[i] (chF (nodesT h t)[i].lv (i + 1) ((nodesT h t).drop (i + 1))) := by
  have hz : ¬ (toL h t).length = 0 := fun hz => by
    unfold nodesT at hi
    rw [if_pos hz] at hi
    simp at hi
  have hN : nodesT h t = nodesL h t 0 := if_neg hz
  generalize nodesT h t = N at hN hi
  subst hN
  obtain ⟨h', t', lv', lo', hi', S, f1, f2, f3, f4, -⟩ := nodesL_at ho hs hi
  obtain ⟨R, hR⟩ := nodesL_cons h' t' lv'
  rw [← List.getElem_cons_drop (h := hi), hR, List.cons_append] at f3
  obtain ⟨g1, g2⟩ := List.cons.inj f3
  have hfit : ∀ p ∈ chF lv' (i + 1) ((nodesL h t 0).drop (i + 1)), (nodesL h t 0)[p.1]? = some p.2 := fun p hp => by
    have h1 := chF_at p hp
    rw [List.getElem?_drop, show i + 1 + (p.1 - (i + 1)) = p.1 from by omega] at h1
    exact h1.2
  generalize nodesL h t 0 = N at *
  rw [g1]
  rw [g2] at hfit ⊢
  show BwAt N _ (chF lv' (i + 1) (R ++ S))
  cases h' with
  | zero =>
    have h1 : [(⟨lv', true, t'.its.map (·.1)⟩ : Nt)] = ⟨lv', decide (0 = 0), t'.its.map (·.1)⟩ :: R := hR
    rw [← (List.cons.inj h1).2, List.nil_append, chF_stop f4]
    exact ⟨fun k hk => absurd hk (Nat.not_lt_zero k), fun _ => rfl, fun e => (by cases e), fun k hk => absurd hk (Nat.not_lt_zero k), fun k hk => absurd hk (Nat.not_lt_zero k), fun k hk => absurd hk (Nat.not_lt_zero k)⟩
  | succ h' =>
    have h1 : (⟨lv', false, t'.its.map (·.1)⟩ : Nt) :: t'.kds.flatMap (fun c => nodesL h' c (lv' + 1)) = ⟨lv', decide (h' + 1 = 0), t'.its.map (·.1)⟩ :: R := hR
    rw [← (List.cons.inj h1).2] at hfit ⊢
    have hm1 := chF_kids (lv := lv') (S := S) f4 (cs := t'.kds) (b := i + 1) f1.2.2
    generalize chF lv' (i + 1) (t'.kds.flatMap (fun c => nodesL h' c (lv' + 1)) ++ S) = C at *
    have hlen : C.length = t'.kds.length := by
      have := congrArg List.length hm1
      rw [List.length_map, List.length_map] at this
      exact this
    have hat : ∀ k (hk : k < C.length), ∃ hk' : k < t'.kds.length, C[k].2 = hdN h' (lv' + 1) t'.kds[k] := fun k hk => by
      refine ⟨by omega, ?_⟩
      have h2 : (C.map (·.2))[k]? = (t'.kds.map (hdN h' (lv' + 1)))[k]? := by rw [hm1]
      rw [List.getElem?_map, List.getElem?_map, List.getElem?_eq_getElem hk, List.getElem?_eq_getElem (by omega)] at h2
      exact Option.some.inj h2
    have hkl : t'.kds.length = t'.its.length + 1 := f1.kids
    refine ⟨fun k hk => hfit _ (List.getElem_mem hk), fun e => ?_, fun _ => ?_, fun k hk => ?_, fun k hk j hj hkj x hx => ?_, fun k hk hj x hx => ?_⟩
    · have : decide (h' + 1 = 0) = false := rfl
      rw [this] at e
      cases e
    · show C.length = (t'.its.map _).length + 1
      rw [List.length_map]
      omega
    · obtain ⟨hk', e⟩ := hat k hk
      rw [e]
      have := (f1.2.2 _ (List.getElem_mem hk')).len
      show 0 < (List.map _ _).length
      rw [List.length_map]
      omega
    · obtain ⟨hk', e⟩ := hat k hk
      rw [e] at hx
      obtain ⟨a, ha, rfl⟩ := List.mem_map.1 hx
      have hj2 : j < t'.its.length := by simpa using hj
      have := (kid_between f1 f2 hk').1 j hj2 hkj a ha
      simpa using this
    · obtain ⟨hk', e⟩ := hat k hk
      rw [e] at hx
      obtain ⟨a, ha, rfl⟩ := List.mem_map.1 hx
      have hj2 : k < t'.its.length := by simpa using hj
      have := (kid_between f1 f2 hk').2 hj2 a ha
      simpa using this
end Go.Proofs.Ytfhonfeopkhdeaa.BS
