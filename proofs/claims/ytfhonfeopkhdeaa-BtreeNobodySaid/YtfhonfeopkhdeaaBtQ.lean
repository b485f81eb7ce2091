/-
  Trees in order: where a key goes, what stays. Plain. No premise.
-/
import Derived.Test.YtfhonfeopkhdeaaBtA
namespace Go.Proofs.Ytfhonfeopkhdeaa
open Go.RowKit

section
variable {μ : Type} {ct : μ → List Int}
theorem weave_sub {β : Type} : ∀ (I : List β) (C : List (List β)), C.length = I.length + 1 → I.Sublist (weave I C)
  | [], [], h => by simp at h
  | [], c :: _, _ => List.nil_sublist _
  | a :: I, [], h => by simp at h
  | a :: I, c :: C, h => by
    show (a :: I).Sublist (c ++ a :: weave I C)
    exact ((weave_sub I C (by simpa using h)).cons_cons a).trans (List.sublist_append_right c _)
theorem its_sub {m h lo hi : Nat} {t : BT μ h} (ho : OkT m h lo hi t) : t.its.Sublist (toL h t) := by
  cases h with
  | zero => exact List.Sublist.refl _
  | succ h =>
    refine weave_sub _ _ ?_
    rw [List.length_map]
    exact ho.kids
theorem its_sorted {m h lo hi : Nat} {t : BT μ h} (ho : OkT m h lo hi t) (hs : SortedL ct (toL h t)) : SortedL ct t.its := hs.sublist (its_sub ho)
theorem preW_lo {C1 : List (List (μ × Int))} {I1 R : List (μ × Int)} {k : μ} (h : C1.length = I1.length) (hs : SortedL ct (preW C1 I1 ++ R)) (hl : Lo ct I1 k) : Lo ct (preW C1 I1) k := by
  by_cases he : I1 = []
  · subst he
    have : C1 = [] := List.eq_nil_of_length_eq_zero h
    subst this
    intro x hx
    cases hx
  · obtain ⟨X, I0, a, e1, e2⟩ := preW_last h he
    rw [e2, List.append_assoc] at hs
    rw [e2]
    have ha : kc ct a.1 k < 0 := hl a (by rw [e1]; simp)
    exact (lo_before hs (by omega)).append (fun x hx => by rcases List.mem_singleton.1 hx with rfl; exact ha)
theorem postW_hi {C2 : List (List (μ × Int))} {I2 L : List (μ × Int)} {k : μ} (h : I2.length = C2.length) (hs : SortedL ct (L ++ postW I2 C2)) (hl : Hi ct I2 k) : Hi ct (postW I2 C2) k := by
  by_cases he : I2 = []
  · subst he
    have : C2 = [] := List.eq_nil_of_length_eq_zero h.symm
    subst this
    intro x hx
    cases hx
  · obtain ⟨a, I0, X, e1, e2⟩ := postW_first h he
    rw [e2] at hs ⊢
    have ha : kc ct k a.1 < 0 := hl a (by rw [e1]; simp)
    intro x hx
    rcases List.mem_cons.1 hx with rfl | hx
    · exact ha
    · exact hi_behind hs (by omega) x hx
/-- A node, a key that is none of its own: the child below which it would be. -/
theorem node_go {m h lo hi : Nat} {t : BT μ (h + 1)} (ho : OkT m (h + 1) lo hi t) (hs : SortedL ct (toL (h + 1) t)) {k : μ} {i : Nat} (ha : At ct t.its k i false) :
    ∃ (I1 I2 : List (μ × Int)) (C1 : List (BT μ h)) (c : BT μ h) (C2 : List (BT μ h)), t.its = I1 ++ I2 ∧ t.kds = C1 ++ c :: C2 ∧ I1.length = i ∧ C1.length = i ∧ I2.length = C2.length ∧
      Lo ct (preW (C1.map (toL h)) I1) k ∧ Hi ct (postW I2 (C2.map (toL h))) k ∧ toL (h + 1) t = preW (C1.map (toL h)) I1 ++ (toL h c ++ postW I2 (C2.map (toL h))) := by
  obtain ⟨I1, I2, C1, c, C2, e1, e2, l1, l2, l3⟩ := node_at ho.kids ha.le
  obtain ⟨A, B, e3, l4, hlo, hhi⟩ := ha.not
  obtain ⟨rfl, rfl⟩ := List.append_inj (e1.symm.trans e3) (by omega)
  have et : toL (h + 1) t = preW (C1.map (toL h)) I1 ++ (toL h c ++ postW I2 (C2.map (toL h))) := by
    have := toL_node (n := t.id) (h := h) (I1 := I1) (I2 := I2) (C1 := C1) (C2 := C2) (c := c) (by omega) l3
    rw [← this]
    show weave t.its (List.map (toL h) t.kds) = weave (I1 ++ I2) (List.map (toL h) (C1 ++ c :: C2))
    rw [e1, e2]
  rw [et] at hs
  refine ⟨I1, I2, C1, c, C2, e1, e2, l1, l2, l3, preW_lo (by rw [List.length_map]; omega) hs hlo, ?_, et⟩
  refine postW_hi (L := preW (C1.map (toL h)) I1 ++ toL h c) (by rw [List.length_map]; omega) ?_ hhi
  rw [List.append_assoc]
  exact hs
/-- A node, a key of its own. -/
theorem node_is {m h lo hi : Nat} {t : BT μ h} (ho : OkT m h lo hi t) (hs : SortedL ct (toL h t)) {k : μ} {i : Nat} (ha : At ct t.its k i true) :
    ∃ (I1 : List (μ × Int)) (a : μ × Int) (I2 X Y : List (μ × Int)), t.its = I1 ++ a :: I2 ∧ I1.length = i ∧ kc ct k a.1 = 0 ∧ toL h t = X ++ a :: Y ∧ Lo ct X k ∧ (∀ v, toL h ⟨t.id, I1 ++ (a.1, v) :: I2, t.cs⟩ = X ++ (a.1, v) :: Y) := by
  obtain ⟨I1, a, I2, e1, l1, hlo, hz⟩ := ha.get
  have hz' : kc ct a.1 k ≤ 0 := by have := kc_swap ct k a.1; omega
  cases h with
  | zero => exact ⟨I1, a, I2, I1, I2, e1, l1, hz, e1, hlo, fun v => rfl⟩
  | succ h =>
    have hk := ho.kids
    obtain ⟨C1, c, C2, e2, l2, l3⟩ := list_at t.kds (i := i) (by
      have : t.kds.length = t.cs.length := rfl
      rw [this, hk, e1, List.length_append]; omega)
    have et : ∀ v, toL (h + 1) (⟨t.id, I1 ++ (a.1, v) :: I2, t.cs⟩ : BT μ (h + 1)) = (preW (C1.map (toL h)) I1 ++ toL h c) ++ (a.1, v) :: weave I2 (C2.map (toL h)) := fun v => by
      have := toL_item (n := t.id) (h := h) (I1 := I1) (I2 := I2) (C1 := C1) (C2 := C2) (c := c) (a := (a.1, v)) (by omega)
      rw [← this, ← e2]
      rfl
    have et0 : toL (h + 1) t = (preW (C1.map (toL h)) I1 ++ toL h c) ++ a :: weave I2 (C2.map (toL h)) := by
      have := et a.2
      rw [← this]
      show weave t.its _ = weave (I1 ++ (a.1, a.2) :: I2) _
      rw [e1]
      rfl
    rw [et0] at hs
    exact ⟨I1, a, I2, _, _, e1, l1, hz, et0, lo_before hs hz', et⟩
end
end Go.Proofs.Ytfhonfeopkhdeaa
