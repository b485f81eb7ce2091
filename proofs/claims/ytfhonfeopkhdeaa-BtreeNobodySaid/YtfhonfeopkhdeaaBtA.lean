/-
  Where a key is in a list in order, or would be. Plain. No premise.
-/
import Derived.Test.YtfhonfeopkhdeaaBtT
import Derived.Test.YtfhonfeopkhdeaaProg
namespace Go.Proofs.Ytfhonfeopkhdeaa
open Go.RowKit

section
variable {μ : Type} (ct : μ → List Int)
/-- Where a key is in a list, or would be. -/
def At (l : List (μ × Int)) (k : μ) (i : Nat) (is : Bool) : Prop :=
  ∃ A B, l = A ++ B ∧ A.length = i ∧ Lo ct A k ∧ ((is = true ∧ ∃ a B', B = a :: B' ∧ kc ct k a.1 = 0) ∨ (is = false ∧ Hi ct B k))
variable {ct}
theorem At.le {l : List (μ × Int)} {k : μ} {i : Nat} {is : Bool} (h : At ct l k i is) : i ≤ l.length := by
  obtain ⟨A, B, rfl, rfl, _⟩ := h
  simp
theorem At.lt {l : List (μ × Int)} {k : μ} {i : Nat} (h : At ct l k i true) : i < l.length := by
  obtain ⟨A, B, rfl, rfl, _, h | h⟩ := h
  · obtain ⟨_, a, B', rfl, _⟩ := h
    simp
  · cases h.1
theorem at_of {l : List (μ × Int)} {k : μ} (hs : SortedL ct l) (i : Nat) (hi : i ≤ l.length) (h1 : ∀ j (hj : j < l.length), j < i → kc ct (l[j]).1 k < 0) (h2 : ∀ hj : i < l.length, 0 ≤ kc ct (l[i]).1 k) (is : Bool) (h3 : ∀ hj : i < l.length, is = decide (kc ct (l[i]).1 k = 0)) (h4 : i = l.length → is = false) : At ct l k i is := by
  have hlo : Lo ct (l.take i) k := fun a ha => by
    obtain ⟨j, hj, e⟩ := List.mem_iff_getElem.1 ha
    rw [List.length_take] at hj
    rw [List.getElem_take] at e
    rw [← e]
    exact h1 j (by omega) (by omega)
  refine ⟨l.take i, l.drop i, (List.take_append_drop _ _).symm, by rw [List.length_take]; omega, hlo, ?_⟩
  by_cases he : i < l.length
  · have e1 : l = l.take i ++ l[i] :: l.drop (i + 1) := by rw [List.getElem_cons_drop, List.take_append_drop]
    have h5 := h3 he
    have h6 := h2 he
    have hsw := kc_swap ct (l[i]).1 k
    by_cases h0 : kc ct (l[i]).1 k = 0
    · refine .inl ⟨by rw [h5]; exact decide_eq_true h0, _, _, List.drop_eq_getElem_cons he, by omega⟩
    · refine .inr ⟨by rw [h5]; exact decide_eq_false h0, ?_⟩
      rw [List.drop_eq_getElem_cons he]
      intro x hx
      rcases List.mem_cons.1 hx with rfl | hx
      · omega
      · rw [e1] at hs
        exact hi_behind hs (by omega) x hx
  · have : l.drop i = [] := List.drop_eq_nil_of_le (by omega)
    rw [this]
    exact .inr ⟨h4 (by omega), fun x hx => by cases hx⟩
theorem sorted_lt {l : List (μ × Int)} {k : μ} (hs : SortedL ct l) {i j : Nat} (hi : i < l.length) (hj : j < l.length) (h : i ≤ j) : (kc ct (l[j]).1 k < 0 → kc ct (l[i]).1 k < 0) ∧ (0 ≤ kc ct (l[i]).1 k → 0 ≤ kc ct (l[j]).1 k) := by
  rcases Nat.lt_or_eq_of_le h with h | rfl
  · have h1 : kc ct (l[i]).1 (l[j]).1 < 0 := List.pairwise_iff_getElem.1 hs i j hi hj h
    have a1 : kc ct (l[j]).1 k < 0 → kc ct (l[i]).1 k < 0 := fun h2 => kc_trans ct h1 h2
    refine ⟨a1, fun h2 => ?_⟩
    by_cases h3 : kc ct (l[j]).1 k < 0
    · have := a1 h3; omega
    · omega
  · exact ⟨id, id⟩
theorem at_exists {k : μ} : ∀ {l : List (μ × Int)}, SortedL ct l → ∃ i is, At ct l k i is
  | [], _ => ⟨0, false, [], [], rfl, rfl, (fun _ h => by cases h), .inr ⟨rfl, fun _ h => by cases h⟩⟩
  | a :: r, hs => by
    obtain ⟨h1, h2⟩ := List.pairwise_cons.1 hs
    by_cases c1 : kc ct k a.1 < 0
    · exact ⟨0, false, [], a :: r, rfl, rfl, (fun _ h => by cases h), .inr ⟨rfl, fun x hx => by
        rcases List.mem_cons.1 hx with rfl | hx
        · exact c1
        · exact kc_trans ct c1 (h1 x hx)⟩⟩
    · by_cases c2 : kc ct k a.1 = 0
      · exact ⟨0, true, [], a :: r, rfl, rfl, (fun _ h => by cases h), .inl ⟨rfl, a, r, rfl, c2⟩⟩
      · obtain ⟨i, is, A, B, e, hl, hlo, hc⟩ := at_exists (k := k) h2
        refine ⟨i + 1, is, a :: A, B, by rw [e]; rfl, by rw [List.length_cons, hl], fun x hx => ?_, hc⟩
        rcases List.mem_cons.1 hx with rfl | hx
        · have := kc_swap ct k x.1; omega
        · exact hlo x hx
theorem at_not {l : List (μ × Int)} {k : μ} {i j : Nat} {is js : Bool} (h1 : At ct l k i is) (h2 : At ct l k j js) : ¬ i < j := fun hlt => by
  obtain ⟨A, B, e, hA, hlo, hc⟩ := h1
  obtain ⟨A', B', e', hA', hlo', hc'⟩ := h2
  have hl : j ≤ l.length := by rw [e', List.length_append]; omega
  have hi : i < l.length := by omega
  have m1 : l[i] ∈ A' := by
    have : l[i] = A'[i]'(by omega) := by simp only [e']; rw [List.getElem_append_left]
    rw [this]; exact List.getElem_mem _
  have hB : 0 < B.length := by
    have : l.length = A.length + B.length := by rw [e, List.length_append]
    omega
  have m2 : l[i] = B[0] := by
    simp only [e]
    rw [List.getElem_append_right (by omega)]
    simp only [hA, Nat.sub_self]
  have k1 := hlo' _ m1
  rw [m2] at k1
  have hsw := kc_swap ct (B[0]).1 k
  rcases hc with ⟨_, a, B2, rfl, hz⟩ | ⟨_, hh⟩
  · have : (a :: B2)[0] = a := rfl
    rw [this] at k1 hsw
    omega
  · have := hh B[0] (List.getElem_mem _)
    omega
theorem at_unique {l : List (μ × Int)} {k : μ} {i j : Nat} {is js : Bool} (h1 : At ct l k i is) (h2 : At ct l k j js) : i = j ∧ is = js := by
  have e1 : i = j := by
    have a := at_not h1 h2
    have b := at_not h2 h1
    omega
  refine ⟨e1, ?_⟩
  subst e1
  obtain ⟨A, B, e, hA, hlo, hc⟩ := h1
  obtain ⟨A', B', e', hA', hlo', hc'⟩ := h2
  have : B = B' := by
    rw [e] at e'
    exact (List.append_inj e' (by omega)).2
  subst this
  rcases hc with ⟨h1, a, B2, rfl, hz⟩ | ⟨h1, hh⟩ <;> rcases hc' with ⟨h2, a', B2', e2, hz'⟩ | ⟨h2, hh'⟩
  · rw [h1, h2]
  · have := hh' a List.mem_cons_self
    omega
  · subst e2
    have := hh a' List.mem_cons_self
    omega
  · rw [h1, h2]
theorem At.get {l : List (μ × Int)} {k : μ} {i : Nat} (h : At ct l k i true) : ∃ A a B, l = A ++ a :: B ∧ A.length = i ∧ Lo ct A k ∧ kc ct k a.1 = 0 := by
  obtain ⟨A, B, e, hA, hlo, ⟨_, a, B', rfl, hz⟩ | ⟨h, _⟩⟩ := h
  · exact ⟨A, a, B', e, hA, hlo, hz⟩
  · cases h
theorem At.not {l : List (μ × Int)} {k : μ} {i : Nat} (h : At ct l k i false) : ∃ A B, l = A ++ B ∧ A.length = i ∧ Lo ct A k ∧ Hi ct B k := by
  obtain ⟨A, B, e, hA, hlo, ⟨h, _⟩ | ⟨_, hh⟩⟩ := h
  · cases h
  · exact ⟨A, B, e, hA, hlo, hh⟩
end
theorem mid_u (a b : Nat) (ha : a ≤ 1000000) (hb : b ≤ 1000000) : IntKind.u64.wrap ((a : Int) + b) = (a : Int) + b := by
  rw [IntKind.wrap_u64]
  exact Int.emod_eq_of_lt (by omega) (by omega)
end Go.Proofs.Ytfhonfeopkhdeaa
