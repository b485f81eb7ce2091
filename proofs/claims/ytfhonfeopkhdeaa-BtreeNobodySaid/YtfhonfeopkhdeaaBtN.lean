/-
  A node whose child is changed, or parted: plain. No premise.
-/
import Derived.Test.YtfhonfeopkhdeaaBtQ
namespace Go.Proofs.Ytfhonfeopkhdeaa
open Go.RowKit

section
variable {μ : Type} {ct : μ → List Int}
theorem nodup_swap {A X X' B : List Nat} {N : Nat} (h : (A ++ (X ++ B)).Nodup) (hX : X'.Nodup) (hN : ∀ x ∈ A ++ (X ++ B), x < N) (hf : ∀ x ∈ X', x ∈ X ∨ N ≤ x) : (A ++ (X' ++ B)).Nodup := by
  obtain ⟨h1, h2, h3⟩ := List.nodup_append.1 h
  obtain ⟨h4, h5, h6⟩ := List.nodup_append.1 h2
  refine List.nodup_append.2 ⟨h1, List.nodup_append.2 ⟨hX, h5, fun a ha b hb e => ?_⟩, fun a ha b hb e => ?_⟩
  · rcases hf a ha with h | h
    · exact h6 a h b hb e
    · have := hN b (by simp [hb]); omega
  · rcases List.mem_append.1 hb with hb | hb
    · rcases hf b hb with h | h
      · exact h3 a ha b (List.mem_append.2 (.inl h)) e
      · have := hN a (by simp [ha]); omega
    · exact h3 a ha b (List.mem_append.2 (.inr hb)) e
theorem ids_kid {h : Nat} {n : Nat} {I : List (μ × Int)} {C1 C2 : List (BT μ h)} {c : BT μ h} : ids (h + 1) (⟨n, I, (C1 ++ c :: C2 : List (BT μ h))⟩ : BT μ (h + 1)) = (n :: C1.flatMap (ids h)) ++ (ids h c ++ C2.flatMap (ids h)) := by
  show n :: (C1 ++ c :: C2).flatMap (ids h) = _
  rw [List.flatMap_append, List.flatMap_cons]
  rfl
theorem ids_two {h : Nat} {n : Nat} {I : List (μ × Int)} {C1 C2 : List (BT μ h)} {l r : BT μ h} : ids (h + 1) (⟨n, I, (C1 ++ l :: r :: C2 : List (BT μ h))⟩ : BT μ (h + 1)) = (n :: C1.flatMap (ids h)) ++ ((ids h l ++ ids h r) ++ C2.flatMap (ids h)) := by
  show n :: (C1 ++ l :: r :: C2).flatMap (ids h) = _
  rw [List.flatMap_append, List.flatMap_cons, List.flatMap_cons, List.append_assoc]
  rfl
theorem toL_two {h : Nat} {n : Nat} {I1 I2 : List (μ × Int)} {C1 C2 : List (BT μ h)} {l r : BT μ h} {a : μ × Int} (h1 : C1.length = I1.length) (h2 : I2.length = C2.length) :
    toL (h + 1) (⟨n, I1 ++ a :: I2, (C1 ++ l :: r :: C2 : List (BT μ h))⟩ : BT μ (h + 1)) = preW (C1.map (toL h)) I1 ++ ((toL h l ++ a :: toL h r) ++ postW I2 (C2.map (toL h))) := by
  show weave (I1 ++ a :: I2) (List.map (toL h) (C1 ++ l :: r :: C2)) = _
  rw [List.map_append, List.map_cons, List.map_cons, weave_pre (by rw [List.length_map]; exact h1)]
  show preW _ _ ++ (toL h l ++ a :: weave I2 (toL h r :: C2.map (toL h))) = _
  rw [weave_post (by rw [List.length_map]; exact h2)]
  simp
/-- The children of a half lie where they lay. -/
theorem tr_halfL {M M' : Nat → Option (Nf μ)} {h : Nat} {x : BT μ h} {q : Nat} (ht : Tr M h x) (hn : (ids h x).Nodup) (hM : ∀ n ∈ ids h x, n ≠ x.id → M' n = M n) (e : ∀ cs, M x.id = some (nf x.its cs) → M' x.id = some (nf (x.its.take q) (cs.take (q + 1)))) : Tr M' h (halfL x q) := by
  cases h with
  | zero => exact e [] ht
  | succ h =>
    refine ⟨?_, fun c hc => ?_⟩
    · have := e _ ht.1
      rw [← List.map_take] at this
      exact this
    · have hc2 : c ∈ x.kds := List.mem_of_mem_take hc
      refine (ht.2 c hc2).congr fun n hn2 => ?_
      have hm : n ∈ x.kds.flatMap (ids h) := List.mem_flatMap.2 ⟨c, hc2, hn2⟩
      exact hM n (List.mem_cons_of_mem _ hm) (fun e => (List.nodup_cons.1 hn).1 (e ▸ hm))
theorem tr_halfR {M M' : Nat → Option (Nf μ)} {h : Nat} {x : BT μ h} {q y : Nat} (ht : Tr M h x) (hn : (ids h x).Nodup) (hM : ∀ n ∈ ids h x, n ≠ x.id → M' n = M n) (e : ∀ cs, M x.id = some (nf x.its cs) → M' y = some (nf (x.its.drop (q + 1)) (cs.drop (q + 1)))) : Tr M' h (halfR y x q) := by
  cases h with
  | zero => exact e [] ht
  | succ h =>
    refine ⟨?_, fun c hc => ?_⟩
    · have := e _ ht.1
      rw [← List.map_drop] at this
      exact this
    · have hc2 : c ∈ x.kds := List.mem_of_mem_drop hc
      refine (ht.2 c hc2).congr fun n hn2 => ?_
      have hm : n ∈ x.kds.flatMap (ids h) := List.mem_flatMap.2 ⟨c, hc2, hn2⟩
      exact hM n (List.mem_cons_of_mem _ hm) (fun e => (List.nodup_cons.1 hn).1 (e ▸ hm))
theorem tr_ids {M : Nat → Option (Nf μ)} : {h : Nat} → {t : BT μ h} → Tr M h t → ∀ n ∈ ids h t, ∃ F, M n = some F
  | 0, t, ht, n, hn => by
    rw [List.mem_singleton.1 hn]
    exact ⟨_, ht⟩
  | h + 1, t, ht, n, hn => by
    rcases List.mem_cons.1 hn with rfl | hn
    · exact ⟨_, ht.1⟩
    · obtain ⟨c, hc, hn⟩ := List.mem_flatMap.1 hn
      exact tr_ids (ht.2 c hc) n hn
end
end Go.Proofs.Ytfhonfeopkhdeaa
