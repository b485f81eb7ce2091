/-
  Trees whose leaves lie at one level: plain. No program. No premise.
-/
import Derived.Test.YtfhonfeopkhdeaaBtP
namespace Go.Proofs.Ytfhonfeopkhdeaa
open Go.RowKit

structure Nd (μ α : Type) where
  id : Nat
  its : List (μ × Int)
  cs : List α
/-- What a node of height h has below it. -/
def Sub (μ : Type) : Nat → Type
  | 0 => Empty
  | h + 1 => Nd μ (Sub μ h)
abbrev BT (μ : Type) (h : Nat) := Nd μ (Sub μ h)
/-- A node's children, as trees. -/
def Nd.kds {μ : Type} {h : Nat} (t : BT μ (h + 1)) : List (BT μ h) := t.cs
section
variable {β : Type}
def weave : List β → List (List β) → List β
  | _, [] => []
  | [], c :: _ => c
  | a :: I, c :: C => c ++ a :: weave I C
def preW (C : List (List β)) (I : List β) : List β := (List.zipWith (fun c a => c ++ [a]) C I).flatten
def postW (I : List β) (C : List (List β)) : List β := (List.zipWith (fun a c => a :: c) I C).flatten
theorem weave_pre {C1 : List (List β)} {I1 : List β} (h : C1.length = I1.length) (I2 : List β) (c : List β) (C2 : List (List β)) : weave (I1 ++ I2) (C1 ++ c :: C2) = preW C1 I1 ++ weave I2 (c :: C2) := by
  induction C1 generalizing I1 with
  | nil =>
    have : I1 = [] := List.eq_nil_of_length_eq_zero h.symm
    subst this
    rfl
  | cons d C1 ih =>
    cases I1 with
    | nil => simp at h
    | cons a I1 =>
      have e := ih (I1 := I1) (by simpa using h)
      show d ++ a :: weave (I1 ++ I2) (C1 ++ c :: C2) = _
      rw [e]
      simp [preW]
theorem weave_post {I2 : List β} {C2 : List (List β)} (h : I2.length = C2.length) (c : List β) : weave I2 (c :: C2) = c ++ postW I2 C2 := by
  induction I2 generalizing c C2 with
  | nil =>
    have : C2 = [] := List.eq_nil_of_length_eq_zero h.symm
    subst this
    simp [weave, postW]
  | cons a I2 ih =>
    cases C2 with
    | nil => simp at h
    | cons d C2 =>
      show c ++ a :: weave I2 (d :: C2) = _
      rw [ih (by simpa using h)]
      simp [postW]
theorem weave_mid {C1 : List (List β)} {I1 I2 : List β} {C2 : List (List β)} (h1 : C1.length = I1.length) (h2 : I2.length = C2.length) (c : List β) : weave (I1 ++ I2) (C1 ++ c :: C2) = preW C1 I1 ++ (c ++ postW I2 C2) := by
  rw [weave_pre h1, weave_post h2]
/-- An item, with all ahead of it and all behind it. -/
theorem weave_item {C1 : List (List β)} {I1 I2 : List β} {C2 : List (List β)} (h1 : C1.length = I1.length) (c : List β) (a : β) : weave (I1 ++ a :: I2) (C1 ++ c :: C2) = (preW C1 I1 ++ c) ++ a :: weave I2 C2 := by
  rw [weave_pre h1]
  simp [weave]
theorem preW_last {C1 : List (List β)} {I1 : List β} (h : C1.length = I1.length) (hn : I1 ≠ []) : ∃ X I0 a, I1 = I0 ++ [a] ∧ preW C1 I1 = X ++ [a] := by
  induction C1 generalizing I1 with
  | nil => exact absurd (List.eq_nil_of_length_eq_zero h.symm) hn
  | cons d C1 ih =>
    cases I1 with
    | nil => exact absurd rfl hn
    | cons a I1 =>
      cases I1 with
      | nil =>
        have : C1 = [] := List.eq_nil_of_length_eq_zero (by simpa using h)
        subst this
        exact ⟨d, [], a, rfl, by simp [preW]⟩
      | cons b I1 =>
        obtain ⟨X, I0, z, e1, e2⟩ := ih (I1 := b :: I1) (by simpa using h) (by simp)
        refine ⟨d ++ a :: X, a :: I0, z, by rw [e1]; rfl, ?_⟩
        have : preW (d :: C1) (a :: b :: I1) = (d ++ [a]) ++ preW C1 (b :: I1) := by simp [preW]
        rw [this, e2]
        simp
theorem postW_first {I2 : List β} {C2 : List (List β)} (h : I2.length = C2.length) (hn : I2 ≠ []) : ∃ a I0 X, I2 = a :: I0 ∧ postW I2 C2 = a :: X := by
  cases I2 with
  | nil => exact absurd rfl hn
  | cons a I2 =>
    cases C2 with
    | nil => simp at h
    | cons d C2 => exact ⟨a, I2, d ++ postW I2 C2, rfl, by simp [postW]⟩
/-- A node parted at an item. -/
theorem weave_part {J1 J2 : List β} {D1 D2 : List (List β)} (h1 : D1.length = J1.length + 1) (a : β) : weave (J1 ++ a :: J2) (D1 ++ D2) = weave J1 D1 ++ a :: weave J2 D2 := by
  induction J1 generalizing D1 with
  | nil =>
    cases D1 with
    | nil => simp at h1
    | cons d D1 =>
      have : D1 = [] := List.eq_nil_of_length_eq_zero (by simpa using h1)
      subst this
      rfl
  | cons b J1 ih =>
    cases D1 with
    | nil => simp at h1
    | cons d D1 =>
      show d ++ b :: weave (J1 ++ a :: J2) (D1 ++ D2) = _
      rw [ih (by simpa using h1)]
      show _ = (d ++ b :: weave J1 D1) ++ _
      simp
end
section
variable {μ : Type}
/-- All items, in order. -/
def toL : (h : Nat) → BT μ h → List (μ × Int)
  | 0, t => t.its
  | h + 1, t => weave t.its (List.map (toL h) t.kds)
/-- lo to hi items at the top, m / 2 to m in each node below it; one child more than items. -/
def OkT (m : Nat) : (h : Nat) → (lo hi : Nat) → BT μ h → Prop
  | 0, lo, hi, t => (lo ≤ t.its.length ∧ t.its.length ≤ hi)
  | h + 1, lo, hi, t => (lo ≤ t.its.length ∧ t.its.length ≤ hi) ∧ t.cs.length = t.its.length + 1 ∧ ∀ c ∈ t.kds, OkT m h (m / 2) m c
def ids : (h : Nat) → BT μ h → List Nat
  | 0, t => [t.id]
  | h + 1, t => t.id :: t.kds.flatMap (ids h)
theorem id_mem (h : Nat) (t : BT μ h) : t.id ∈ ids h t := by
  cases h with
  | zero => exact List.mem_singleton.2 rfl
  | succ h => exact List.mem_cons_self
/-- A node as it lies: its keys, its numbers, the places of its children. -/
structure Nf (μ : Type) where
  ks : List μ
  vs : List Int
  cs : List Nat
def nf (its : List (μ × Int)) (cs : List Nat) : Nf μ := ⟨its.map (·.1), its.map (·.2), cs⟩
/-- The tree lies in a store of nodes. -/
def Tr (M : Nat → Option (Nf μ)) : (h : Nat) → BT μ h → Prop
  | 0, t => M t.id = some (nf t.its [])
  | h + 1, t => M t.id = some (nf t.its (List.map Nd.id t.kds)) ∧ ∀ c ∈ t.kds, Tr M h c
theorem Tr.congr {M M' : Nat → Option (Nf μ)} : {h : Nat} → {t : BT μ h} → Tr M h t → (∀ n ∈ ids h t, M' n = M n) → Tr M' h t
  | 0, t, ht, hm => (hm t.id (id_mem 0 t)).trans ht
  | h + 1, t, ht, hm => ⟨(hm t.id (id_mem (h + 1) t)).trans ht.1, fun c hc => (ht.2 c hc).congr (fun n hn => hm n (List.mem_cons_of_mem _ (List.mem_flatMap.2 ⟨c, hc, hn⟩)))⟩
theorem Tr.top {M : Nat → Option (Nf μ)} {h : Nat} {t : BT μ h} (ht : Tr M h t) : ∃ ks, M t.id = some (nf t.its ks) ∧ (h = 0 → ks = []) ∧ ks.length = t.cs.length := by
  cases h with
  | zero => exact ⟨[], ht, fun _ => rfl, by rcases t.cs with _ | ⟨c, _⟩; rfl; exact c.elim⟩
  | succ h => exact ⟨_, ht.1, (fun e => by cases e), List.length_map _⟩
theorem OkT.len {m h lo hi : Nat} {t : BT μ h} (ho : OkT m h lo hi t) : lo ≤ t.its.length ∧ t.its.length ≤ hi := by
  cases h with
  | zero => exact ho
  | succ h => exact ho.1
theorem OkT.kids {m h lo hi : Nat} {t : BT μ (h + 1)} (ho : OkT m (h + 1) lo hi t) : t.cs.length = t.its.length + 1 := ho.2.1
theorem OkT.weaken {m h lo hi lo' hi' : Nat} {t : BT μ h} (ho : OkT m h lo hi t) (h1 : lo' ≤ t.its.length) (h2 : t.its.length ≤ hi') : OkT m h lo' hi' t := by
  cases h with
  | zero => exact ⟨h1, h2⟩
  | succ h => exact ⟨⟨h1, h2⟩, ho.2⟩
theorem no_kids (t : BT μ 0) : t.cs = [] := by
  rcases h : t.cs with _ | ⟨c, _⟩
  · rfl
  · exact c.elim
theorem list_at {α : Type} (l : List α) {i : Nat} (h : i < l.length) : ∃ A c B, l = A ++ c :: B ∧ A.length = i ∧ B.length + i + 1 = l.length := by
  refine ⟨l.take i, l[i], l.drop (i + 1), ?_, ?_, ?_⟩
  · rw [List.getElem_cons_drop, List.take_append_drop]
  · rw [List.length_take]; omega
  · rw [List.length_drop]; omega
/-- A node at a child. -/
theorem node_at {h : Nat} {t : BT μ (h + 1)} (hk : t.cs.length = t.its.length + 1) {i : Nat} (hi : i ≤ t.its.length) :
    ∃ (I1 I2 : List (μ × Int)) (C1 : List (BT μ h)) (c : BT μ h) (C2 : List (BT μ h)), t.its = I1 ++ I2 ∧ t.kds = C1 ++ c :: C2 ∧ I1.length = i ∧ C1.length = i ∧ I2.length = C2.length := by
  have hk2 : t.kds.length = t.its.length + 1 := hk
  obtain ⟨C1, c, C2, e1, e2, e3⟩ := list_at t.kds (i := i) (by omega)
  refine ⟨t.its.take i, t.its.drop i, C1, c, C2, (List.take_append_drop _ _).symm, e1, ?_, e2, ?_⟩
  · rw [List.length_take]; omega
  · rw [List.length_drop]; omega
theorem toL_node {h : Nat} {n : Nat} {I1 I2 : List (μ × Int)} {C1 C2 : List (BT μ h)} {c : BT μ h} (h1 : C1.length = I1.length) (h2 : I2.length = C2.length) :
    toL (h + 1) (⟨n, I1 ++ I2, (C1 ++ c :: C2 : List (BT μ h))⟩ : BT μ (h + 1)) = preW (C1.map (toL h)) I1 ++ (toL h c ++ postW I2 (C2.map (toL h))) := by
  show weave (I1 ++ I2) (List.map (toL h) (C1 ++ c :: C2)) = _
  rw [List.map_append, List.map_cons]
  exact weave_mid (by rw [List.length_map]; exact h1) (by rw [List.length_map]; exact h2) _
theorem toL_item {h : Nat} {n : Nat} {I1 I2 : List (μ × Int)} {C1 C2 : List (BT μ h)} {c : BT μ h} {a : μ × Int} (h1 : C1.length = I1.length) :
    toL (h + 1) (⟨n, I1 ++ a :: I2, (C1 ++ c :: C2 : List (BT μ h))⟩ : BT μ (h + 1)) = (preW (C1.map (toL h)) I1 ++ toL h c) ++ a :: weave I2 (C2.map (toL h)) := by
  show weave (I1 ++ a :: I2) (List.map (toL h) (C1 ++ c :: C2)) = _
  rw [List.map_append, List.map_cons]
  exact weave_item (by rw [List.length_map]; exact h1) _ _
/-- The two halves of a node. -/
def halfL {h : Nat} (x : BT μ h) (q : Nat) : BT μ h := ⟨x.id, x.its.take q, x.cs.take (q + 1)⟩
def halfR {h : Nat} (y : Nat) (x : BT μ h) (q : Nat) : BT μ h := ⟨y, x.its.drop (q + 1), x.cs.drop (q + 1)⟩
theorem toL_half {m h lo hi : Nat} {x : BT μ h} (ho : OkT m h lo hi x) (y : Nat) {q : Nat} (hq : q < x.its.length) : toL h x = toL h (halfL x q) ++ x.its[q] :: toL h (halfR y x q) := by
  have e1 : x.its = x.its.take q ++ x.its[q] :: x.its.drop (q + 1) := by rw [List.getElem_cons_drop, List.take_append_drop]
  cases h with
  | zero => exact e1
  | succ h =>
    have hk := ho.kids
    show weave x.its (List.map (toL h) x.kds) = weave (x.its.take q) (List.map (toL h) (x.kds.take (q + 1))) ++ x.its[q] :: weave (x.its.drop (q + 1)) (List.map (toL h) (x.kds.drop (q + 1)))
    have e2 : List.map (toL h) x.kds = List.map (toL h) (x.kds.take (q + 1)) ++ List.map (toL h) (x.kds.drop (q + 1)) := by rw [← List.map_append, List.take_append_drop]
    rw [e2]
    conv => lhs; rw [e1]
    refine weave_part ?_ _
    rw [List.length_map, List.length_take, List.length_take]
    have : x.kds.length = x.cs.length := rfl
    omega
theorem half_ok {m h lo hi : Nat} {x : BT μ h} (ho : OkT m h lo hi x) (y : Nat) {q : Nat} (hq : q < x.its.length) :
    OkT m h q q (halfL x q) ∧ OkT m h (x.its.length - q - 1) (x.its.length - q - 1) (halfR y x q) := by
  have l1 : (x.its.take q).length = q := by rw [List.length_take]; omega
  have l2 : (x.its.drop (q + 1)).length = x.its.length - q - 1 := by rw [List.length_drop]; omega
  cases h with
  | zero => exact ⟨⟨by show q ≤ (x.its.take q).length; omega, by show (x.its.take q).length ≤ q; omega⟩, ⟨by show _ ≤ (x.its.drop (q + 1)).length; omega, by show (x.its.drop (q + 1)).length ≤ _; omega⟩⟩
  | succ h =>
    have hk := ho.kids
    refine ⟨⟨⟨by show q ≤ (x.its.take q).length; omega, by show (x.its.take q).length ≤ q; omega⟩, ?_, fun c hc => ho.2.2 c (List.mem_of_mem_take hc)⟩, ⟨⟨by show _ ≤ (x.its.drop (q + 1)).length; omega, by show (x.its.drop (q + 1)).length ≤ _; omega⟩, ?_, fun c hc => ho.2.2 c (List.mem_of_mem_drop hc)⟩⟩
    · show (x.cs.take (q + 1)).length = (x.its.take q).length + 1
      rw [List.length_take, l1]; omega
    · show (x.cs.drop (q + 1)).length = (x.its.drop (q + 1)).length + 1
      rw [List.length_drop, l2]; omega
theorem half_ids {h : Nat} (y : Nat) (x : BT μ h) (q : Nat) : (ids h (halfL x q) ++ ids h (halfR y x q)).Perm (y :: ids h x) := by
  cases h with
  | zero => exact List.Perm.swap _ _ _
  | succ h =>
    show ((x.id :: (x.kds.take (q + 1)).flatMap (ids h)) ++ (y :: (x.kds.drop (q + 1)).flatMap (ids h))).Perm (y :: x.id :: x.kds.flatMap (ids h))
    have e : x.kds.flatMap (ids h) = (x.kds.take (q + 1)).flatMap (ids h) ++ (x.kds.drop (q + 1)).flatMap (ids h) := by rw [← List.flatMap_append, List.take_append_drop]
    rw [e]
    refine List.Perm.trans List.perm_middle ?_
    exact List.Perm.refl _
end
end Go.Proofs.Ytfhonfeopkhdeaa
