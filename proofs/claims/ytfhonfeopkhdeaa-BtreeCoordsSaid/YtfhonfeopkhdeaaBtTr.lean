/-
  Layer 7 in plain terms: an order on lists of numbers; lists in order; trees whose leaves lie at one level. No program. No premise.
  Trees whose leaves lie at one level: plain. No program. No premise.
  Where a key is in a list in order, or would be. Plain. No premise.
  Trees in order: where a key goes, what stays. Plain. No premise.
  A node whose child is changed, or parted: plain. No premise.
  Two neighbours of a node while a key goes over, or while they become one: plain. No premise.
-/
import Derived.WalkKit
import Derived.Test.YtfhonfeopkhdeaaProg
namespace Go.Proofs.Ytfhonfeopkhdeaa
open Go.RowKit

/-- By the first number that differs; what begins a longer one comes first. -/
def cmpL : List Int → List Int → Int
  | [], [] => 0
  | [], _ :: _ => -1
  | _ :: _, [] => 1
  | x :: xs, y :: ys => if x < y then -1 else if y < x then 1 else cmpL xs ys
theorem cmpL_range (a b : List Int) : cmpL a b = -1 ∨ cmpL a b = 0 ∨ cmpL a b = 1 := by
  induction a generalizing b with
  | nil => cases b <;> simp [cmpL]
  | cons x xs ih =>
    cases b with
    | nil => simp [cmpL]
    | cons y ys =>
      unfold cmpL
      split
      · exact .inl rfl
      · split
        · exact .inr (.inr rfl)
        · exact ih ys
theorem cmpL_self (a : List Int) : cmpL a a = 0 := by
  induction a with
  | nil => rfl
  | cons x xs ih => simp [cmpL, ih]
theorem cmpL_eq {a b : List Int} (h : cmpL a b = 0) : a = b := by
  induction a generalizing b with
  | nil => cases b with
    | nil => rfl
    | cons y ys => simp [cmpL] at h
  | cons x xs ih =>
    cases b with
    | nil => simp [cmpL] at h
    | cons y ys =>
      unfold cmpL at h
      split at h
      · cases h
      · split at h
        · cases h
        · rw [ih h, show x = y by omega]
theorem cmpL_swap (a b : List Int) : cmpL b a = - cmpL a b := by
  induction a generalizing b with
  | nil => cases b <;> rfl
  | cons x xs ih =>
    cases b with
    | nil => rfl
    | cons y ys =>
      unfold cmpL
      by_cases h1 : x < y
      · rw [if_pos h1, if_neg (by omega), if_pos h1]; rfl
      · by_cases h2 : y < x
        · rw [if_pos h2, if_neg h1, if_pos h2]
        · rw [if_neg h2, if_neg h1, if_neg h1, if_neg h2]
          exact ih ys
theorem cmpL_trans {a b c : List Int} (h1 : cmpL a b < 0) (h2 : cmpL b c < 0) : cmpL a c < 0 := by
  induction a generalizing b c with
  | nil => cases c with
    | nil => cases b <;> simp [cmpL] at h1 h2
    | cons z zs => simp [cmpL]
  | cons x xs ih =>
    cases b with
    | nil => simp [cmpL] at h1
    | cons y ys =>
      cases c with
      | nil => simp [cmpL] at h2
      | cons z zs =>
        unfold cmpL at h1 h2 ⊢
        by_cases e1 : x < y
        · by_cases e2 : y < z
          · rw [if_pos (by omega)]; decide
          · rw [if_neg e2] at h2
            by_cases e3 : z < y
            · rw [if_pos e3] at h2; simp at h2
            · rw [if_pos (by omega)]; decide
        · rw [if_neg e1] at h1
          by_cases e3 : y < x
          · rw [if_pos e3] at h1; simp at h1
          · rw [if_neg e3] at h1
            by_cases e2 : y < z
            · rw [if_pos (by omega)]; decide
            · rw [if_neg e2] at h2
              by_cases e4 : z < y
              · rw [if_pos e4] at h2; simp at h2
              · rw [if_neg e4] at h2
                rw [if_neg (by omega), if_neg (by omega)]
                exact ih h1 h2

section
variable {μ : Type} (ct : μ → List Int)
/-- How two keys stand. -/
def kc (a b : μ) : Int := cmpL (ct a) (ct b)
theorem kc_swap (a b : μ) : kc ct b a = - kc ct a b := cmpL_swap _ _
theorem kc_trans {a b c : μ} (h1 : kc ct a b < 0) (h2 : kc ct b c < 0) : kc ct a c < 0 := cmpL_trans h1 h2
theorem kc_same {a b c : μ} (h1 : kc ct a b = 0) : kc ct a c = kc ct b c := by unfold kc at *; rw [cmpL_eq h1]
theorem kc_same' {a b c : μ} (h1 : kc ct a b = 0) : kc ct c a = kc ct c b := by unfold kc at *; rw [cmpL_eq h1]
def SortedL (l : List (μ × Int)) : Prop := l.Pairwise fun a b => kc ct a.1 b.1 < 0
/-- A key gets a number; the old key stays. -/
def insL (k : μ) (v : Int) : List (μ × Int) → List (μ × Int)
  | [] => [(k, v)]
  | a :: r => if kc ct k a.1 < 0 then (k, v) :: a :: r else if kc ct k a.1 = 0 then (a.1, v) :: r else a :: insL k v r
def delL (k : μ) : List (μ × Int) → List (μ × Int)
  | [] => []
  | a :: r => if kc ct k a.1 < 0 then a :: r else if kc ct k a.1 = 0 then r else a :: delL k r
def getL (k : μ) : List (μ × Int) → Option Int
  | [] => none
  | a :: r => if kc ct k a.1 < 0 then none else if kc ct k a.1 = 0 then some a.2 else getL k r
/-- All lie ahead of a key; all lie behind it. -/
def Lo (l : List (μ × Int)) (k : μ) : Prop := ∀ a ∈ l, kc ct a.1 k < 0
def Hi (l : List (μ × Int)) (k : μ) : Prop := ∀ a ∈ l, kc ct k a.1 < 0
variable {ct}
theorem lo_gt {a : μ} {k : μ} (h : kc ct a k < 0) : ¬ kc ct k a < 0 ∧ ¬ kc ct k a = 0 := by
  have := kc_swap ct a k
  omega
theorem insL_lo {A r : List (μ × Int)} {k : μ} {v : Int} (h : Lo ct A k) : insL ct k v (A ++ r) = A ++ insL ct k v r := by
  induction A with
  | nil => rfl
  | cons a A ih =>
    have h1 := lo_gt (h a List.mem_cons_self)
    rw [List.cons_append, insL, if_neg h1.1, if_neg h1.2, ih (fun x hx => h x (List.mem_cons_of_mem _ hx))]
    rfl
theorem delL_lo {A r : List (μ × Int)} {k : μ} (h : Lo ct A k) : delL ct k (A ++ r) = A ++ delL ct k r := by
  induction A with
  | nil => rfl
  | cons a A ih =>
    have h1 := lo_gt (h a List.mem_cons_self)
    rw [List.cons_append, delL, if_neg h1.1, if_neg h1.2, ih (fun x hx => h x (List.mem_cons_of_mem _ hx))]
    rfl
theorem getL_lo {A r : List (μ × Int)} {k : μ} (h : Lo ct A k) : getL ct k (A ++ r) = getL ct k r := by
  induction A with
  | nil => rfl
  | cons a A ih =>
    have h1 := lo_gt (h a List.mem_cons_self)
    rw [List.cons_append, getL, if_neg h1.1, if_neg h1.2, ih (fun x hx => h x (List.mem_cons_of_mem _ hx))]
theorem insL_hi {M B : List (μ × Int)} {k : μ} {v : Int} (h : Hi ct B k) : insL ct k v (M ++ B) = insL ct k v M ++ B := by
  induction M with
  | nil =>
    cases B with
    | nil => rfl
    | cons b B =>
      show insL ct k v (b :: B) = (k, v) :: b :: B
      rw [insL, if_pos (h b List.mem_cons_self)]
  | cons a M ih =>
    rw [List.cons_append, insL, insL]
    split
    · rfl
    · split
      · rfl
      · rw [ih]; rfl
theorem delL_hi {M B : List (μ × Int)} {k : μ} (h : Hi ct B k) : delL ct k (M ++ B) = delL ct k M ++ B := by
  induction M with
  | nil =>
    cases B with
    | nil => rfl
    | cons b B =>
      show delL ct k (b :: B) = b :: B
      rw [delL, if_pos (h b List.mem_cons_self)]
  | cons a M ih =>
    rw [List.cons_append, delL, delL]
    split
    · rfl
    · split
      · rfl
      · rw [ih]; rfl
theorem getL_hi {M B : List (μ × Int)} {k : μ} (h : Hi ct B k) : getL ct k (M ++ B) = getL ct k M := by
  induction M with
  | nil =>
    cases B with
    | nil => rfl
    | cons b B =>
      show getL ct k (b :: B) = none
      rw [getL, if_pos (h b List.mem_cons_self)]
  | cons a M ih =>
    rw [List.cons_append, getL, getL]
    split
    · rfl
    · split
      · rfl
      · exact ih
theorem insL_at {A B : List (μ × Int)} {k : μ} {a : μ × Int} {v : Int} (h : Lo ct A k) (ha : kc ct k a.1 = 0) : insL ct k v (A ++ a :: B) = A ++ (a.1, v) :: B := by
  rw [insL_lo h, insL, if_neg (by omega), if_pos ha]
theorem delL_at {A B : List (μ × Int)} {k : μ} {a : μ × Int} (h : Lo ct A k) (ha : kc ct k a.1 = 0) : delL ct k (A ++ a :: B) = A ++ B := by
  rw [delL_lo h, delL, if_neg (by omega), if_pos ha]
theorem getL_at {A B : List (μ × Int)} {k : μ} {a : μ × Int} (h : Lo ct A k) (ha : kc ct k a.1 = 0) : getL ct k (A ++ a :: B) = some a.2 := by
  rw [getL_lo h, getL, if_neg (by omega), if_pos ha]
theorem insL_new {A B : List (μ × Int)} {k : μ} {v : Int} (h : Lo ct A k) (hB : Hi ct B k) : insL ct k v (A ++ B) = A ++ (k, v) :: B := by
  rw [insL_lo h]
  cases B with
  | nil => rfl
  | cons b B => rw [insL, if_pos (hB b List.mem_cons_self)]
theorem getL_new {A B : List (μ × Int)} {k : μ} (h : Lo ct A k) (hB : Hi ct B k) : getL ct k (A ++ B) = none := by
  rw [getL_lo h]
  cases B with
  | nil => rfl
  | cons b B => rw [getL, if_pos (hB b List.mem_cons_self)]
theorem Lo.append {A B : List (μ × Int)} {k : μ} (h : Lo ct A k) (h2 : Lo ct B k) : Lo ct (A ++ B) k := fun x hx => (List.mem_append.1 hx).elim (h x) (h2 x)
theorem Hi.append {A B : List (μ × Int)} {k : μ} (h : Hi ct A k) (h2 : Hi ct B k) : Hi ct (A ++ B) k := fun x hx => (List.mem_append.1 hx).elim (h x) (h2 x)
/-- What lies ahead of an item that is not behind the key lies ahead of the key. -/
theorem lo_before {A B : List (μ × Int)} {a : μ × Int} {k : μ} (hs : SortedL ct (A ++ a :: B)) (h : kc ct a.1 k ≤ 0) : Lo ct A k := fun x hx => by
  have h1 : kc ct x.1 a.1 < 0 := (List.pairwise_append.1 hs).2.2 x hx a List.mem_cons_self
  rcases Int.lt_or_eq_of_le h with h2 | h2
  · exact kc_trans ct h1 h2
  · rw [← kc_same' ct h2]; exact h1
theorem hi_behind {A B : List (μ × Int)} {a : μ × Int} {k : μ} (hs : SortedL ct (A ++ a :: B)) (h : kc ct k a.1 ≤ 0) : Hi ct B k := fun x hx => by
  have h1 : kc ct a.1 x.1 < 0 := (List.pairwise_cons.1 (List.pairwise_append.1 hs).2.1).1 x hx
  rcases Int.lt_or_eq_of_le h with h2 | h2
  · exact kc_trans ct h2 h1
  · rw [kc_same ct h2]; exact h1
theorem sorted_mid {A M B : List (μ × Int)} (h : SortedL ct (A ++ (M ++ B))) : SortedL ct M := (List.pairwise_append.1 (List.pairwise_append.1 h).2.1).1
theorem insL_length (k : μ) (v : Int) (l : List (μ × Int)) : (insL ct k v l).length = if (getL ct k l).isSome then l.length else l.length + 1 := by
  induction l with
  | nil => rfl
  | cons a r ih =>
    rw [insL, getL]
    split
    · rfl
    · split
      · rfl
      · rw [List.length_cons, ih]; split <;> rfl
theorem delL_length (k : μ) (l : List (μ × Int)) : (delL ct k l).length = if (getL ct k l).isSome then l.length - 1 else l.length := by
  induction l with
  | nil => rfl
  | cons a r ih =>
    rw [delL, getL]
    split
    · rfl
    · split
      · simp
      · rw [List.length_cons, ih]
        split
        · next h =>
          cases r with
          | nil => simp [getL] at h
          | cons b r => simp
        · rfl
/-- Keys of a list are keys of the list, with the new one. -/
theorem insL_mem {k : μ} {v : Int} {l : List (μ × Int)} {x : μ × Int} (h : x ∈ insL ct k v l) : x.1 = k ∨ ∃ y ∈ l, y.1 = x.1 := by
  induction l with
  | nil => simp [insL] at h; exact .inl (by rw [h])
  | cons a r ih =>
    rw [insL] at h
    split at h
    · rcases List.mem_cons.1 h with h | h
      · exact .inl (by rw [h])
      · exact .inr ⟨x, h, rfl⟩
    · split at h
      · rcases List.mem_cons.1 h with h | h
        · exact .inr ⟨a, List.mem_cons_self, by rw [h]⟩
        · exact .inr ⟨x, List.mem_cons_of_mem _ h, rfl⟩
      · rcases List.mem_cons.1 h with h | h
        · exact .inr ⟨a, List.mem_cons_self, by rw [h]⟩
        · rcases ih h with h2 | ⟨y, hy, h2⟩
          · exact .inl h2
          · exact .inr ⟨y, List.mem_cons_of_mem _ hy, h2⟩
theorem delL_mem {k : μ} {l : List (μ × Int)} {x : μ × Int} (h : x ∈ delL ct k l) : x ∈ l := by
  induction l with
  | nil => exact h
  | cons a r ih =>
    rw [delL] at h
    split at h
    · exact h
    · split at h
      · exact List.mem_cons_of_mem _ h
      · rcases List.mem_cons.1 h with h | h
        · rw [h]; exact List.mem_cons_self
        · exact List.mem_cons_of_mem _ (ih h)
theorem insL_sorted {k : μ} {v : Int} {l : List (μ × Int)} (hs : SortedL ct l) : SortedL ct (insL ct k v l) := by
  induction l with
  | nil => exact List.pairwise_singleton _ _
  | cons a r ih =>
    obtain ⟨h1, h2⟩ := List.pairwise_cons.1 hs
    rw [insL]
    split
    · next h =>
      refine List.pairwise_cons.2 ⟨fun x hx => ?_, hs⟩
      rcases List.mem_cons.1 hx with e | hx
      · rw [e]; exact h
      · exact kc_trans ct h (h1 x hx)
    · split
      · exact List.pairwise_cons.2 ⟨h1, h2⟩
      · next h3 h4 =>
        refine List.pairwise_cons.2 ⟨fun x hx => ?_, ih h2⟩
        rcases insL_mem hx with e | ⟨y, hy, e⟩
        · rw [e]; have := kc_swap ct k a.1; omega
        · rw [← e]; exact h1 y hy
theorem delL_sorted {k : μ} {l : List (μ × Int)} (hs : SortedL ct l) : SortedL ct (delL ct k l) := by
  induction l with
  | nil => exact hs
  | cons a r ih =>
    obtain ⟨h1, h2⟩ := List.pairwise_cons.1 hs
    rw [delL]
    split
    · exact hs
    · split
      · exact h2
      · exact List.pairwise_cons.2 ⟨fun x hx => h1 x (delL_mem hx), ih h2⟩
end
end Go.Proofs.Ytfhonfeopkhdeaa

namespace Go.Proofs.Ytfhonfeopkhdeaa
open Go.RowKit

structure Nd (μ α : Type) where
  id : Nat
  its : List (μ × Int)
  cs : List α
/-- What a node of height h has below it. -/
def Sub (μ : Type) : Nat → Type
  | 0 => Empty
  | h + 1 => Nd μ (Sub μ h)
abbrev BT (μ : Type) (h : Nat) := Nd μ (Sub μ h)
/-- A node's children, as trees. -/
def Nd.kds {μ : Type} {h : Nat} (t : BT μ (h + 1)) : List (BT μ h) := t.cs
section
variable {β : Type}
def weave : List β → List (List β) → List β
  | _, [] => []
  | [], c :: _ => c
  | a :: I, c :: C => c ++ a :: weave I C
def preW (C : List (List β)) (I : List β) : List β := (List.zipWith (fun c a => c ++ [a]) C I).flatten
def postW (I : List β) (C : List (List β)) : List β := (List.zipWith (fun a c => a :: c) I C).flatten
theorem weave_pre {C1 : List (List β)} {I1 : List β} (h : C1.length = I1.length) (I2 : List β) (c : List β) (C2 : List (List β)) : weave (I1 ++ I2) (C1 ++ c :: C2) = preW C1 I1 ++ weave I2 (c :: C2) := by
  induction C1 generalizing I1 with
  | nil =>
    have : I1 = [] := List.eq_nil_of_length_eq_zero h.symm
    subst this
    rfl
  | cons d C1 ih =>
    cases I1 with
    | nil => simp at h
    | cons a I1 =>
      have e := ih (I1 := I1) (by simpa using h)
      show d ++ a :: weave (I1 ++ I2) (C1 ++ c :: C2) = _
      rw [e]
      simp [preW]
theorem weave_post {I2 : List β} {C2 : List (List β)} (h : I2.length = C2.length) (c : List β) : weave I2 (c :: C2) = c ++ postW I2 C2 := by
  induction I2 generalizing c C2 with
  | nil =>
    have : C2 = [] := List.eq_nil_of_length_eq_zero h.symm
    subst this
    simp [weave, postW]
  | cons a I2 ih =>
    cases C2 with
    | nil => simp at h
    | cons d C2 =>
      show c ++ a :: weave I2 (d :: C2) = _
      rw [ih (by simpa using h)]
      simp [postW]
theorem weave_mid {C1 : List (List β)} {I1 I2 : List β} {C2 : List (List β)} (h1 : C1.length = I1.length) (h2 : I2.length = C2.length) (c : List β) : weave (I1 ++ I2) (C1 ++ c :: C2) = preW C1 I1 ++ (c ++ postW I2 C2) := by
  rw [weave_pre h1, weave_post h2]
/-- An item, with all ahead of it and all behind it. -/
theorem weave_item {C1 : List (List β)} {I1 I2 : List β} {C2 : List (List β)} (h1 : C1.length = I1.length) (c : List β) (a : β) : weave (I1 ++ a :: I2) (C1 ++ c :: C2) = (preW C1 I1 ++ c) ++ a :: weave I2 C2 := by
  rw [weave_pre h1]
  simp [weave]
theorem preW_last {C1 : List (List β)} {I1 : List β} (h : C1.length = I1.length) (hn : I1 ≠ []) : ∃ X I0 a, I1 = I0 ++ [a] ∧ preW C1 I1 = X ++ [a] := by
  induction C1 generalizing I1 with
  | nil => exact absurd (List.eq_nil_of_length_eq_zero h.symm) hn
  | cons d C1 ih =>
    cases I1 with
    | nil => exact absurd rfl hn
    | cons a I1 =>
      cases I1 with
      | nil =>
        have : C1 = [] := List.eq_nil_of_length_eq_zero (by simpa using h)
        subst this
        exact ⟨d, [], a, rfl, by simp [preW]⟩
      | cons b I1 =>
        obtain ⟨X, I0, z, e1, e2⟩ := ih (I1 := b :: I1) (by simpa using h) (by simp)
        refine ⟨d ++ a :: X, a :: I0, z, by rw [e1]; rfl, ?_⟩
        have : preW (d :: C1) (a :: b :: I1) = (d ++ [a]) ++ preW C1 (b :: I1) := by simp [preW]
        rw [this, e2]
        simp
theorem postW_first {I2 : List β} {C2 : List (List β)} (h : I2.length = C2.length) (hn : I2 ≠ []) : ∃ a I0 X, I2 = a :: I0 ∧ postW I2 C2 = a :: X := by
  cases I2 with
  | nil => exact absurd rfl hn
  | cons a I2 =>
    cases C2 with
    | nil => simp at h
    | cons d C2 => exact ⟨a, I2, d ++ postW I2 C2, rfl, by simp [postW]⟩
/-- A node parted at an item. -/
theorem weave_part {J1 J2 : List β} {D1 D2 : List (List β)} (h1 : D1.length = J1.length + 1) (a : β) : weave (J1 ++ a :: J2) (D1 ++ D2) = weave J1 D1 ++ a :: weave J2 D2 := by
  induction J1 generalizing D1 with
  | nil =>
    cases D1 with
    | nil => simp at h1
    | cons d D1 =>
      have : D1 = [] := List.eq_nil_of_length_eq_zero (by simpa using h1)
      subst this
      rfl
  | cons b J1 ih =>
    cases D1 with
    | nil => simp at h1
    | cons d D1 =>
      show d ++ b :: weave (J1 ++ a :: J2) (D1 ++ D2) = _
      rw [ih (by simpa using h1)]
      show _ = (d ++ b :: weave J1 D1) ++ _
      simp
end
section
variable {μ : Type}
/-- All items, in order. -/
def toL : (h : Nat) → BT μ h → List (μ × Int)
  | 0, t => t.its
  | h + 1, t => weave t.its (List.map (toL h) t.kds)
/-- lo to hi items at the top, m / 2 to m in each node below it; one child more than items. -/
def OkT (m : Nat) : (h : Nat) → (lo hi : Nat) → BT μ h → Prop
  | 0, lo, hi, t => (lo ≤ t.its.length ∧ t.its.length ≤ hi)
  | h + 1, lo, hi, t => (lo ≤ t.its.length ∧ t.its.length ≤ hi) ∧ t.cs.length = t.its.length + 1 ∧ ∀ c ∈ t.kds, OkT m h (m / 2) m c
def ids : (h : Nat) → BT μ h → List Nat
  | 0, t => [t.id]
  | h + 1, t => t.id :: t.kds.flatMap (ids h)
theorem id_mem (h : Nat) (t : BT μ h) : t.id ∈ ids h t := by
  cases h with
  | zero => exact List.mem_singleton.2 rfl
  | succ h => exact List.mem_cons_self
/-- A node as it lies: its keys, its numbers, the places of its children. -/
structure Nf (μ : Type) where
  ks : List μ
  vs : List Int
  cs : List Nat
def nf (its : List (μ × Int)) (cs : List Nat) : Nf μ := ⟨its.map (·.1), its.map (·.2), cs⟩
/-- The tree lies in a store of nodes. -/
def Tr (M : Nat → Option (Nf μ)) : (h : Nat) → BT μ h → Prop
  | 0, t => M t.id = some (nf t.its [])
  | h + 1, t => M t.id = some (nf t.its (List.map Nd.id t.kds)) ∧ ∀ c ∈ t.kds, Tr M h c
theorem Tr.congr {M M' : Nat → Option (Nf μ)} : {h : Nat} → {t : BT μ h} → Tr M h t → (∀ n ∈ ids h t, M' n = M n) → Tr M' h t
  | 0, t, ht, hm => (hm t.id (id_mem 0 t)).trans ht
  | h + 1, t, ht, hm => ⟨(hm t.id (id_mem (h + 1) t)).trans ht.1, fun c hc => (ht.2 c hc).congr (fun n hn => hm n (List.mem_cons_of_mem _ (List.mem_flatMap.2 ⟨c, hc, hn⟩)))⟩
theorem Tr.top {M : Nat → Option (Nf μ)} {h : Nat} {t : BT μ h} (ht : Tr M h t) : ∃ ks, M t.id = some (nf t.its ks) ∧ (h = 0 → ks = []) ∧ ks.length = t.cs.length := by
  cases h with
  | zero => exact ⟨[], ht, fun _ => rfl, by rcases t.cs with _ | ⟨c, _⟩; rfl; exact c.elim⟩
  | succ h => exact ⟨_, ht.1, (fun e => by cases e), List.length_map _⟩
theorem OkT.len {m h lo hi : Nat} {t : BT μ h} (ho : OkT m h lo hi t) : lo ≤ t.its.length ∧ t.its.length ≤ hi := by
  cases h with
  | zero => exact ho
  | succ h => exact ho.1
theorem OkT.kids {m h lo hi : Nat} {t : BT μ (h + 1)} (ho : OkT m (h + 1) lo hi t) : t.cs.length = t.its.length + 1 := ho.2.1
theorem OkT.weaken {m h lo hi lo' hi' : Nat} {t : BT μ h} (ho : OkT m h lo hi t) (h1 : lo' ≤ t.its.length) (h2 : t.its.length ≤ hi') : OkT m h lo' hi' t := by
  cases h with
  | zero => exact ⟨h1, h2⟩
  | succ h => exact ⟨⟨h1, h2⟩, ho.2⟩
theorem no_kids (t : BT μ 0) : t.cs = [] := by
  rcases h : t.cs with _ | ⟨c, _⟩
  · rfl
  · exact c.elim
theorem list_at {α : Type} (l : List α) {i : Nat} (h : i < l.length) : ∃ A c B, l = A ++ c :: B ∧ A.length = i ∧ B.length + i + 1 = l.length := by
  refine ⟨l.take i, l[i], l.drop (i + 1), ?_, ?_, ?_⟩
  · rw [List.getElem_cons_drop, List.take_append_drop]
  · rw [List.length_take]; omega
  · rw [List.length_drop]; omega
/-- A node at a child. -/
theorem node_at {h : Nat} {t : BT μ (h + 1)} (hk : t.cs.length = t.its.length + 1) {i : Nat} (hi : i ≤ t.its.length) :
    ∃ (I1 I2 : List (μ × Int)) (C1 : List (BT μ h)) (c : BT μ h) (C2 : List (BT μ h)), t.its = I1 ++ I2 ∧ t.kds = C1 ++ c :: C2 ∧ I1.length = i ∧ C1.length = i ∧ I2.length = C2.length := by
  have hk2 : t.kds.length = t.its.length + 1 := hk
  obtain ⟨C1, c, C2, e1, e2, e3⟩ := list_at t.kds (i := i) (by omega)
  refine ⟨t.its.take i, t.its.drop i, C1, c, C2, (List.take_append_drop _ _).symm, e1, ?_, e2, ?_⟩
  · rw [List.length_take]; omega
  · rw [List.length_drop]; omega
theorem toL_node {h : Nat} {n : Nat} {I1 I2 : List (μ × Int)} {C1 C2 : List (BT μ h)} {c : BT μ h} (h1 : C1.length = I1.length) (h2 : I2.length = C2.length) :
    toL (h + 1) (⟨n, I1 ++ I2, (C1 ++ c :: C2 : List (BT μ h))⟩ : BT μ (h + 1)) = preW (C1.map (toL h)) I1 ++ (toL h c ++ postW I2 (C2.map (toL h))) := by
  show weave (I1 ++ I2) (List.map (toL h) (C1 ++ c :: C2)) = _
  rw [List.map_append, List.map_cons]
  exact weave_mid (by rw [List.length_map]; exact h1) (by rw [List.length_map]; exact h2) _
theorem toL_item {h : Nat} {n : Nat} {I1 I2 : List (μ × Int)} {C1 C2 : List (BT μ h)} {c : BT μ h} {a : μ × Int} (h1 : C1.length = I1.length) :
    toL (h + 1) (⟨n, I1 ++ a :: I2, (C1 ++ c :: C2 : List (BT μ h))⟩ : BT μ (h + 1)) = (preW (C1.map (toL h)) I1 ++ toL h c) ++ a :: weave I2 (C2.map (toL h)) := by
  show weave (I1 ++ a :: I2) (List.map (toL h) (C1 ++ c :: C2)) = _
  rw [List.map_append, List.map_cons]
  exact weave_item (by rw [List.length_map]; exact h1) _ _
/-- The two halves of a node. -/
def halfL {h : Nat} (x : BT μ h) (q : Nat) : BT μ h := ⟨x.id, x.its.take q, x.cs.take (q + 1)⟩
def halfR {h : Nat} (y : Nat) (x : BT μ h) (q : Nat) : BT μ h := ⟨y, x.its.drop (q + 1), x.cs.drop (q + 1)⟩
theorem toL_half {m h lo hi : Nat} {x : BT μ h} (ho : OkT m h lo hi x) (y : Nat) {q : Nat} (hq : q < x.its.length) : toL h x = toL h (halfL x q) ++ x.its[q] :: toL h (halfR y x q) := by
  have e1 : x.its = x.its.take q ++ x.its[q] :: x.its.drop (q + 1) := by rw [List.getElem_cons_drop, List.take_append_drop]
  cases h with
  | zero => exact e1
  | succ h =>
    have hk := ho.kids
    show weave x.its (List.map (toL h) x.kds) = weave (x.its.take q) (List.map (toL h) (x.kds.take (q + 1))) ++ x.its[q] :: weave (x.its.drop (q + 1)) (List.map (toL h) (x.kds.drop (q + 1)))
    have e2 : List.map (toL h) x.kds = List.map (toL h) (x.kds.take (q + 1)) ++ List.map (toL h) (x.kds.drop (q + 1)) := by rw [← List.map_append, List.take_append_drop]
    rw [e2]
    conv => lhs; rw [e1]
    refine weave_part ?_ _
    rw [List.length_map, List.length_take, List.length_take]
    have : x.kds.length = x.cs.length := rfl
    omega
theorem half_ok {m h lo hi : Nat} {x : BT μ h} (ho : OkT m h lo hi x) (y : Nat) {q : Nat} (hq : q < x.its.length) :
    OkT m h q q (halfL x q) ∧ OkT m h (x.its.length - q - 1) (x.its.length - q - 1) (halfR y x q) := by
  have l1 : (x.its.take q).length = q := by rw [List.length_take]; omega
  have l2 : (x.its.drop (q + 1)).length = x.its.length - q - 1 := by rw [List.length_drop]; omega
  cases h with
  | zero => exact ⟨⟨by show q ≤ (x.its.take q).length; omega, by show (x.its.take q).length ≤ q; omega⟩, ⟨by show _ ≤ (x.its.drop (q + 1)).length; omega, by show (x.its.drop (q + 1)).length ≤ _; omega⟩⟩
  | succ h =>
    have hk := ho.kids
    refine ⟨⟨⟨by show q ≤ (x.its.take q).length; omega, by show (x.its.take q).length ≤ q; omega⟩, ?_, fun c hc => ho.2.2 c (List.mem_of_mem_take hc)⟩, ⟨⟨by show _ ≤ (x.its.drop (q + 1)).length; omega, by show (x.its.drop (q + 1)).length ≤ _; omega⟩, ?_, fun c hc => ho.2.2 c (List.mem_of_mem_drop hc)⟩⟩
    · show (x.cs.take (q + 1)).length = (x.its.take q).length + 1
      rw [List.length_take, l1]; omega
    · show (x.cs.drop (q + 1)).length = (x.its.drop (q + 1)).length + 1
      rw [List.length_drop, l2]; omega
theorem half_ids {h : Nat} (y : Nat) (x : BT μ h) (q : Nat) : (ids h (halfL x q) ++ ids h (halfR y x q)).Perm (y :: ids h x) := by
  cases h with
  | zero => exact List.Perm.swap _ _ _
  | succ h =>
    show ((x.id :: (x.kds.take (q + 1)).flatMap (ids h)) ++ (y :: (x.kds.drop (q + 1)).flatMap (ids h))).Perm (y :: x.id :: x.kds.flatMap (ids h))
    have e : x.kds.flatMap (ids h) = (x.kds.take (q + 1)).flatMap (ids h) ++ (x.kds.drop (q + 1)).flatMap (ids h) := by rw [← List.flatMap_append, List.take_append_drop]
    rw [e]
    refine List.Perm.trans List.perm_middle ?_
    exact List.Perm.refl _
end
end Go.Proofs.Ytfhonfeopkhdeaa

namespace Go.Proofs.Ytfhonfeopkhdeaa
open Go.RowKit

section
variable {μ : Type} (ct : μ → List Int)
/-- Where a key is in a list, or would be. -/
def At (l : List (μ × Int)) (k : μ) (i : Nat) (is : Bool) : Prop :=
  ∃ A B, l = A ++ B ∧ A.length = i ∧ Lo ct A k ∧ ((is = true ∧ ∃ a B', B = a :: B' ∧ kc ct k a.1 = 0) ∨ (is = false ∧ Hi ct B k))
variable {ct}
theorem At.le {l : List (μ × Int)} {k : μ} {i : Nat} {is : Bool} (h : At ct l k i is) : i ≤ l.length := by
  obtain ⟨A, B, rfl, rfl, _⟩ := h
  simp
theorem At.lt {l : List (μ × Int)} {k : μ} {i : Nat} (h : At ct l k i true) : i < l.length := by
  obtain ⟨A, B, rfl, rfl, _, h | h⟩ := h
  · obtain ⟨_, a, B', rfl, _⟩ := h
    simp
  · cases h.1
theorem at_of {l : List (μ × Int)} {k : μ} (hs : SortedL ct l) (i : Nat) (hi : i ≤ l.length) (h1 : ∀ j (hj : j < l.length), j < i → kc ct (l[j]).1 k < 0) (h2 : ∀ hj : i < l.length, 0 ≤ kc ct (l[i]).1 k) (is : Bool) (h3 : ∀ hj : i < l.length, is = decide (kc ct (l[i]).1 k = 0)) (h4 : i = l.length → is = false) : At ct l k i is := by
  have hlo : Lo ct (l.take i) k := fun a ha => by
    obtain ⟨j, hj, e⟩ := List.mem_iff_getElem.1 ha
    rw [List.length_take] at hj
    rw [List.getElem_take] at e
    rw [← e]
    exact h1 j (by omega) (by omega)
  refine ⟨l.take i, l.drop i, (List.take_append_drop _ _).symm, by rw [List.length_take]; omega, hlo, ?_⟩
  by_cases he : i < l.length
  · have e1 : l = l.take i ++ l[i] :: l.drop (i + 1) := by rw [List.getElem_cons_drop, List.take_append_drop]
    have h5 := h3 he
    have h6 := h2 he
    have hsw := kc_swap ct (l[i]).1 k
    by_cases h0 : kc ct (l[i]).1 k = 0
    · refine .inl ⟨by rw [h5]; exact decide_eq_true h0, _, _, List.drop_eq_getElem_cons he, by omega⟩
    · refine .inr ⟨by rw [h5]; exact decide_eq_false h0, ?_⟩
      rw [List.drop_eq_getElem_cons he]
      intro x hx
      rcases List.mem_cons.1 hx with rfl | hx
      · omega
      · rw [e1] at hs
        exact hi_behind hs (by omega) x hx
  · have : l.drop i = [] := List.drop_eq_nil_of_le (by omega)
    rw [this]
    exact .inr ⟨h4 (by omega), fun x hx => by cases hx⟩
theorem sorted_lt {l : List (μ × Int)} {k : μ} (hs : SortedL ct l) {i j : Nat} (hi : i < l.length) (hj : j < l.length) (h : i ≤ j) : (kc ct (l[j]).1 k < 0 → kc ct (l[i]).1 k < 0) ∧ (0 ≤ kc ct (l[i]).1 k → 0 ≤ kc ct (l[j]).1 k) := by
  rcases Nat.lt_or_eq_of_le h with h | rfl
  · have h1 : kc ct (l[i]).1 (l[j]).1 < 0 := List.pairwise_iff_getElem.1 hs i j hi hj h
    have a1 : kc ct (l[j]).1 k < 0 → kc ct (l[i]).1 k < 0 := fun h2 => kc_trans ct h1 h2
    refine ⟨a1, fun h2 => ?_⟩
    by_cases h3 : kc ct (l[j]).1 k < 0
    · have := a1 h3; omega
    · omega
  · exact ⟨id, id⟩
theorem at_exists {k : μ} : ∀ {l : List (μ × Int)}, SortedL ct l → ∃ i is, At ct l k i is
  | [], _ => ⟨0, false, [], [], rfl, rfl, (fun _ h => by cases h), .inr ⟨rfl, fun _ h => by cases h⟩⟩
  | a :: r, hs => by
    obtain ⟨h1, h2⟩ := List.pairwise_cons.1 hs
    by_cases c1 : kc ct k a.1 < 0
    · exact ⟨0, false, [], a :: r, rfl, rfl, (fun _ h => by cases h), .inr ⟨rfl, fun x hx => by
        rcases List.mem_cons.1 hx with rfl | hx
        · exact c1
        · exact kc_trans ct c1 (h1 x hx)⟩⟩
    · by_cases c2 : kc ct k a.1 = 0
      · exact ⟨0, true, [], a :: r, rfl, rfl, (fun _ h => by cases h), .inl ⟨rfl, a, r, rfl, c2⟩⟩
      · obtain ⟨i, is, A, B, e, hl, hlo, hc⟩ := at_exists (k := k) h2
        refine ⟨i + 1, is, a :: A, B, by rw [e]; rfl, by rw [List.length_cons, hl], fun x hx => ?_, hc⟩
        rcases List.mem_cons.1 hx with rfl | hx
        · have := kc_swap ct k x.1; omega
        · exact hlo x hx
theorem at_not {l : List (μ × Int)} {k : μ} {i j : Nat} {is js : Bool} (h1 : At ct l k i is) (h2 : At ct l k j js) : ¬ i < j := fun hlt => by
  obtain ⟨A, B, e, hA, hlo, hc⟩ := h1
  obtain ⟨A', B', e', hA', hlo', hc'⟩ := h2
  have hl : j ≤ l.length := by rw [e', List.length_append]; omega
  have hi : i < l.length := by omega
  have m1 : l[i] ∈ A' := by
    have : l[i] = A'[i]'(by omega) := by simp only [e']; rw [List.getElem_append_left]
    rw [this]; exact List.getElem_mem _
  have hB : 0 < B.length := by
    have : l.length = A.length + B.length := by rw [e, List.length_append]
    omega
  have m2 : l[i] = B[0] := by
    simp only [e]
    rw [List.getElem_append_right (by omega)]
    simp only [hA, Nat.sub_self]
  have k1 := hlo' _ m1
  rw [m2] at k1
  have hsw := kc_swap ct (B[0]).1 k
  rcases hc with ⟨_, a, B2, rfl, hz⟩ | ⟨_, hh⟩
  · have : (a :: B2)[0] = a := rfl
    rw [this] at k1 hsw
    omega
  · have := hh B[0] (List.getElem_mem _)
    omega
theorem at_unique {l : List (μ × Int)} {k : μ} {i j : Nat} {is js : Bool} (h1 : At ct l k i is) (h2 : At ct l k j js) : i = j ∧ is = js := by
  have e1 : i = j := by
    have a := at_not h1 h2
    have b := at_not h2 h1
    omega
  refine ⟨e1, ?_⟩
  subst e1
  obtain ⟨A, B, e, hA, hlo, hc⟩ := h1
  obtain ⟨A', B', e', hA', hlo', hc'⟩ := h2
  have : B = B' := by
    rw [e] at e'
    exact (List.append_inj e' (by omega)).2
  subst this
  rcases hc with ⟨h1, a, B2, rfl, hz⟩ | ⟨h1, hh⟩ <;> rcases hc' with ⟨h2, a', B2', e2, hz'⟩ | ⟨h2, hh'⟩
  · rw [h1, h2]
  · have := hh' a List.mem_cons_self
    omega
  · subst e2
    have := hh a' List.mem_cons_self
    omega
  · rw [h1, h2]
theorem At.get {l : List (μ × Int)} {k : μ} {i : Nat} (h : At ct l k i true) : ∃ A a B, l = A ++ a :: B ∧ A.length = i ∧ Lo ct A k ∧ kc ct k a.1 = 0 := by
  obtain ⟨A, B, e, hA, hlo, ⟨_, a, B', rfl, hz⟩ | ⟨h, _⟩⟩ := h
  · exact ⟨A, a, B', e, hA, hlo, hz⟩
  · cases h
theorem At.not {l : List (μ × Int)} {k : μ} {i : Nat} (h : At ct l k i false) : ∃ A B, l = A ++ B ∧ A.length = i ∧ Lo ct A k ∧ Hi ct B k := by
  obtain ⟨A, B, e, hA, hlo, ⟨h, _⟩ | ⟨_, hh⟩⟩ := h
  · cases h
  · exact ⟨A, B, e, hA, hlo, hh⟩
end
theorem mid_u (a b : Nat) (ha : a ≤ 1000000) (hb : b ≤ 1000000) : IntKind.u64.wrap ((a : Int) + b) = (a : Int) + b := by
  rw [IntKind.wrap_u64]
  exact Int.emod_eq_of_lt (by omega) (by omega)
end Go.Proofs.Ytfhonfeopkhdeaa

namespace Go.Proofs.Ytfhonfeopkhdeaa
open Go.RowKit

section
variable {μ : Type} {ct : μ → List Int}
theorem weave_sub {β : Type} : ∀ (I : List β) (C : List (List β)), C.length = I.length + 1 → I.Sublist (weave I C)
  | [], [], h => by simp at h
  | [], c :: _, _ => List.nil_sublist _
  | a :: I, [], h => by simp at h
  | a :: I, c :: C, h => by
    show (a :: I).Sublist (c ++ a :: weave I C)
    exact ((weave_sub I C (by simpa using h)).cons_cons a).trans (List.sublist_append_right c _)
theorem its_sub {m h lo hi : Nat} {t : BT μ h} (ho : OkT m h lo hi t) : t.its.Sublist (toL h t) := by
  cases h with
  | zero => exact List.Sublist.refl _
  | succ h =>
    refine weave_sub _ _ ?_
    rw [List.length_map]
    exact ho.kids
theorem its_sorted {m h lo hi : Nat} {t : BT μ h} (ho : OkT m h lo hi t) (hs : SortedL ct (toL h t)) : SortedL ct t.its := hs.sublist (its_sub ho)
theorem preW_lo {C1 : List (List (μ × Int))} {I1 R : List (μ × Int)} {k : μ} (h : C1.length = I1.length) (hs : SortedL ct (preW C1 I1 ++ R)) (hl : Lo ct I1 k) : Lo ct (preW C1 I1) k := by
  by_cases he : I1 = []
  · subst he
    have : C1 = [] := List.eq_nil_of_length_eq_zero h
    subst this
    intro x hx
    cases hx
  · obtain ⟨X, I0, a, e1, e2⟩ := preW_last h he
    rw [e2, List.append_assoc] at hs
    rw [e2]
    have ha : kc ct a.1 k < 0 := hl a (by rw [e1]; simp)
    exact (lo_before hs (by omega)).append (fun x hx => by rcases List.mem_singleton.1 hx with rfl; exact ha)
theorem postW_hi {C2 : List (List (μ × Int))} {I2 L : List (μ × Int)} {k : μ} (h : I2.length = C2.length) (hs : SortedL ct (L ++ postW I2 C2)) (hl : Hi ct I2 k) : Hi ct (postW I2 C2) k := by
  by_cases he : I2 = []
  · subst he
    have : C2 = [] := List.eq_nil_of_length_eq_zero h.symm
    subst this
    intro x hx
    cases hx
  · obtain ⟨a, I0, X, e1, e2⟩ := postW_first h he
    rw [e2] at hs ⊢
    have ha : kc ct k a.1 < 0 := hl a (by rw [e1]; simp)
    intro x hx
    rcases List.mem_cons.1 hx with rfl | hx
    · exact ha
    · exact hi_behind hs (by omega) x hx
/-- A node, a key that is none of its own: the child below which it would be. -/
theorem node_go {m h lo hi : Nat} {t : BT μ (h + 1)} (ho : OkT m (h + 1) lo hi t) (hs : SortedL ct (toL (h + 1) t)) {k : μ} {i : Nat} (ha : At ct t.its k i false) :
    ∃ (I1 I2 : List (μ × Int)) (C1 : List (BT μ h)) (c : BT μ h) (C2 : List (BT μ h)), t.its = I1 ++ I2 ∧ t.kds = C1 ++ c :: C2 ∧ I1.length = i ∧ C1.length = i ∧ I2.length = C2.length ∧
      Lo ct (preW (C1.map (toL h)) I1) k ∧ Hi ct (postW I2 (C2.map (toL h))) k ∧ toL (h + 1) t = preW (C1.map (toL h)) I1 ++ (toL h c ++ postW I2 (C2.map (toL h))) := by
  obtain ⟨I1, I2, C1, c, C2, e1, e2, l1, l2, l3⟩ := node_at ho.kids ha.le
  obtain ⟨A, B, e3, l4, hlo, hhi⟩ := ha.not
  obtain ⟨rfl, rfl⟩ := List.append_inj (e1.symm.trans e3) (by omega)
  have et : toL (h + 1) t = preW (C1.map (toL h)) I1 ++ (toL h c ++ postW I2 (C2.map (toL h))) := by
    have := toL_node (n := t.id) (h := h) (I1 := I1) (I2 := I2) (C1 := C1) (C2 := C2) (c := c) (by omega) l3
    rw [← this]
    show weave t.its (List.map (toL h) t.kds) = weave (I1 ++ I2) (List.map (toL h) (C1 ++ c :: C2))
    rw [e1, e2]
  rw [et] at hs
  refine ⟨I1, I2, C1, c, C2, e1, e2, l1, l2, l3, preW_lo (by rw [List.length_map]; omega) hs hlo, ?_, et⟩
  refine postW_hi (L := preW (C1.map (toL h)) I1 ++ toL h c) (by rw [List.length_map]; omega) ?_ hhi
  rw [List.append_assoc]
  exact hs
/-- A node, a key of its own. -/
theorem node_is {m h lo hi : Nat} {t : BT μ h} (ho : OkT m h lo hi t) (hs : SortedL ct (toL h t)) {k : μ} {i : Nat} (ha : At ct t.its k i true) :
    ∃ (I1 : List (μ × Int)) (a : μ × Int) (I2 X Y : List (μ × Int)), t.its = I1 ++ a :: I2 ∧ I1.length = i ∧ kc ct k a.1 = 0 ∧ toL h t = X ++ a :: Y ∧ Lo ct X k ∧ (∀ v, toL h ⟨t.id, I1 ++ (a.1, v) :: I2, t.cs⟩ = X ++ (a.1, v) :: Y) := by
  obtain ⟨I1, a, I2, e1, l1, hlo, hz⟩ := ha.get
  have hz' : kc ct a.1 k ≤ 0 := by have := kc_swap ct k a.1; omega
  cases h with
  | zero => exact ⟨I1, a, I2, I1, I2, e1, l1, hz, e1, hlo, fun v => rfl⟩
  | succ h =>
    have hk := ho.kids
    obtain ⟨C1, c, C2, e2, l2, l3⟩ := list_at t.kds (i := i) (by
      have : t.kds.length = t.cs.length := rfl
      rw [this, hk, e1, List.length_append]; omega)
    have et : ∀ v, toL (h + 1) (⟨t.id, I1 ++ (a.1, v) :: I2, t.cs⟩ : BT μ (h + 1)) = (preW (C1.map (toL h)) I1 ++ toL h c) ++ (a.1, v) :: weave I2 (C2.map (toL h)) := fun v => by
      have := toL_item (n := t.id) (h := h) (I1 := I1) (I2 := I2) (C1 := C1) (C2 := C2) (c := c) (a := (a.1, v)) (by omega)
      rw [← this, ← e2]
      rfl
    have et0 : toL (h + 1) t = (preW (C1.map (toL h)) I1 ++ toL h c) ++ a :: weave I2 (C2.map (toL h)) := by
      have := et a.2
      rw [← this]
      show weave t.its _ = weave (I1 ++ (a.1, a.2) :: I2) _
      rw [e1]
      rfl
    rw [et0] at hs
    exact ⟨I1, a, I2, _, _, e1, l1, hz, et0, lo_before hs hz', et⟩
end
end Go.Proofs.Ytfhonfeopkhdeaa

namespace Go.Proofs.Ytfhonfeopkhdeaa
open Go.RowKit

section
variable {μ : Type} {ct : μ → List Int}
theorem nodup_swap {A X X' B : List Nat} {N : Nat} (h : (A ++ (X ++ B)).Nodup) (hX : X'.Nodup) (hN : ∀ x ∈ A ++ (X ++ B), x < N) (hf : ∀ x ∈ X', x ∈ X ∨ N ≤ x) : (A ++ (X' ++ B)).Nodup := by
  obtain ⟨h1, h2, h3⟩ := List.nodup_append.1 h
  obtain ⟨h4, h5, h6⟩ := List.nodup_append.1 h2
  refine List.nodup_append.2 ⟨h1, List.nodup_append.2 ⟨hX, h5, fun a ha b hb e => ?_⟩, fun a ha b hb e => ?_⟩
  · rcases hf a ha with h | h
    · exact h6 a h b hb e
    · have := hN b (by simp [hb]); omega
  · rcases List.mem_append.1 hb with hb | hb
    · rcases hf b hb with h | h
      · exact h3 a ha b (List.mem_append.2 (.inl h)) e
      · have := hN a (by simp [ha]); omega
    · exact h3 a ha b (List.mem_append.2 (.inr hb)) e
theorem ids_kid {h : Nat} {n : Nat} {I : List (μ × Int)} {C1 C2 : List (BT μ h)} {c : BT μ h} : ids (h + 1) (⟨n, I, (C1 ++ c :: C2 : List (BT μ h))⟩ : BT μ (h + 1)) = (n :: C1.flatMap (ids h)) ++ (ids h c ++ C2.flatMap (ids h)) := by
  show n :: (C1 ++ c :: C2).flatMap (ids h) = _
  rw [List.flatMap_append, List.flatMap_cons]
  rfl
theorem ids_two {h : Nat} {n : Nat} {I : List (μ × Int)} {C1 C2 : List (BT μ h)} {l r : BT μ h} : ids (h + 1) (⟨n, I, (C1 ++ l :: r :: C2 : List (BT μ h))⟩ : BT μ (h + 1)) = (n :: C1.flatMap (ids h)) ++ ((ids h l ++ ids h r) ++ C2.flatMap (ids h)) := by
  show n :: (C1 ++ l :: r :: C2).flatMap (ids h) = _
  rw [List.flatMap_append, List.flatMap_cons, List.flatMap_cons, List.append_assoc]
  rfl
theorem toL_two {h : Nat} {n : Nat} {I1 I2 : List (μ × Int)} {C1 C2 : List (BT μ h)} {l r : BT μ h} {a : μ × Int} (h1 : C1.length = I1.length) (h2 : I2.length = C2.length) :
    toL (h + 1) (⟨n, I1 ++ a :: I2, (C1 ++ l :: r :: C2 : List (BT μ h))⟩ : BT μ (h + 1)) = preW (C1.map (toL h)) I1 ++ ((toL h l ++ a :: toL h r) ++ postW I2 (C2.map (toL h))) := by
  show weave (I1 ++ a :: I2) (List.map (toL h) (C1 ++ l :: r :: C2)) = _
  rw [List.map_append, List.map_cons, List.map_cons, weave_pre (by rw [List.length_map]; exact h1)]
  show preW _ _ ++ (toL h l ++ a :: weave I2 (toL h r :: C2.map (toL h))) = _
  rw [weave_post (by rw [List.length_map]; exact h2)]
  simp
/-- The children of a half lie where they lay. -/
theorem tr_halfL {M M' : Nat → Option (Nf μ)} {h : Nat} {x : BT μ h} {q : Nat} (ht : Tr M h x) (hn : (ids h x).Nodup) (hM : ∀ n ∈ ids h x, n ≠ x.id → M' n = M n) (e : ∀ cs, M x.id = some (nf x.its cs) → M' x.id = some (nf (x.its.take q) (cs.take (q + 1)))) : Tr M' h (halfL x q) := by
  cases h with
  | zero => exact e [] ht
  | succ h =>
    refine ⟨?_, fun c hc => ?_⟩
    · have := e _ ht.1
      rw [← List.map_take] at this
      exact this
    · have hc2 : c ∈ x.kds := List.mem_of_mem_take hc
      refine (ht.2 c hc2).congr fun n hn2 => ?_
      have hm : n ∈ x.kds.flatMap (ids h) := List.mem_flatMap.2 ⟨c, hc2, hn2⟩
      exact hM n (List.mem_cons_of_mem _ hm) (fun e => (List.nodup_cons.1 hn).1 (e ▸ hm))
theorem tr_halfR {M M' : Nat → Option (Nf μ)} {h : Nat} {x : BT μ h} {q y : Nat} (ht : Tr M h x) (hn : (ids h x).Nodup) (hM : ∀ n ∈ ids h x, n ≠ x.id → M' n = M n) (e : ∀ cs, M x.id = some (nf x.its cs) → M' y = some (nf (x.its.drop (q + 1)) (cs.drop (q + 1)))) : Tr M' h (halfR y x q) := by
  cases h with
  | zero => exact e [] ht
  | succ h =>
    refine ⟨?_, fun c hc => ?_⟩
    · have := e _ ht.1
      rw [← List.map_drop] at this
      exact this
    · have hc2 : c ∈ x.kds := List.mem_of_mem_drop hc
      refine (ht.2 c hc2).congr fun n hn2 => ?_
      have hm : n ∈ x.kds.flatMap (ids h) := List.mem_flatMap.2 ⟨c, hc2, hn2⟩
      exact hM n (List.mem_cons_of_mem _ hm) (fun e => (List.nodup_cons.1 hn).1 (e ▸ hm))
theorem tr_ids {M : Nat → Option (Nf μ)} : {h : Nat} → {t : BT μ h} → Tr M h t → ∀ n ∈ ids h t, ∃ F, M n = some F
  | 0, t, ht, n, hn => by
    rw [List.mem_singleton.1 hn]
    exact ⟨_, ht⟩
  | h + 1, t, ht, n, hn => by
    rcases List.mem_cons.1 hn with rfl | hn
    · exact ⟨_, ht.1⟩
    · obtain ⟨c, hc, hn⟩ := List.mem_flatMap.1 hn
      exact tr_ids (ht.2 c hc) n hn
end
end Go.Proofs.Ytfhonfeopkhdeaa

namespace Go.Proofs.Ytfhonfeopkhdeaa
open Go.RowKit

section
variable {μ : Type} {ct : μ → List Int}
/-- To the right: what the left one keeps, what the right one has. -/
def shrL {h : Nat} (l : BT μ h) : BT μ h := ⟨l.id, l.its.take (l.its.length - 1), l.cs.take (l.cs.length - 1)⟩
def shrR {h : Nat} (b : μ × Int) (l r : BT μ h) : BT μ h := ⟨r.id, b :: r.its, l.cs.drop (l.cs.length - 1) ++ r.cs⟩
def shlL {h : Nat} (b : μ × Int) (l r : BT μ h) : BT μ h := ⟨l.id, l.its ++ [b], l.cs ++ r.cs.take 1⟩
def shlR {h : Nat} (r : BT μ h) : BT μ h := ⟨r.id, r.its.drop 1, r.cs.drop 1⟩
def joinT {h : Nat} (b : μ × Int) (l r : BT μ h) : BT μ h := ⟨l.id, l.its ++ [b] ++ r.its, l.cs ++ r.cs⟩
theorem last_split {α : Type} {l : List α} {e : α} (h : l[l.length - 1]? = some e) : l = l.take (l.length - 1) ++ [e] := by
  obtain ⟨h1, h2⟩ := List.getElem?_eq_some_iff.1 h
  have h3 : l.drop (l.length - 1) = [e] := by
    rw [List.drop_eq_getElem_cons h1, h2, List.drop_eq_nil_of_le (by omega)]
  conv => lhs; rw [← List.take_append_drop (l.length - 1) l, h3]
theorem first_split {α : Type} {l : List α} {e : α} (h : l[0]? = some e) : l = e :: l.drop 1 := by
  cases l with
  | nil => simp at h
  | cons a l =>
    simp at h
    rw [h]
    rfl
/-- How many children there are. -/
theorem OkT.cs_len {m h lo hi : Nat} {t : BT μ h} (ho : OkT m h lo hi t) : (h = 0 ∧ t.cs = []) ∨ (h ≠ 0 ∧ t.cs.length = t.its.length + 1) := by
  cases h with
  | zero =>
    refine .inl ⟨rfl, ?_⟩
    rcases hc : t.cs with _ | ⟨c, _⟩
    · rfl
    · exact c.elim
  | succ h => exact .inr ⟨by omega, ho.2.1⟩
theorem shr_toL {m h lo hi lo' hi' : Nat} {l r : BT μ h} {b e : μ × Int} (hl : OkT m h lo hi l) (hr : OkT m h lo' hi' r) (he : l.its[l.its.length - 1]? = some e) : toL h (shrL l) ++ e :: toL h (shrR b l r) = toL h l ++ b :: toL h r := by
  have hs := last_split he
  have hn : 0 < l.its.length := by
    have := (List.getElem?_eq_some_iff.1 he).1; omega
  cases h with
  | zero =>
    show l.its.take (l.its.length - 1) ++ e :: (b :: r.its) = l.its ++ b :: r.its
    conv => rhs; rw [hs]
    simp
  | succ h =>
    have hk : l.kds.length = l.its.length + 1 := hl.2.1
    have hkr : r.kds.length = r.its.length + 1 := hr.2.1
    obtain ⟨c, hc⟩ : ∃ c, l.kds[l.kds.length - 1]? = some c := ⟨_, List.getElem?_eq_getElem (by omega)⟩
    have hs2 := last_split hc
    have hd : l.kds.drop (l.kds.length - 1) = [c] := by
      have h1 := (List.getElem?_eq_some_iff.1 hc)
      obtain ⟨h1, h2⟩ := h1
      rw [List.drop_eq_getElem_cons h1, h2, List.drop_eq_nil_of_le (by omega)]
    show weave (l.its.take (l.its.length - 1)) (List.map (toL h) (l.kds.take (l.kds.length - 1))) ++ e :: weave (b :: r.its) (List.map (toL h) (l.kds.drop (l.kds.length - 1) ++ r.kds)) = weave l.its (List.map (toL h) l.kds) ++ b :: weave r.its (List.map (toL h) r.kds)
    rw [hd]
    have e1 : weave l.its (List.map (toL h) l.kds) = weave (l.its.take (l.its.length - 1)) (List.map (toL h) (l.kds.take (l.kds.length - 1))) ++ e :: toL h c := by
      conv => lhs; rw [hs, hs2]
      rw [List.map_append]
      refine (weave_part (J2 := []) ?_ e).trans ?_
      · rw [List.length_map, List.length_take, List.length_take]; omega
      · rfl
    rw [e1]
    show _ ++ e :: (toL h c ++ b :: weave r.its (List.map (toL h) r.kds)) = _
    simp
theorem shl_toL {m h lo hi lo' hi' : Nat} {l r : BT μ h} {b e : μ × Int} (hl : OkT m h lo hi l) (hr : OkT m h lo' hi' r) (he : r.its[0]? = some e) : toL h (shlL b l r) ++ e :: toL h (shlR r) = toL h l ++ b :: toL h r := by
  have hs := first_split he
  have hn : 0 < r.its.length := (List.getElem?_eq_some_iff.1 he).1
  cases h with
  | zero =>
    show (l.its ++ [b]) ++ e :: r.its.drop 1 = l.its ++ b :: r.its
    conv => rhs; rw [hs]
    simp
  | succ h =>
    have hk : l.kds.length = l.its.length + 1 := hl.2.1
    have hkr : r.kds.length = r.its.length + 1 := hr.2.1
    obtain ⟨c, hc⟩ : ∃ c, r.kds[0]? = some c := ⟨_, List.getElem?_eq_getElem (by omega)⟩
    have hs2 := first_split hc
    have ht : r.kds.take 1 = [c] := by
      rw [List.take_add_one, hc]
      rfl
    show weave (l.its ++ [b]) (List.map (toL h) (l.kds ++ r.kds.take 1)) ++ e :: weave (r.its.drop 1) (List.map (toL h) (r.kds.drop 1)) = weave l.its (List.map (toL h) l.kds) ++ b :: weave r.its (List.map (toL h) r.kds)
    rw [ht]
    have e1 : weave (l.its ++ [b]) (List.map (toL h) (l.kds ++ [c])) = weave l.its (List.map (toL h) l.kds) ++ b :: toL h c := by
      rw [List.map_append]
      refine (weave_part (J2 := []) ?_ b).trans ?_
      · rw [List.length_map]; omega
      · rfl
    have e2 : weave r.its (List.map (toL h) r.kds) = toL h c ++ e :: weave (r.its.drop 1) (List.map (toL h) (r.kds.drop 1)) := by
      conv => lhs; rw [hs, hs2]
      rfl
    rw [e1, e2]
    simp
theorem join_toL {m h lo hi lo' hi' : Nat} {l r : BT μ h} {b : μ × Int} (hl : OkT m h lo hi l) (hr : OkT m h lo' hi' r) : toL h (joinT b l r) = toL h l ++ b :: toL h r := by
  cases h with
  | zero =>
    show l.its ++ [b] ++ r.its = l.its ++ b :: r.its
    simp
  | succ h =>
    have hk : l.kds.length = l.its.length + 1 := hl.2.1
    show weave (l.its ++ [b] ++ r.its) (List.map (toL h) (l.kds ++ r.kds)) = _
    rw [List.map_append, List.append_assoc]
    refine weave_part ?_ b
    rw [List.length_map]; omega
/-- What all of a tree's blocks are: its own and its children's. -/
def idsC {μ : Type} : (h : Nat) → List (Sub μ h) → List Nat
  | 0, _ => []
  | h + 1, cs => (show List (BT μ h) from cs).flatMap (ids h)
theorem ids_idsC {h : Nat} (t : BT μ h) : ids h t = t.id :: idsC h t.cs := by cases h <;> rfl
theorem idsC_append {h : Nat} (a b : List (Sub μ h)) : idsC h (a ++ b) = idsC h a ++ idsC h b := by
  cases h with
  | zero => rfl
  | succ h => exact List.flatMap_append
theorem idsC_split {h : Nat} (a : List (Sub μ h)) (n : Nat) : idsC h (a.take n) ++ idsC h (a.drop n) = idsC h a := by rw [← idsC_append, List.take_append_drop]
theorem shr_ids {h : Nat} (b : μ × Int) (l r : BT μ h) : (ids h (shrL l) ++ ids h (shrR b l r)).Perm (ids h l ++ ids h r) := by
  rw [ids_idsC, ids_idsC, ids_idsC, ids_idsC]
  show (l.id :: idsC h (l.cs.take (l.cs.length - 1)) ++ r.id :: idsC h (l.cs.drop (l.cs.length - 1) ++ r.cs)).Perm (l.id :: idsC h l.cs ++ r.id :: idsC h r.cs)
  rw [idsC_append, ← idsC_split l.cs (l.cs.length - 1)]
  generalize idsC h (l.cs.take (l.cs.length - 1)) = A
  generalize idsC h (l.cs.drop (l.cs.length - 1)) = B
  generalize idsC h r.cs = C
  refine List.Perm.cons _ ?_
  show (A ++ r.id :: (B ++ C)).Perm ((A ++ B) ++ r.id :: C)
  rw [List.append_assoc A B]
  refine List.Perm.append_left A ?_
  exact (List.perm_middle (l₁ := B)).symm
theorem shl_ids {h : Nat} (b : μ × Int) (l r : BT μ h) : (ids h (shlL b l r) ++ ids h (shlR r)).Perm (ids h l ++ ids h r) := by
  rw [ids_idsC, ids_idsC, ids_idsC, ids_idsC]
  show (l.id :: idsC h (l.cs ++ r.cs.take 1) ++ r.id :: idsC h (r.cs.drop 1)).Perm (l.id :: idsC h l.cs ++ r.id :: idsC h r.cs)
  rw [idsC_append, ← idsC_split r.cs 1]
  generalize idsC h l.cs = A
  generalize idsC h (r.cs.take 1) = B
  generalize idsC h (r.cs.drop 1) = C
  refine List.Perm.cons _ ?_
  show ((A ++ B) ++ r.id :: C).Perm (A ++ r.id :: (B ++ C))
  rw [List.append_assoc A B]
  refine List.Perm.append_left A ?_
  exact List.perm_middle (l₁ := B)
theorem join_ids {h : Nat} (b : μ × Int) (l r : BT μ h) : (r.id :: ids h (joinT b l r)).Perm (ids h l ++ ids h r) := by
  rw [ids_idsC, ids_idsC, ids_idsC]
  show (r.id :: l.id :: idsC h (l.cs ++ r.cs)).Perm (l.id :: idsC h l.cs ++ r.id :: idsC h r.cs)
  rw [idsC_append]
  refine (List.Perm.swap _ _ _).trans (List.Perm.cons _ ?_)
  exact (List.perm_middle (l₁ := idsC h l.cs)).symm
/-- A tree out of two trees' children. -/
theorem ok_mix {m h lo hi lo1 hi1 lo2 hi2 : Nat} {l r x : BT μ h} (hl : OkT m h lo1 hi1 l) (hr : OkT m h lo2 hi2 r) (h1 : lo ≤ x.its.length) (h2 : x.its.length ≤ hi) (hc : h ≠ 0 → x.cs.length = x.its.length + 1) (hk : ∀ c ∈ x.cs, c ∈ l.cs ∨ c ∈ r.cs) : OkT m h lo hi x := by
  cases h with
  | zero => exact ⟨h1, h2⟩
  | succ h => exact ⟨⟨h1, h2⟩, hc (by omega), fun c hcm => (hk c hcm).elim (fun q => hl.2.2 c q) (fun q => hr.2.2 c q)⟩
/-- The places of a node's children. -/
def kidM {μ : Type} : (h : Nat) → List (Sub μ h) → List Nat
  | 0, _ => []
  | h + 1, cs => (show List (BT μ h) from cs).map Nd.id
theorem kidM_append {h : Nat} (a b : List (Sub μ h)) : kidM h (a ++ b) = kidM h a ++ kidM h b := by
  cases h with
  | zero => rfl
  | succ h => exact List.map_append
theorem kidM_take {h : Nat} (a : List (Sub μ h)) (n : Nat) : kidM h (a.take n) = (kidM h a).take n := by
  cases h with
  | zero => show [] = List.take n []; simp
  | succ h => exact List.map_take
theorem kidM_drop {h : Nat} (a : List (Sub μ h)) (n : Nat) : kidM h (a.drop n) = (kidM h a).drop n := by
  cases h with
  | zero => show [] = List.drop n []; simp
  | succ h => exact List.map_drop
theorem kidM_len {m h lo hi : Nat} {t : BT μ h} (ho : OkT m h lo hi t) : (kidM h t.cs).length = t.cs.length := by
  cases h with
  | zero =>
    rcases ho.cs_len with ⟨_, e⟩ | ⟨e, _⟩
    · rw [e]; rfl
    · exact absurd rfl e
  | succ h => exact List.length_map _
theorem tr_top {M : Nat → Option (Nf μ)} {h : Nat} {t : BT μ h} (ht : Tr M h t) : M t.id = some (nf t.its (kidM h t.cs)) := by
  cases h with
  | zero => exact ht
  | succ h => exact ht.1
theorem tr_mix {M M' : Nat → Option (Nf μ)} {h : Nat} {l r x : BT μ h} (hl : Tr M h l) (hr : Tr M h r) (hM : ∀ n, n ∈ idsC h l.cs ∨ n ∈ idsC h r.cs → M' n = M n) (hx : M' x.id = some (nf x.its (kidM h x.cs))) (hk : ∀ c ∈ x.cs, c ∈ l.cs ∨ c ∈ r.cs) : Tr M' h x := by
  cases h with
  | zero => exact hx
  | succ h =>
    refine ⟨hx, fun c hc => ?_⟩
    rcases hk c hc with h1 | h1
    · exact (hl.2 c h1).congr fun n hn => hM n (.inl (List.mem_flatMap.2 ⟨c, h1, hn⟩))
    · exact (hr.2 c h1).congr fun n hn => hM n (.inr (List.mem_flatMap.2 ⟨c, h1, hn⟩))
end
end Go.Proofs.Ytfhonfeopkhdeaa
