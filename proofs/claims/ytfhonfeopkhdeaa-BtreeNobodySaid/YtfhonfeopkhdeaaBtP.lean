/-
  Layer 7 in plain terms: an order on lists of numbers; lists in order; trees whose leaves lie at one level. No program. No premise.
-/
import Derived.WalkKit
namespace Go.Proofs.Ytfhonfeopkhdeaa
open Go.RowKit

/-- By the first number that differs; what begins a longer one comes first. -/
def cmpL : List Int → List Int → Int
  | [], [] => 0
  | [], _ :: _ => -1
  | _ :: _, [] => 1
  | x :: xs, y :: ys => if x < y then -1 else if y < x then 1 else cmpL xs ys
theorem cmpL_range (a b : List Int) : cmpL a b = -1 ∨ cmpL a b = 0 ∨ cmpL a b = 1 := by
  induction a generalizing b with
  | nil => cases b <;> simp [cmpL]
  | cons x xs ih =>
    cases b with
    | nil => simp [cmpL]
    | cons y ys =>
      unfold cmpL
      split
      · exact .inl rfl
      · split
        · exact .inr (.inr rfl)
        · exact ih ys
theorem cmpL_self (a : List Int) : cmpL a a = 0 := by
  induction a with
  | nil => rfl
  | cons x xs ih => simp [cmpL, ih]
theorem cmpL_eq {a b : List Int} (h : cmpL a b = 0) : a = b := by
  induction a generalizing b with
  | nil => cases b with
    | nil => rfl
    | cons y ys => simp [cmpL] at h
  | cons x xs ih =>
    cases b with
    | nil => simp [cmpL] at h
    | cons y ys =>
      unfold cmpL at h
      split at h
      · cases h
      · split at h
        · cases h
        · rw [ih h, show x = y by omega]
theorem cmpL_swap (a b : List Int) : cmpL b a = - cmpL a b := by
  induction a generalizing b with
  | nil => cases b <;> rfl
  | cons x xs ih =>
    cases b with
    | nil => rfl
    | cons y ys =>
      unfold cmpL
      by_cases h1 : x < y
      · rw [if_pos h1, if_neg (by omega), if_pos h1]; rfl
      · by_cases h2 : y < x
        · rw [if_pos h2, if_neg h1, if_pos h2]
        · rw [if_neg h2, if_neg h1, if_neg h1, if_neg h2]
          exact ih ys
theorem cmpL_trans {a b c : List Int} (h1 : cmpL a b < 0) (h2 : cmpL b c < 0) : cmpL a c < 0 := by
  induction a generalizing b c with
  | nil => cases c with
    | nil => cases b <;> simp [cmpL] at h1 h2
    | cons z zs => simp [cmpL]
  | cons x xs ih =>
    cases b with
    | nil => simp [cmpL] at h1
    | cons y ys =>
      cases c with
      | nil => simp [cmpL] at h2
      | cons z zs =>
        unfold cmpL at h1 h2 ⊢
        by_cases e1 : x < y
        · by_cases e2 : y < z
          · rw [if_pos (by omega)]; decide
          · rw [if_neg e2] at h2
            by_cases e3 : z < y
            · rw [if_pos e3] at h2; simp at h2
            · rw [if_pos (by omega)]; decide
        · rw [if_neg e1] at h1
          by_cases e3 : y < x
          · rw [if_pos e3] at h1; simp at h1
          · rw [if_neg e3] at h1
            by_cases e2 : y < z
            · rw [if_pos (by omega)]; decide
            · rw [if_neg e2] at h2
              by_cases e4 : z < y
              · rw [if_pos e4] at h2; simp at h2
              · rw [if_neg e4] at h2
                rw [if_neg (by omega), if_neg (by omega)]
                exact ih h1 h2

section
variable {μ : Type} (ct : μ → List Int)
/-- How two keys stand. -/
def kc (a b : μ) : Int := cmpL (ct a) (ct b)
theorem kc_swap (a b : μ) : kc ct b a = - kc ct a b := cmpL_swap _ _
theorem kc_trans {a b c : μ} (h1 : kc ct a b < 0) (h2 : kc ct b c < 0) : kc ct a c < 0 := cmpL_trans h1 h2
theorem kc_same {a b c : μ} (h1 : kc ct a b = 0) : kc ct a c = kc ct b c := by unfold kc at *; rw [cmpL_eq h1]
theorem kc_same' {a b c : μ} (h1 : kc ct a b = 0) : kc ct c a = kc ct c b := by unfold kc at *; rw [cmpL_eq h1]
def SortedL (l : List (μ × Int)) : Prop := l.Pairwise fun a b => kc ct a.1 b.1 < 0
/-- A key gets a number; the old key stays. -/
def insL (k : μ) (v : Int) : List (μ × Int) → List (μ × Int)
  | [] => [(k, v)]
  | a :: r => if kc ct k a.1 < 0 then (k, v) :: a :: r else if kc ct k a.1 = 0 then (a.1, v) :: r else a :: insL k v r
def delL (k : μ) : List (μ × Int) → List (μ × Int)
  | [] => []
  | a :: r => if kc ct k a.1 < 0 then a :: r else if kc ct k a.1 = 0 then r else a :: delL k r
def getL (k : μ) : List (μ × Int) → Option Int
  | [] => none
  | a :: r => if kc ct k a.1 < 0 then none else if kc ct k a.1 = 0 then some a.2 else getL k r
/-- All lie ahead of a key; all lie behind it. -/
def Lo (l : List (μ × Int)) (k : μ) : Prop := ∀ a ∈ l, kc ct a.1 k < 0
def Hi (l : List (μ × Int)) (k : μ) : Prop := ∀ a ∈ l, kc ct k a.1 < 0
variable {ct}
theorem lo_gt {a : μ} {k : μ} (h : kc ct a k < 0) : ¬ kc ct k a < 0 ∧ ¬ kc ct k a = 0 := by
  have := kc_swap ct a k
  omega
theorem insL_lo {A r : List (μ × Int)} {k : μ} {v : Int} (h : Lo ct A k) : insL ct k v (A ++ r) = A ++ insL ct k v r := by
  induction A with
  | nil => rfl
  | cons a A ih =>
    have h1 := lo_gt (h a List.mem_cons_self)
    rw [List.cons_append, insL, if_neg h1.1, if_neg h1.2, ih (fun x hx => h x (List.mem_cons_of_mem _ hx))]
    rfl
theorem delL_lo {A r : List (μ × Int)} {k : μ} (h : Lo ct A k) : delL ct k (A ++ r) = A ++ delL ct k r := by
  induction A with
  | nil => rfl
  | cons a A ih =>
    have h1 := lo_gt (h a List.mem_cons_self)
    rw [List.cons_append, delL, if_neg h1.1, if_neg h1.2, ih (fun x hx => h x (List.mem_cons_of_mem _ hx))]
    rfl
theorem getL_lo {A r : List (μ × Int)} {k : μ} (h : Lo ct A k) : getL ct k (A ++ r) = getL ct k r := by
  induction A with
  | nil => rfl
  | cons a A ih =>
    have h1 := lo_gt (h a List.mem_cons_self)
    rw [List.cons_append, getL, if_neg h1.1, if_neg h1.2, ih (fun x hx => h x (List.mem_cons_of_mem _ hx))]
theorem insL_hi {M B : List (μ × Int)} {k : μ} {v : Int} (h : Hi ct B k) : insL ct k v (M ++ B) = insL ct k v M ++ B := by
  induction M with
  | nil =>
    cases B with
    | nil => rfl
    | cons b B =>
      show insL ct k v (b :: B) = (k, v) :: b :: B
      rw [insL, if_pos (h b List.mem_cons_self)]
  | cons a M ih =>
    rw [List.cons_append, insL, insL]
    split
    · rfl
    · split
      · rfl
      · rw [ih]; rfl
theorem delL_hi {M B : List (μ × Int)} {k : μ} (h : Hi ct B k) : delL ct k (M ++ B) = delL ct k M ++ B := by
  induction M with
  | nil =>
    cases B with
    | nil => rfl
    | cons b B =>
      show delL ct k (b :: B) = b :: B
      rw [delL, if_pos (h b List.mem_cons_self)]
  | cons a M ih =>
    rw [List.cons_append, delL, delL]
    split
    · rfl
    · split
      · rfl
      · rw [ih]; rfl
theorem getL_hi {M B : List (μ × Int)} {k : μ} (h : Hi ct B k) : getL ct k (M ++ B) = getL ct k M := by
  induction M with
  | nil =>
    cases B with
    | nil => rfl
    | cons b B =>
      show getL ct k (b :: B) = none
      rw [getL, if_pos (h b List.mem_cons_self)]
  | cons a M ih =>
    rw [List.cons_append, getL, getL]
    split
    · rfl
    · split
      · rfl
      · exact ih
theorem insL_at {A B : List (μ × Int)} {k : μ} {a : μ × Int} {v : Int} (h : Lo ct A k) (ha : kc ct k a.1 = 0) : insL ct k v (A ++ a :: B) = A ++ (a.1, v) :: B := by
  rw [insL_lo h, insL, if_neg (by omega), if_pos ha]
theorem delL_at {A B : List (μ × Int)} {k : μ} {a : μ × Int} (h : Lo ct A k) (ha : kc ct k a.1 = 0) : delL ct k (A ++ a :: B) = A ++ B := by
  rw [delL_lo h, delL, if_neg (by omega), if_pos ha]
theorem getL_at {A B : List (μ × Int)} {k : μ} {a : μ × Int} (h : Lo ct A k) (ha : kc ct k a.1 = 0) : getL ct k (A ++ a :: B) = some a.2 := by
  rw [getL_lo h, getL, if_neg (by omega), if_pos ha]
theorem insL_new {A B : List (μ × Int)} {k : μ} {v : Int} (h : Lo ct A k) (hB : Hi ct B k) : insL ct k v (A ++ B) = A ++ (k, v) :: B := by
  rw [insL_lo h]
  cases B with
  | nil => rfl
  | cons b B => rw [insL, if_pos (hB b List.mem_cons_self)]
theorem getL_new {A B : List (μ × Int)} {k : μ} (h : Lo ct A k) (hB : Hi ct B k) : getL ct k (A ++ B) = none := by
  rw [getL_lo h]
  cases B with
  | nil => rfl
  | cons b B => rw [getL, if_pos (hB b List.mem_cons_self)]
theorem Lo.append {A B : List (μ × Int)} {k : μ} (h : Lo ct A k) (h2 : Lo ct B k) : Lo ct (A ++ B) k := fun x hx => (List.mem_append.1 hx).elim (h x) (h2 x)
theorem Hi.append {A B : List (μ × Int)} {k : μ} (h : Hi ct A k) (h2 : Hi ct B k) : Hi ct (A ++ B) k := fun x hx => (List.mem_append.1 hx).elim (h x) (h2 x)
/-- What lies ahead of an item that is not behind the key lies ahead of the key. -/
theorem lo_before {A B : List (μ × Int)} {a : μ × Int} {k : μ} (hs : SortedL ct (A ++ a :: B)) (h : kc ct a.1 k ≤ 0) : Lo ct A k := fun x hx => by
  have h1 : kc ct x.1 a.1 < 0 := (List.pairwise_append.1 hs).2.2 x hx a List.mem_cons_self
  rcases Int.lt_or_eq_of_le h with h2 | h2
  · exact kc_trans ct h1 h2
  · rw [← kc_same' ct h2]; exact h1
theorem hi_behind {A B : List (μ × Int)} {a : μ × Int} {k : μ} (hs : SortedL ct (A ++ a :: B)) (h : kc ct k a.1 ≤ 0) : Hi ct B k := fun x hx => by
  have h1 : kc ct a.1 x.1 < 0 := (List.pairwise_cons.1 (List.pairwise_append.1 hs).2.1).1 x hx
  rcases Int.lt_or_eq_of_le h with h2 | h2
  · exact kc_trans ct h2 h1
  · rw [kc_same ct h2]; exact h1
theorem sorted_mid {A M B : List (μ × Int)} (h : SortedL ct (A ++ (M ++ B))) : SortedL ct M := (List.pairwise_append.1 (List.pairwise_append.1 h).2.1).1
theorem insL_length (k : μ) (v : Int) (l : List (μ × Int)) : (insL ct k v l).length = if (getL ct k l).isSome then l.length else l.length + 1 := by
  induction l with
  | nil => rfl
  | cons a r ih =>
    rw [insL, getL]
    split
    · rfl
    · split
      · rfl
      · rw [List.length_cons, ih]; split <;> rfl
theorem delL_length (k : μ) (l : List (μ × Int)) : (delL ct k l).length = if (getL ct k l).isSome then l.length - 1 else l.length := by
  induction l with
  | nil => rfl
  | cons a r ih =>
    rw [delL, getL]
    split
    · rfl
    · split
      · simp
      · rw [List.length_cons, ih]
        split
        · next h =>
          cases r with
          | nil => simp [getL] at h
          | cons b r => simp
        · rfl
/-- Keys of a list are keys of the list, with the new one. -/
theorem insL_mem {k : μ} {v : Int} {l : List (μ × Int)} {x : μ × Int} (h : x ∈ insL ct k v l) : x.1 = k ∨ ∃ y ∈ l, y.1 = x.1 := by
  induction l with
  | nil => simp [insL] at h; exact .inl (by rw [h])
  | cons a r ih =>
    rw [insL] at h
    split at h
    · rcases List.mem_cons.1 h with h | h
      · exact .inl (by rw [h])
      · exact .inr ⟨x, h, rfl⟩
    · split at h
      · rcases List.mem_cons.1 h with h | h
        · exact .inr ⟨a, List.mem_cons_self, by rw [h]⟩
        · exact .inr ⟨x, List.mem_cons_of_mem _ h, rfl⟩
      · rcases List.mem_cons.1 h with h | h
        · exact .inr ⟨a, List.mem_cons_self, by rw [h]⟩
        · rcases ih h with h2 | ⟨y, hy, h2⟩
          · exact .inl h2
          · exact .inr ⟨y, List.mem_cons_of_mem _ hy, h2⟩
theorem delL_mem {k : μ} {l : List (μ × Int)} {x : μ × Int} (h : x ∈ delL ct k l) : x ∈ l := by
  induction l with
  | nil => exact h
  | cons a r ih =>
    rw [delL] at h
    split at h
    · exact h
    · split at h
      · exact List.mem_cons_of_mem _ h
      · rcases List.mem_cons.1 h with h | h
        · rw [h]; exact List.mem_cons_self
        · exact List.mem_cons_of_mem _ (ih h)
theorem insL_sorted {k : μ} {v : Int} {l : List (μ × Int)} (hs : SortedL ct l) : SortedL ct (insL ct k v l) := by
  induction l with
  | nil => exact List.pairwise_singleton _ _
  | cons a r ih =>
    obtain ⟨h1, h2⟩ := List.pairwise_cons.1 hs
    rw [insL]
    split
    · next h =>
      refine List.pairwise_cons.2 ⟨fun x hx => ?_, hs⟩
      rcases List.mem_cons.1 hx with e | hx
      · rw [e]; exact h
      · exact kc_trans ct h (h1 x hx)
    · split
      · exact List.pairwise_cons.2 ⟨h1, h2⟩
      · next h3 h4 =>
        refine List.pairwise_cons.2 ⟨fun x hx => ?_, ih h2⟩
        rcases insL_mem hx with e | ⟨y, hy, e⟩
        · rw [e]; have := kc_swap ct k a.1; omega
        · rw [← e]; exact h1 y hy
theorem delL_sorted {k : μ} {l : List (μ × Int)} (hs : SortedL ct l) : SortedL ct (delL ct k l) := by
  induction l with
  | nil => exact hs
  | cons a r ih =>
    obtain ⟨h1, h2⟩ := List.pairwise_cons.1 hs
    rw [delL]
    split
    · exact hs
    · split
      · exact h2
      · exact List.pairwise_cons.2 ⟨fun x hx => h1 x (delL_mem hx), ih h2⟩
end
end Go.Proofs.Ytfhonfeopkhdeaa
