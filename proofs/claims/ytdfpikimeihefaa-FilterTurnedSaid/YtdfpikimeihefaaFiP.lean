/-
  Layer 16: what filters do: plain lists. No program. No premise.
-/
import Derived.Test.YtdfpikimeihefaaFle
import Derived.Test.YtdfpikimeihefaaMaL
import Derived.Test.YtdfpikimeihefaaFiK
import Derived.Test.YtdfpikimeihefaaShf1
import Derived.Test.YtdfpikimeihefaaDeP
namespace Go.Proofs.Ytdfpikimeihefaa
open Go.RowKit Go.Proofs.YtdfpikimeihefaaW.PrintWords

def sealF (l : List Int) : List Int := l ++ dig 4 true (fletS l)
def usF (l : List Int) : List Int × Int := if l.length < 4 then ([], 5) else if sealF (l.take (l.length - 4)) = l then (l.take (l.length - 4), 0) else ([], 5)
def do1 (f : Fl) (x : List Int) : List Int :=
  if f.1 = 1 then mxL shufL f.2 x else if f.1 = 2 then mxL deltaL f.2 x else if f.1 = 3 then pkL x else if f.1 = 4 then sealF x else []
def un1 (f : Fl) (x : List Int) : List Int × Int :=
  if f.1 = 1 then (mxL unshL f.2 x, mxE f.2) else if f.1 = 2 then (mxL undelL f.2 x, mxE f.2) else if f.1 = 3 then upk x 65536 else if f.1 = 4 then usF x else ([], 0)
def doA (l : List Fl) (x : List Int) : List Int := l.foldl (fun y f => do1 f y) x
def und : List Fl → List Int → List Int × Int
  | [], x => (x, 0)
  | f :: r, x => if (un1 f x).2 = 0 then und r (un1 f x).1 else ([], 5)
def apE (l : List Fl) (b : List Int) : Int := if fck l ≠ 0 then fck l else if 4096 < b.length then 20 else 0
def apL (l : List Fl) (b : List Int) : List Int := if apE l b ≠ 0 then [] else doA l b
def fin (r : List Int × Int) (n : Int) : List Int × Int := if r.2 = 0 then (if (r.1.length : Int) = n then (r.1, 0) else ([], 5)) else ([], 5)
def udR (l : List Fl) (b : List Int) (n : Int) : List Int × Int := if fck l ≠ 0 then ([], fck l) else if n < 0 ∨ 4096 < n then ([], 2) else fin (und l.reverse b) n

theorem sealF_length (l : List Int) : (sealF l).length = l.length + 4 := by unfold sealF; rw [List.length_append, dig_length]
theorem sealF_bts {l : List Int} (h : Bts l) : Bts (sealF l) := h.append (dig_bts _ _ _)
theorem mxL_length {f : Nat → List Int → List Int} (hf : ∀ w l, (f w l).length = l.length) (d : Int) (l : List Int) : (mxL f d l).length ≤ l.length := by
  unfold mxL
  split
  · exact Nat.le_of_eq (hf _ _)
  · exact Nat.zero_le _
theorem mxL_bts {f : Nat → List Int → List Int} (hf : ∀ w l, Bts l → Bts (f w l)) (d : Int) {l : List Int} (h : Bts l) : Bts (mxL f d l) := by
  unfold mxL
  split
  · exact hf _ _ h
  · exact Bts.nil
theorem do1_length (f : Fl) (x : List Int) : (do1 f x).length ≤ x.length + 4 := by
  unfold do1
  split
  · exact Nat.le_trans (mxL_length shufL_length _ _) (by omega)
  split
  · exact Nat.le_trans (mxL_length deltaL_length _ _) (by omega)
  split
  · exact Nat.le_trans (pkL_length x) (by omega)
  split
  · exact Nat.le_of_eq (sealF_length x)
  · exact Nat.zero_le _
theorem do1_bts (f : Fl) {x : List Int} (h : Bts x) : Bts (do1 f x) := by
  unfold do1
  split
  · exact mxL_bts (fun w l h => shufL_bts h w) _ h
  split
  · exact mxL_bts (fun w l h => deltaL_bts h w) _ h
  split
  · exact pkL_bts h
  split
  · exact sealF_bts h
  · exact Bts.nil
theorem doA_length (l : List Fl) (x : List Int) : (doA l x).length ≤ x.length + 4 * l.length := by
  induction l generalizing x with
  | nil => exact Nat.le_refl _
  | cons f l ih =>
    have h1 := ih (do1 f x)
    have h2 := do1_length f x
    rw [List.length_cons]
    show (doA l (do1 f x)).length ≤ _
    omega
theorem doA_bts (l : List Fl) {x : List Int} (h : Bts x) : Bts (doA l x) := by
  induction l generalizing x with
  | nil => exact h
  | cons f l ih => exact ih (do1_bts f h)
theorem doA_cons (f : Fl) (l : List Fl) (x : List Int) : doA (f :: l) x = doA l (do1 f x) := rfl
theorem doA_append (a b : List Fl) (x : List Int) : doA (a ++ b) x = doA b (doA a x) := by unfold doA; exact List.foldl_append
theorem usF_seal (x : List Int) : usF (sealF x) = (x, 0) := by
  have h := sealF_length x
  have ht : (sealF x).take ((sealF x).length - 4) = x := by
    rw [h, Nat.add_sub_cancel]
    unfold sealF
    exact List.take_left
  unfold usF
  rw [if_neg (by omega), ht, if_pos rfl]
theorem usF_bts {l : List Int} (h : Bts l) : Bts (usF l).1 := by
  unfold usF
  split
  · exact Bts.nil
  split
  · exact h.take _
  · exact Bts.nil
theorem usF_length (l : List Int) : (usF l).1.length ≤ l.length := by
  unfold usF
  split
  · exact Nat.zero_le _
  split
  · rw [List.length_take]; omega
  · exact Nat.zero_le _
/-- The reference looks at the four bytes alone. -/
theorem usF_ref (l : List Int) (h : ¬ l.length < 4) : (dig 4 true (fletS (l.take (l.length - 4))) = l.drop (l.length - 4)) ↔ sealF (l.take (l.length - 4)) = l := by
  unfold sealF
  constructor
  · intro e
    rw [e, List.take_append_drop]
  · intro e
    have h1 := congrArg (List.drop (l.take (l.length - 4)).length) e
    rw [List.drop_left, List.length_take, Nat.min_eq_left (by omega)] at h1
    exact h1
theorem un_do (f : Fl) (x : List Int) (hf : okF f = true) (hb : Bts x) (hl : x.length ≤ 65536) : un1 f (do1 f x) = (x, 0) := by
  rw [okF_iff] at hf
  have hw : ∀ d : Int, 1 ≤ d → 0 < d.toNat := fun d h => by omega
  unfold un1 do1
  by_cases h1 : f.1 = 1
  · have h2 : 1 ≤ f.2 ∧ f.2 ≤ 8 := by omega
    simp only [if_pos h1]
    unfold mxL mxE
    simp only [if_pos h2]
    rw [unsh_shuf _ _ (hw _ h2.1)]
  simp only [if_neg h1]
  by_cases h3 : f.1 = 2
  · have h2 : 1 ≤ f.2 ∧ f.2 ≤ 8 := by omega
    simp only [if_pos h3]
    unfold mxL mxE
    simp only [if_pos h2]
    rw [undel_delta hb]
  simp only [if_neg h3]
  by_cases h4 : f.1 = 3
  · simp only [if_pos h4]
    rw [upk_pk x hl 65536 (by decide +kernel) (Int.le_refl _), if_pos (by omega)]
  simp only [if_neg h4]
  have h5 : f.1 = 4 := by omega
  simp only [if_pos h5]
  exact usF_seal x
theorem un1_bts (f : Fl) {x : List Int} (h : Bts x) (hu : Bts (upk x 65536).1) : Bts (un1 f x).1 := by
  unfold un1
  split
  · exact mxL_bts (fun w l h => unshL_bts h w) _ h
  split
  · exact mxL_bts (fun w l h => undelL_bts h w) _ h
  split
  · exact hu
  split
  · exact usF_bts h
  · exact Bts.nil
theorem und_append (a b : List Fl) (x y : List Int) (h : und a x = (y, 0)) : und (a ++ b) x = und b y := by
  induction a generalizing x with
  | nil => injection h with h1 _; subst h1; rfl
  | cons f a ih =>
    rw [und] at h
    rw [List.cons_append, und]
    split at h
    · rename_i h0
      rw [if_pos h0]
      exact ih _ h
    · injection h with _ h2
      cases h2
theorem und_doA (l : List Fl) (x : List Int) (hf : l.all okF = true) (hb : Bts x) (hl : x.length + 4 * l.length ≤ 65536) : und l.reverse (doA l x) = (x, 0) := by
  induction l generalizing x with
  | nil => rfl
  | cons f l ih =>
    rw [List.all_cons, Bool.and_eq_true] at hf
    rw [List.length_cons] at hl
    have h1 := do1_length f x
    rw [List.reverse_cons, doA_cons, und_append _ _ _ _ (ih (do1 f x) hf.2 (do1_bts f hb) (by omega)), und, un_do f x hf.1 hb (by omega)]
    rfl
end Go.Proofs.Ytdfpikimeihefaa
