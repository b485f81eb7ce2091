/-
  Layer 15: what Unpack tells: plain lists. No program. No premise.
-/
import Derived.Test.YtdfpikimeihefaaMaP
namespace Go.Proofs.Ytdfpikimeihefaa
open Go.RowKit Go.Proofs.YtdfpikimeihefaaW.PrintWords

/-- k times the byte that stands d ahead of the end. -/
def repK (d : Nat) : Nat → List Int → List Int
  | 0, o => o
  | k + 1, o => repK d k o ++ [rdI (repK d k o) ((repK d k o).length - d)]
theorem repK_length (d k : Nat) (o : List Int) : (repK d k o).length = o.length + k := by
  induction k with
  | zero => rfl
  | succ k ih => rw [repK, List.length_append, ih]; simp; omega
theorem repK_bts {d k : Nat} {o : List Int} (h : Bts o) : Bts (repK d k o) := by
  induction k with
  | zero => exact h
  | succ k ih =>
    refine ih.append fun x hx => ?_
    simp only [List.mem_cons, List.not_mem_nil, or_false] at hx
    subst hx
    exact ih.at _
def stepRun (o r : List Int) : List Int := o ++ (r.drop 1).take ((rdI r 0).toNat + 1)
def stepCopy (o r : List Int) : List Int := repK (rdI r 1).toNat ((rdI r 0).toNat - 124) o
def badTok (o r : List Int) : Bool := decide ((rdI r 0 < 128 ∧ (r.length : Int) < rdI r 0 + 2) ∨ (128 ≤ rdI r 0 ∧ ((r.length : Int) < 2 ∨ rdI r 1 = 0 ∨ (o.length : Int) < rdI r 1)))
def nextOut (o r : List Int) : List Int := if rdI r 0 < 128 then stepRun o r else stepCopy o r
def nextRest (r : List Int) : List Int := if rdI r 0 < 128 then r.drop ((rdI r 0).toNat + 2) else r.drop 2
def un (most : Int) : Nat → List Int → List Int → List Int × Int
  | 0, o, _ => (o, 0)
  | f + 1, o, r =>
    if r = [] then (o, 0)
    else if badTok o r = true then ([], 5)
    else if most < ((nextOut o r).length : Int) then ([], 3)
    else un most f (nextOut o r) (nextRest r)
theorem nextRest_lt (r : List Int) (h : r ≠ []) : (nextRest r).length < r.length := by
  have h0 : 0 < r.length := List.length_pos_iff.2 h
  unfold nextRest
  split
  · rw [List.length_drop]; omega
  · rw [List.length_drop]; omega
theorem un_fuel (most : Int) (f g : Nat) (o r : List Int) (h1 : r.length ≤ f) (h2 : r.length ≤ g) : un most f o r = un most g o r := by
  induction f generalizing g o r with
  | zero =>
    have : r = [] := List.length_eq_zero_iff.1 (by omega)
    subst this
    cases g with
    | zero => rfl
    | succ g => rw [un, un, if_pos rfl]
  | succ f ih =>
    by_cases hr : r = []
    · subst hr
      cases g with
      | zero => rw [un, un, if_pos rfl]
      | succ g => rw [un, un, if_pos rfl, if_pos rfl]
    · have h0 : 0 < r.length := List.length_pos_iff.2 hr
      obtain ⟨g', rfl⟩ : ∃ g', g = g' + 1 := ⟨g - 1, by omega⟩
      have hl := nextRest_lt r hr
      rw [un, un, if_neg hr, if_neg hr, ih g' _ _ (by omega) (by omega)]
def unW (most : Int) (o r : List Int) : List Int × Int := un most r.length o r
theorem unW_end (most : Int) (o : List Int) : unW most o [] = (o, 0) := rfl
theorem unW_bad {most : Int} {o r : List Int} (h : r ≠ []) (hb : badTok o r = true) : unW most o r = ([], 5) := by
  obtain ⟨k, hk⟩ : ∃ k, r.length = k + 1 := ⟨r.length - 1, by have := List.length_pos_iff.2 h; omega⟩
  unfold unW
  rw [hk, un, if_neg h, if_pos hb]
theorem unW_over {most : Int} {o r : List Int} (h : r ≠ []) (hb : badTok o r = false) (hm : most < ((nextOut o r).length : Int)) : unW most o r = ([], 3) := by
  obtain ⟨k, hk⟩ : ∃ k, r.length = k + 1 := ⟨r.length - 1, by have := List.length_pos_iff.2 h; omega⟩
  unfold unW
  rw [hk, un, if_neg h, if_neg (by rw [hb]; decide), if_pos hm]
theorem unW_on {most : Int} {o r : List Int} (h : r ≠ []) (hb : badTok o r = false) (hm : ¬ most < ((nextOut o r).length : Int)) : unW most o r = unW most (nextOut o r) (nextRest r) := by
  obtain ⟨k, hk⟩ : ∃ k, r.length = k + 1 := ⟨r.length - 1, by have := List.length_pos_iff.2 h; omega⟩
  have hl := nextRest_lt r h
  unfold unW
  rw [hk, un, if_neg h, if_neg (by rw [hb]; decide), if_neg hm, un_fuel most k (nextRest r).length _ _ (by omega) (Nat.le_refl _)]
/-- No more than may be; nothing where it is refused; the errors. -/
theorem un_most (most : Int) (f : Nat) (o r : List Int) (h : (o.length : Int) ≤ most) : ((un most f o r).1.length : Int) ≤ most ∧ ((un most f o r).2 = 0 ∨ ((un most f o r).1 = [] ∧ ((un most f o r).2 = 3 ∨ (un most f o r).2 = 5))) := by
  induction f generalizing o r with
  | zero => exact ⟨h, .inl rfl⟩
  | succ f ih =>
    rw [un]
    split
    · exact ⟨h, .inl rfl⟩
    · split
      · exact ⟨by simp; omega, .inr ⟨rfl, .inr rfl⟩⟩
      · split
        · exact ⟨by simp; omega, .inr ⟨rfl, .inl rfl⟩⟩
        · exact ih _ _ (by omega)
theorem nextOut_bts {o r : List Int} (ho : Bts o) (hr : Bts r) : Bts (nextOut o r) := by
  unfold nextOut
  split
  · exact ho.append ((hr.drop 1).take _)
  · exact repK_bts ho
theorem nextRest_bts {r : List Int} (hr : Bts r) : Bts (nextRest r) := by
  unfold nextRest
  split
  · exact hr.drop _
  · exact hr.drop _
theorem un_bts (most : Int) (f : Nat) (o r : List Int) (ho : Bts o) (hr : Bts r) : Bts (un most f o r).1 := by
  induction f generalizing o r with
  | zero => exact ho
  | succ f ih =>
    rw [un]
    split
    · exact ho
    · split
      · exact Bts.nil
      · split
        · exact Bts.nil
        · exact ih _ _ (nextOut_bts ho hr) (nextRest_bts hr)
/-- What Unpack tells. -/
def upk (l : List Int) (most : Int) : List Int × Int :=
  if most < 0 ∨ 65536 < most then ([], 2)
  else if l = [] ∨ 1 < rdI l 0 then ([], 5)
  else if rdI l 0 = 0 then (if most < (l.length : Int) - 1 then ([], 3) else (l.drop 1, 0))
  else unW most [] (l.drop 1)
theorem upk_arg {l : List Int} {most : Int} (h : most < 0 ∨ 65536 < most) : upk l most = ([], 2) := by unfold upk; rw [if_pos h]
theorem upk_cor {l : List Int} {most : Int} (h : ¬ (most < 0 ∨ 65536 < most)) (h2 : l = [] ∨ 1 < rdI l 0) : upk l most = ([], 5) := by unfold upk; rw [if_neg h, if_pos h2]
theorem upk_big {l : List Int} {most : Int} (h : ¬ (most < 0 ∨ 65536 < most)) (h2 : ¬ (l = [] ∨ 1 < rdI l 0)) (h3 : rdI l 0 = 0) (h4 : most < (l.length : Int) - 1) : upk l most = ([], 3) := by unfold upk; rw [if_neg h, if_neg h2, if_pos h3, if_pos h4]
theorem upk_plain {l : List Int} {most : Int} (h : ¬ (most < 0 ∨ 65536 < most)) (h2 : ¬ (l = [] ∨ 1 < rdI l 0)) (h3 : rdI l 0 = 0) (h4 : ¬ most < (l.length : Int) - 1) : upk l most = (l.drop 1, 0) := by unfold upk; rw [if_neg h, if_neg h2, if_pos h3, if_neg h4]
theorem upk_walk {l : List Int} {most : Int} (h : ¬ (most < 0 ∨ 65536 < most)) (h2 : ¬ (l = [] ∨ 1 < rdI l 0)) (h3 : ¬ rdI l 0 = 0) : upk l most = unW most [] (l.drop 1) := by unfold upk; rw [if_neg h, if_neg h2, if_neg h3]
theorem upk_most (l : List Int) (most : Int) (h : 0 ≤ most) : ((upk l most).1.length : Int) ≤ most ∧ ((upk l most).2 = 0 ∨ ((upk l most).1 = [] ∧ ((upk l most).2 = 2 ∨ (upk l most).2 = 3 ∨ (upk l most).2 = 5))) := by
  unfold upk
  split
  · exact ⟨by simp; omega, .inr ⟨rfl, .inl rfl⟩⟩
  split
  · exact ⟨by simp; omega, .inr ⟨rfl, .inr (.inr rfl)⟩⟩
  split
  · split
    · exact ⟨by simp; omega, .inr ⟨rfl, .inr (.inl rfl)⟩⟩
    · refine ⟨?_, .inl rfl⟩
      show ((l.drop 1).length : Int) ≤ most
      rw [List.length_drop]
      omega
  · have := un_most most (l.drop 1).length [] (l.drop 1) (by simp; omega)
    refine ⟨this.1, this.2.imp id (fun h => ⟨h.1, .inr h.2⟩)⟩
theorem upk_bts {l : List Int} (h : Bts l) (most : Int) : Bts (upk l most).1 := by
  unfold upk
  split
  · exact Bts.nil
  split
  · exact Bts.nil
  split
  · split
    · exact Bts.nil
    · exact h.drop 1
  · exact un_bts _ _ _ _ Bts.nil (h.drop 1)
end Go.Proofs.Ytdfpikimeihefaa
