/-
  Differences and sums of numbers: plain lists. No program. No premise.
-/
import Derived.Test.YtdfpikimeihefaaShP
namespace Go.Proofs.Ytdfpikimeihefaa
open Go.RowKit Go.Proofs.YtdfpikimeihefaaW.PrintWords

theorem mod_div (x p q : Int) (hp : 0 < p) (hq : 0 < q) : x % (p * (256 * q)) / p % 256 = x / p % 256 := by
  have e1 : x = p * (256 * q) * (x / (p * (256 * q))) + x % (p * (256 * q)) := (Int.mul_ediv_add_emod _ _).symm
  generalize x / (p * (256 * q)) = a at e1
  generalize x % (p * (256 * q)) = r at e1 ⊢
  have e2 : x = r + (256 * (q * a)) * p := by
    rw [e1, Int.add_comm, Int.mul_comm p, Int.mul_assoc, Int.mul_comm p a, ← Int.mul_assoc, ← Int.mul_assoc]
  rw [e2, Int.add_mul_ediv_right _ _ (by omega)]
  rw [Int.add_mul_emod_self_left]
/-- A number's bytes hang on what is left of it alone. -/
theorem dig_mod (w m : Nat) (hw : w ≤ m) (big : Bool) (x : Int) : dig w big (x % 2 ^ (8 * m)) = dig w big x := by
  unfold dig
  refine List.map_congr_left fun i hi => ?_
  have hi := List.mem_range.1 hi
  obtain ⟨j, hj⟩ : ∃ j, j = if big then w - 1 - i else i := ⟨_, rfl⟩
  have hjm : j < m := by rw [hj]; split <;> omega
  rw [← hj]
  have e : (2 : Int) ^ (8 * m) = 2 ^ (8 * j) * (256 * 2 ^ (8 * (m - j - 1))) := by
    rw [show 8 * m = 8 * j + (8 + 8 * (m - j - 1)) from by omega, Int.pow_add, Int.pow_add]
    rfl
  rw [e, mod_div _ _ _ (Int.pow_pos (by decide)) (Int.pow_pos (by decide))]
theorem dig_cong {w : Nat} {big : Bool} {x y : Int} (h : (x - y) % 2 ^ (8 * w) = 0) : dig w big x = dig w big y := by
  rw [← dig_mod w w (Nat.le_refl _) big x, ← dig_mod w w (Nat.le_refl _) big y]
  rw [Int.emod_eq_emod_iff_emod_sub_eq_zero.2 h]
/-- The number at place i of numbers of w bytes. -/
def uN (w : Nat) (l : List Int) (i : Nat) : Int := getk ((l.drop (i * w)).take w) w false w
theorem uN_range {l : List Int} (h : Bts l) (w i : Nat) : 0 ≤ uN w l i ∧ uN w l i < 2 ^ (8 * w) := getk_range ((h.drop _).take _) w false w
/-- n numbers, as bytes. -/
def numL (w : Nat) (f : Nat → Int) : Nat → List Int
  | 0 => []
  | n + 1 => numL w f n ++ dig w false (f n)
theorem numL_length (w : Nat) (f : Nat → Int) (n : Nat) : (numL w f n).length = n * w := by
  induction n with
  | zero => simp [numL]
  | succ n ih => rw [numL, List.length_append, ih, dig_length, Nat.succ_mul]
theorem numL_bts (w : Nat) (f : Nat → Int) (n : Nat) : Bts (numL w f n) := by
  induction n with
  | zero => exact Bts.nil
  | succ n ih => exact ih.append (dig_bts _ _ _)
theorem numL_cong {w : Nat} {f g : Nat → Int} {n : Nat} (h : ∀ i, i < n → dig w false (f i) = dig w false (g i)) : numL w f n = numL w g n := by
  induction n with
  | zero => rfl
  | succ n ih => rw [numL, numL, ih (fun i hi => h i (by omega)), h n (by omega)]
theorem numL_at (w : Nat) (f : Nat → Int) (n i : Nat) (hi : i < n) : ∃ s, numL w f n = numL w f i ++ (dig w false (f i) ++ s) := by
  induction n with
  | zero => omega
  | succ n ih =>
    by_cases h : i = n
    · subst h
      exact ⟨[], by rw [List.append_nil, numL]⟩
    · obtain ⟨s, hs⟩ := ih (by omega)
      exact ⟨s ++ dig w false (f n), by rw [numL, hs, List.append_assoc, List.append_assoc]⟩
theorem uN_num (w : Nat) (f : Nat → Int) (n : Nat) (t : List Int) (i : Nat) (hi : i < n) : uN w (numL w f n ++ t) i = f i % 2 ^ (8 * w) := by
  obtain ⟨s, hs⟩ := numL_at w f n i hi
  unfold uN
  rw [hs, List.append_assoc, List.append_assoc]
  rw [show i * w = (numL w f i).length from (numL_length w f i).symm, List.drop_left]
  rw [List.take_left' (dig_length _ _ _), getk_dig w false _ w (Nat.le_refl _)]
/-- Any bytes are their numbers, and what is left. -/
theorem num_self {l : List Int} (hb : Bts l) (w n : Nat) (hn : n * w ≤ l.length) : numL w (uN w l) n = l.take (n * w) := by
  induction n with
  | zero => simp [numL]
  | succ n ih =>
    rw [Nat.succ_mul] at hn
    rw [numL, ih (by omega)]
    unfold uN
    have hb2 : Bts ((l.drop (n * w)).take w) := (hb.drop _).take _
    rw [dig_getk hb2 w false (by rw [List.length_take, List.length_drop]; omega), Nat.succ_mul]
    rw [List.take_add]
def lastU (w : Nat) (l : List Int) : Nat → Int
  | 0 => 0
  | i + 1 => uN w l i
def sumU (w : Nat) (l : List Int) : Nat → Int
  | 0 => 0
  | i + 1 => sumU w l i + uN w l i
def deltaL (w : Nat) (l : List Int) : List Int := numL w (fun i => uN w l i - lastU w l i) (l.length / w) ++ l.drop (l.length / w * w)
def undelL (w : Nat) (l : List Int) : List Int := numL w (fun i => sumU w l (i + 1)) (l.length / w) ++ l.drop (l.length / w * w)
theorem nw_le (w : Nat) (l : List Int) : l.length / w * w ≤ l.length := Nat.div_mul_le_self _ _
theorem deltaL_length (w : Nat) (l : List Int) : (deltaL w l).length = l.length := by
  have := nw_le w l
  unfold deltaL
  rw [List.length_append, numL_length, List.length_drop]
  omega
theorem undelL_length (w : Nat) (l : List Int) : (undelL w l).length = l.length := by
  have := nw_le w l
  unfold undelL
  rw [List.length_append, numL_length, List.length_drop]
  omega
theorem deltaL_bts {l : List Int} (h : Bts l) (w : Nat) : Bts (deltaL w l) := (numL_bts _ _ _).append (h.drop _)
theorem undelL_bts {l : List Int} (h : Bts l) (w : Nat) : Bts (undelL w l) := (numL_bts _ _ _).append (h.drop _)
theorem drop_num (w : Nat) (f : Nat → Int) (n : Nat) (t : List Int) : (numL w f n ++ t).drop (n * w) = t := by
  rw [show n * w = (numL w f n).length from (numL_length w f n).symm, List.drop_left]
theorem emod_sub_self (x m : Int) : (x % m - x) % m = 0 := by
  rw [Int.emod_sub_emod, Int.sub_self, Int.zero_emod]
theorem sum_delta (w : Nat) (l : List Int) (i : Nat) (hi : i ≤ l.length / w) : (sumU w (deltaL w l) i - lastU w l i) % 2 ^ (8 * w) = 0 := by
  induction i with
  | zero => simp [sumU, lastU]
  | succ i ih =>
    have ih := ih (by omega)
    have e : uN w (deltaL w l) i = (uN w l i - lastU w l i) % 2 ^ (8 * w) := by
      unfold deltaL
      exact uN_num w _ _ _ i (by omega)
    show (sumU w (deltaL w l) i + uN w (deltaL w l) i - uN w l i) % 2 ^ (8 * w) = 0
    rw [e]
    generalize uN w l i = u at *
    generalize lastU w l i = a at *
    generalize sumU w (deltaL w l) i = s at *
    have h2 := emod_sub_self (u - a) (2 ^ (8 * w))
    generalize (2 : Int) ^ (8 * w) = m at *
    have h3 := Int.emod_emod_of_dvd
    have hd1 := Int.dvd_of_emod_eq_zero ih
    have hd2 := Int.dvd_of_emod_eq_zero h2
    refine Int.emod_eq_zero_of_dvd ?_
    have := Int.dvd_add hd1 hd2
    rw [show s + (u - a) % m - u = (s - a) + ((u - a) % m - (u - a)) from by omega]
    exact this
theorem undel_delta {l : List Int} (hb : Bts l) (w : Nat) : undelL w (deltaL w l) = l := by
  have hle := nw_le w l
  unfold undelL
  rw [deltaL_length]
  have e1 : (deltaL w l).drop (l.length / w * w) = l.drop (l.length / w * w) := by unfold deltaL; exact drop_num ..
  have e2 : numL w (fun i => sumU w (deltaL w l) (i + 1)) (l.length / w) = numL w (uN w l) (l.length / w) := numL_cong fun i hi => dig_cong (sum_delta w l (i + 1) (by omega))
  rw [e1, e2, num_self hb w _ hle, List.take_append_drop]
theorem last_undel (w : Nat) (l : List Int) (i : Nat) (hi : i ≤ l.length / w) : (lastU w (undelL w l) i - sumU w l i) % 2 ^ (8 * w) = 0 := by
  cases i with
  | zero => simp [sumU, lastU]
  | succ i =>
    show (uN w (undelL w l) i - sumU w l (i + 1)) % 2 ^ (8 * w) = 0
    have e : uN w (undelL w l) i = sumU w l (i + 1) % 2 ^ (8 * w) := by
      unfold undelL
      exact uN_num w _ _ _ i (by omega)
    rw [e]
    exact emod_sub_self _ _
theorem delta_undel {l : List Int} (hb : Bts l) (w : Nat) : deltaL w (undelL w l) = l := by
  have hle := nw_le w l
  unfold deltaL
  rw [undelL_length]
  have e1 : (undelL w l).drop (l.length / w * w) = l.drop (l.length / w * w) := by unfold undelL; exact drop_num ..
  have e2 : numL w (fun i => uN w (undelL w l) i - lastU w (undelL w l) i) (l.length / w) = numL w (uN w l) (l.length / w) := numL_cong fun i hi => by
    refine dig_cong ?_
    have h1 := last_undel w l (i + 1) (by omega)
    have h2 := last_undel w l i (by omega)
    have e : sumU w l (i + 1) = sumU w l i + uN w l i := rfl
    have e3 : lastU w (undelL w l) (i + 1) = uN w (undelL w l) i := rfl
    rw [e, e3] at h1
    generalize uN w (undelL w l) i = a at *
    generalize lastU w (undelL w l) i = b at *
    generalize sumU w l i = s at *
    generalize uN w l i = u at *
    generalize (2 : Int) ^ (8 * w) = m at *
    have hd := Int.dvd_sub (Int.dvd_of_emod_eq_zero h1) (Int.dvd_of_emod_eq_zero h2)
    refine Int.emod_eq_zero_of_dvd ?_
    rw [show a - b - u = a - (s + u) - (b - s) from by omega]
    exact hd
  rw [e1, e2, num_self hb w _ hle, List.take_append_drop]
end Go.Proofs.Ytdfpikimeihefaa
