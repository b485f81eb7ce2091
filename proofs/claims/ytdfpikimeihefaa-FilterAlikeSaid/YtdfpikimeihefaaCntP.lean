/-
  What is shuffled has each byte as often as before: sums. No program. No premise.
-/
import Derived.Test.YtdfpikimeihefaaShP
namespace Go.Proofs.Ytdfpikimeihefaa
open Go.RowKit Go.Proofs.YtdfpikimeihefaaW.PrintWords

def sumTo (f : Nat → Int) : Nat → Int
  | 0 => 0
  | n + 1 => sumTo f n + f n
theorem sumTo_congr {f g : Nat → Int} {n : Nat} (h : ∀ i, i < n → f i = g i) : sumTo f n = sumTo g n := by
  induction n with
  | zero => rfl
  | succ n ih => rw [sumTo, sumTo, ih (fun i hi => h i (by omega)), h n (by omega)]
theorem sumTo_add (f g : Nat → Int) (n : Nat) : sumTo (fun i => f i + g i) n = sumTo f n + sumTo g n := by
  induction n with
  | zero => rfl
  | succ n ih =>
    simp only [sumTo, ih]
    omega
theorem sumTo_sub (f g : Nat → Int) (n : Nat) : sumTo (fun i => f i - g i) n = sumTo f n - sumTo g n := by
  induction n with
  | zero => rfl
  | succ n ih =>
    simp only [sumTo, ih]
    omega
theorem sumTo_zero (n : Nat) : sumTo (fun _ => 0) n = 0 := by
  induction n with
  | zero => rfl
  | succ n ih => rw [sumTo, ih]; rfl
theorem sumTo_swap (f : Nat → Nat → Int) (a b : Nat) : sumTo (fun i => sumTo (fun j => f i j) b) a = sumTo (fun j => sumTo (fun i => f i j) a) b := by
  induction a with
  | zero => exact (sumTo_zero b).symm
  | succ a ih =>
    have e : (fun j => sumTo (fun i => f i j) (a + 1)) = fun j => sumTo (fun i => f i j) a + f a j := rfl
    rw [e, sumTo_add, ← ih]
    rfl
theorem sumTo_split (f : Nat → Int) (m n : Nat) : sumTo f (m + n) = sumTo f m + sumTo (fun i => f (m + i)) n := by
  induction n with
  | zero => exact (Int.add_zero _).symm
  | succ n ih =>
    rw [← Nat.add_assoc, sumTo, ih, sumTo, Int.add_assoc]
theorem sumTo_rows (f : Nat → Int) (a n : Nat) : sumTo f (a * n) = sumTo (fun k => sumTo (fun i => f (k * n + i)) n) a := by
  induction a with
  | zero => rw [Nat.zero_mul]; rfl
  | succ a ih => rw [Nat.succ_mul, sumTo_split, ih]; rfl
def ind (x v : Int) : Int := if x = v then 1 else 0
theorem cnt_shuf (w : Nat) (hw : 0 < w) (l : List Int) (v : Int) : sumTo (fun i => ind (rdI l i) v - ind (rdI (shufL w l) i) v) l.length = 0 := by
  have hle := wn_le w l
  obtain ⟨n, hn⟩ : ∃ n, n = l.length / w := ⟨_, rfl⟩
  rw [← hn] at hle
  rw [sumTo_sub]
  obtain ⟨t, ht⟩ : ∃ t, l.length = w * n + t := ⟨l.length - w * n, by omega⟩
  rw [ht, sumTo_split, sumTo_split]
  have e1 : sumTo (fun i => ind (rdI l i) v) (w * n) = sumTo (fun i => ind (rdI (shufL w l) i) v) (w * n) := by
    have a1 : sumTo (fun i => ind (rdI (shufL w l) i) v) (w * n) = sumTo (fun k => sumTo (fun i => ind (rdI l (i * w + k)) v) n) w := by
      rw [sumTo_rows]
      refine sumTo_congr fun k hk => sumTo_congr fun i hi => ?_
      have hr := rank_in hi hk
      have : rdI (shufL w l) (k * n + i) = rdI l (i * w + k) := by
        unfold shufL
        rw [← hn, rdI_append_lt _ _ _ (by rw [preL_length]; exact hr), rdI_preL _ _ _ hr]
        unfold shF
        rw [mod_of hi, div_of hi]
      rw [this]
    rw [a1, sumTo_swap, Nat.mul_comm w n, sumTo_rows]
  have e2 : sumTo (fun i => ind (rdI l (w * n + i)) v) t = sumTo (fun i => ind (rdI (shufL w l) (w * n + i)) v) t := by
    refine sumTo_congr fun i hi => ?_
    have : rdI (shufL w l) (w * n + i) = rdI l (w * n + i) := by
      unfold shufL
      rw [← hn, rdI_append_ge _ _ _ (by rw [preL_length]; omega), preL_length, rdI_drop, Nat.add_sub_cancel_left]
    rw [this]
  rw [e1, e2]
  omega
theorem shuf_same (w : Nat) (n : Nat) (x : Int) : shufL w (List.replicate n x) = List.replicate n x := ext_rdI (shufL_length w _) fun q hq => by
  rw [shufL_length, List.length_replicate] at hq
  have hall : ∀ i, i < n → rdI (List.replicate n x) i = x := fun i hi => by
    unfold rdI
    rw [List.getD_eq_getElem?_getD, List.getElem?_replicate, if_pos hi]
    rfl
  rw [hall q hq]
  have hle := wn_le w (List.replicate n x)
  unfold shufL
  rw [List.length_replicate] at *
  by_cases h1 : q < w * (n / w)
  · rw [rdI_append_lt _ _ _ (by rw [preL_length]; exact h1), rdI_preL _ _ _ h1]
    unfold shF
    have hn : 0 < n / w := by
      rcases Nat.eq_zero_or_pos (n / w) with h | h
      · rw [h] at h1; omega
      · exact h
    have hi : q % (n / w) < n / w := Nat.mod_lt _ hn
    have hk : q / (n / w) < w := by rw [Nat.div_lt_iff_lt_mul hn]; exact h1
    have := place_in hi hk
    exact hall _ (by omega)
  · rw [rdI_append_ge _ _ _ (by rw [preL_length]; omega), preL_length, rdI_drop]
    exact hall _ (by omega)
end Go.Proofs.Ytdfpikimeihefaa
