/-
  octet.Swap, octet.PutBytes, octet.GetBytes. No premise.
-/
import Derived.Test.YtadmpjikkpnjnaaDoorOct4
namespace Go.Proofs.YtadmpjikkpnjnaaDoor
open Go.RowKit Go.Proofs.YtadmpjikkpnjnaaDoorW.PrintWords

theorem own_cases {w : World} {base : Nat} {v : Value} {l : List Int} (h : Own w base v l) : (v = .slice none 0 0 ∧ l = []) ∨ ∃ g cap, v = .slice (some ⟨g, 0, none⟩) l.length cap := by
  rcases h.2 with ⟨h1, h2⟩ | ⟨g, cap, _, h1, _⟩
  · exact .inl ⟨h1, List.eq_nil_of_length_eq_zero h2⟩
  · exact .inr ⟨g, cap, h1⟩

theorem cut_int (A : Option Addr) (l : List Int) (c : Nat) (lo hi : Int) (h0 : 0 ≤ lo) (h1 : lo ≤ hi) (h2 : hi ≤ l.length) (hc : l.length ≤ c) :
    ∃ A' l', Hid (l' = (l.drop lo.toNat).take (hi - lo).toNat) ∧ Hid ((l'.length : Int) = hi - lo) ∧
      (∀ W : World, (Instr.slice 25 (.slice A l.length c) (some (.int .i64 lo)) (some (.int .i64 hi)) none).run Tryd.prog W = .ok (.slice A' l'.length (c - lo.toNat)) W) ∧
      (∀ w, Rd w A l → Rd w A' l') ∧ l'.length ≤ c - lo.toNat := by
  obtain ⟨i0, hi', hz0, hz1, hz2⟩ := info_parts infoB
  obtain ⟨A', g1, g2, g3⟩ := print_mid_int (P := Tryd.prog) (k := .u8) 25 5 Tryd.underlying25 hi' hz1 A c l lo hi h0 h1 h2 hc
  have hd : (l.take hi.toNat).drop lo.toNat = (l.drop lo.toNat).take (hi - lo).toNat := by rw [List.drop_take]; congr 1; omega
  rw [hd] at g1 g2 g3
  refine ⟨A', (l.drop lo.toNat).take (hi - lo).toNat, rfl, ?_, g1, g2, g3⟩
  show (_ : Int) = _
  simp
  omega

def pbL (b x : List Int) : List Int := if x.length ≤ 65536 then b ++ dig 4 true x.length ++ x else []
def pbE (x : List Int) : Int := if x.length ≤ 65536 then 0 else 3
def PbPost (w : World) (b x : List Int) (e : Ending) (w' : World) : Prop :=
  ∃ v, e = .returned (.tuple #[v, .int .i64 (pbE x)]) ∧ Own w' w.heap.size v (pbL b x) ∧ Below w.heap.size w w'
theorem putE_len (x : List Int) (h : x.length ≤ 65536) : putE 4 x.length = 0 := by
  have : fitsB x.length 4 = true := by simp [fitsB]; omega
  simp [putE, this]
theorem putL_len (b x : List Int) (h : x.length ≤ 65536) : putL b 4 true x.length = b ++ dig 4 true x.length := by
  have : fitsB x.length 4 = true := by simp [fitsB]; omega
  simp [putL, this]

/-- What GetBytes tells: the run, the place behind it, the error. -/
def gbE (b : List Int) (at_ : Int) : Int := if getE b at_ 4 ≠ 0 then getE b at_ 4 else if 65536 < getU b at_ 4 true then 3 else if (b.length : Int) - at_ - 4 < getU b at_ 4 true then 4 else 0
def gbL (b : List Int) (at_ : Int) : List Int := if gbE b at_ = 0 then (b.drop (at_.toNat + 4)).take (getU b at_ 4 true).toNat else []
def gbN (b : List Int) (at_ : Int) : Int := if gbE b at_ = 0 then at_ + 4 + getU b at_ 4 true else 0
def GbPost (w : World) (b : List Int) (at_ : Int) (e : Ending) (w' : World) : Prop :=
  ∃ v, e = .returned (.tuple #[v, .int .i64 (gbN b at_), .int .i64 (gbE b at_)]) ∧ Own w' w.heap.size v (gbL b at_) ∧ Below w.heap.size w w'
theorem ret3 {v : Value} {k k' : IntKind} {x y a b : Int} (h1 : x = y) (h : a = b) : Ending.returned (.tuple #[v, .int k x, .int k' a]) = .returned (.tuple #[v, .int k y, .int k' b]) := by rw [h1, h]

theorem own_str {w : World} {base : Nat} {v : Value} {l : List Int} (h : Own w base v l) : (convert 25 9 v).run Tryd.prog w = .ok (.string (strOfNums l)) w :=
  own_string Tryd.underlying25 Tryd.underlying5 Tryd.underlying9 h

theorem own_strN {w : World} {base : Nat} {v : Value} {l : List Int} (h : Own w base v l) (m : Nat) : (convert 25 9 v).run Tryd.prog (w.drewN m) = .ok (.string (strOfNums l)) (w.drewN m) :=
  own_str (w := w.drewN m) (base := base) h
theorem own_step {w w1 : World} {base : Nat} {v : Value} {l : List Int} (h : Own w base v l) (hb : Below w.heap.size w w1) : Own w1 base v l := pw_own_below h hb
/-- What is written is another block. -/
theorem own_far {w w1 : World} {base : Nat} {v : Value} {l : List Int} {r : Option Nat} (h : Own w base v l) (hg : w.grownBy w1 r) (hr : ∀ k, r = some k → v.ownBlock ≠ some k) : Own w1 base v l := by
  refine own_other h hg ?_
  rcases r with _ | k
  · cases v.ownBlock <;> simp
  · exact .inr (hr k rfl)
theorem own_lo {w : World} {base : Nat} {v : Value} {l : List Int} (h : Own w base v l) {k : Nat} (hk : v.ownBlock = some k) : base ≤ k := own_base h k hk
theorem own_hi {w : World} {base : Nat} {v : Value} {l : List Int} (h : Own w base v l) {k : Nat} (hk : v.ownBlock = some k) : k < w.heap.size := own_lt h k hk
theorem getk_at {l : List Int} (h : Bts l) (n : Nat) (big : Bool) (k j : Nat) (hj : j < k) : getk l n big k / 2 ^ (8 * j) % 256 = dgt l n big j := by
  induction k with
  | zero => omega
  | succ k ih =>
    have e : getk l n big (k + 1) = getk l n big k + dgt l n big k * 2 ^ (8 * k) := rfl
    have hd : 0 ≤ dgt l n big k ∧ dgt l n big k ≤ 255 := h.at _
    rw [e]
    have hp : (0 : Int) < 2 ^ (8 * j) := Int.pow_pos (by decide)
    by_cases hk : j = k
    · subst hk
      have hr := getk_range h n big j
      rw [Int.add_mul_ediv_right _ _ (by omega), Int.ediv_eq_zero_of_lt hr.1 hr.2]
      omega
    · have h8 : 8 * k = 8 * j + (8 + 8 * (k - j - 1)) := by omega
      have hpw : (2 : Int) ^ (8 * k) = 256 * 2 ^ (8 * (k - j - 1)) * 2 ^ (8 * j) := by
        rw [h8, Int.pow_add, Int.pow_add, Int.mul_comm]
        rfl
      rw [hpw, ← Int.mul_assoc, Int.add_mul_ediv_right _ _ (by omega), ← ih (by omega)]
      rw [Int.mul_comm 256, ← Int.mul_assoc, Int.add_mul_emod_self_right]
theorem dig_getk {l : List Int} (h : Bts l) (n : Nat) (big : Bool) (hn : l.length = n) : dig n big (getk l n big n) = l :=
  ext_rdI (by rw [dig_length, hn]) fun i hi => by
    rw [dig_length] at hi
    have e1 : rdI (dig n big (getk l n big n)) i = getk l n big n / 2 ^ (8 * (if big then n - 1 - i else i)) % 256 := by
      unfold rdI dig
      rw [List.getD_eq_getElem?_getD, List.getElem?_map, List.getElem?_range hi]
      rfl
    rw [e1, getk_at h n big n _ (by split <;> omega)]
    unfold dgt
    cases big
    · rfl
    · simp only [if_true]
      rw [show n - 1 - (n - 1 - i) = i from by omega]

theorem pair_ret {v : Value} {k : IntKind} {x y : Int} (h : x = y) : Ending.returned (.tuple #[v, .int k x]) = .returned (.tuple #[v, .int k y]) := by rw [h]
end Go.Proofs.YtadmpjikkpnjnaaDoor
