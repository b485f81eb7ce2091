/-
  Digits of what digits come to; check.Seal, check.Unseal. No premise.
-/
import Derived.Test.YtelphnkbaeglaaaDoorChk2
import Derived.Test.YtelphnkbaeglaaaDoorOct5
namespace Go.Proofs.YtelphnkbaeglaaaDoor
open Go.RowKit Go.Proofs.YtelphnkbaeglaaaDoorW.PrintWords

theorem getk_at {l : List Int} (h : Bts l) (n : Nat) (big : Bool) (k j : Nat) (hj : j < k) : getk l n big k / 2 ^ (8 * j) % 256 = dgt l n big j := by
  induction k with
  | zero => omega
  | succ k ih =>
    have e : getk l n big (k + 1) = getk l n big k + dgt l n big k * 2 ^ (8 * k) := rfl
    have hd : 0 ≤ dgt l n big k ∧ dgt l n big k ≤ 255 := h.at _
    rw [e]
    have hp : (0 : Int) < 2 ^ (8 * j) := Int.pow_pos (by decide)
    by_cases hk : j = k
    · subst hk
      have hr := getk_range h n big j
      rw [Int.add_mul_ediv_right _ _ (by omega), Int.ediv_eq_zero_of_lt hr.1 hr.2]
      omega
    · have h8 : 8 * k = 8 * j + (8 + 8 * (k - j - 1)) := by omega
      have hpw : (2 : Int) ^ (8 * k) = 256 * 2 ^ (8 * (k - j - 1)) * 2 ^ (8 * j) := by
        rw [h8, Int.pow_add, Int.pow_add, Int.mul_comm]
        rfl
      rw [hpw, ← Int.mul_assoc, Int.add_mul_ediv_right _ _ (by omega), ← ih (by omega)]
      rw [Int.mul_comm 256, ← Int.mul_assoc, Int.add_mul_emod_self_right]
theorem dig_getk {l : List Int} (h : Bts l) (n : Nat) (big : Bool) (hn : l.length = n) : dig n big (getk l n big n) = l :=
  ext_rdI (by rw [dig_length, hn]) fun i hi => by
    rw [dig_length] at hi
    have e1 : rdI (dig n big (getk l n big n)) i = getk l n big n / 2 ^ (8 * (if big then n - 1 - i else i)) % 256 := by
      unfold rdI dig
      rw [List.getD_eq_getElem?_getD, List.getElem?_map, List.getElem?_range hi]
      rfl
    rw [e1, getk_at h n big n _ (by split <;> omega)]
    unfold dgt
    cases big
    · rfl
    · simp only [if_true]
      rw [show n - 1 - (n - 1 - i) = i from by omega]

theorem fits4 {u : Int} (h0 : 0 ≤ u) (h : u < 4294967296) : fitsB u 4 = true := by
  unfold fitsB
  have hp : (2 : Int) ^ (8 * (4 : Int)).toNat = 4294967296 := by decide +kernel
  rw [hp, Int.ediv_eq_zero_of_lt h0 h]
  rfl
def sealL (b : List Int) : List Int := b ++ dig 4 false (moreS 0 b)
theorem putL4 (b : List Int) {u : Int} (h0 : 0 ≤ u) (h : u < 4294967296) : putL b 4 false u = b ++ dig 4 false u := by
  unfold putL
  rw [if_pos ⟨by decide, by decide, fits4 h0 h⟩]
  rfl
theorem putE4 {u : Int} (h0 : 0 ≤ u) (h : u < 4294967296) : putE 4 u = 0 := by
  unfold putE
  rw [if_pos ⟨by decide, by decide⟩, if_pos (fits4 h0 h)]

set_option maxHeartbeats 800000 in
theorem seal_any (A : Option Addr) (c : Nat) (l : List Int) (w : World) (hr : Rd w A l) (hb : Bts l) (hT : TabAt w) (hl : l.length + 8 ≤ 150000000000000) :
    Calls Tryd.prog 19 #[.slice A l.length c] w fun e w' => ∃ v, e = .returned v ∧ Own w' w.heap.size v (sealL l) ∧ Below w.heap.size w w' := by
  have HR := Lib.hid hr
  have HT := Lib.hid hT
  have HBt := Lib.hid hb
  obtain ⟨m, hm⟩ : ∃ m, m = moreS 0 l := ⟨_, rfl⟩
  obtain ⟨h0, h1⟩ := moreS_range 0 l
  rw [← hm] at h0 h1
  have HM := Lib.hid hm
  clear hr hT hb hm
  go_enter Tryd.func19, Tryd.ntmps19
  go_wp2_with (first | (go_at_call 15; refine (crc_any A c l w HR.out HBt.out HT.out (by omega)).mono ?_; rintro e w1 ⟨rfl, rfl⟩; rw [← HM.out]) | (go_at_call 24; refine (put_any A c l 4 false m w HR.out (by omega)).mono ?_; rintro e w1 ⟨v, rfl, ho, hb⟩; rw [putL4 _ h0 h1, HM.out] at ho; have HO := Lib.hid ho; have HB := Lib.hid hb; clear ho hb))
  go_ret
  exact ⟨_, rfl, HO.out, HB.out⟩

def usE (b : List Int) : Int := if b.length < 4 then 4 else if sealL (b.take (b.length - 4)) = b then 0 else 5
def usL (b : List Int) : List Int := if usE b = 0 then b.take (b.length - 4) else []
theorem dig4_mod {u : Int} (h0 : 0 ≤ u) (h : u < 4294967296) : getk (dig 4 false u) 4 false 4 = u := by
  rw [getk_dig 4 false u 4 (by decide)]
  have hp : (2 : Int) ^ (8 * 4) = 4294967296 := by decide +kernel
  rw [hp, Int.emod_eq_of_lt h0 h]
theorem us_sum (b : List Int) (hb : Bts b) (h : ¬ b.length < 4) : getU b ((b.length : Int) - 4) 4 false = getk (b.drop (b.length - 4)) 4 false 4 := by
  unfold getU
  rw [if_pos (by omega), show ((b.length : Int) - 4).toNat = b.length - 4 from by omega]
  rw [List.take_of_length_le (by rw [List.length_drop]; show _ ≤ 4; omega)]
  rfl
theorem us_getE (b : List Int) (h : ¬ b.length < 4) : getE b ((b.length : Int) - 4) 4 = 0 := by
  unfold getE
  rw [if_pos (by omega), if_neg (by omega)]
theorem us_eq (b : List Int) (hb : Bts b) (h : ¬ b.length < 4) : (getk (b.drop (b.length - 4)) 4 false 4 = moreS 0 (b.take (b.length - 4))) ↔ sealL (b.take (b.length - 4)) = b := by
  have hd : (b.drop (b.length - 4)).length = 4 := by rw [List.length_drop]; omega
  have hb2 : Bts (b.drop (b.length - 4)) := hb.drop _
  have e1 := dig_getk hb2 4 false hd
  have hm := moreS_range 0 (b.take (b.length - 4))
  constructor
  · intro h2
    unfold sealL
    rw [← h2, e1, List.take_append_drop]
  · intro h2
    unfold sealL at h2
    have h3 : b.drop (b.length - 4) = dig 4 false (moreS 0 (b.take (b.length - 4))) := by
      have ht : (b.take (b.length - 4)).length = b.length - 4 := by rw [List.length_take]; omega
      have h4 := congrArg (List.drop (b.take (b.length - 4)).length) h2
      rw [List.drop_left, ht] at h4
      exact h4.symm
    rw [h3, dig4_mod hm.1 hm.2]
theorem cut_pre (A : Option Addr) (l : List Int) (c : Nat) (hi : Int) (h1 : 0 ≤ hi) (h2 : hi ≤ l.length) (hc : l.length ≤ c) :
    (∀ W : World, (Instr.slice 22 (.slice A l.length c) none (some (.int .i64 hi)) none).run Tryd.prog W = .ok (.slice A (l.take hi.toNat).length c) W) ∧
      (∀ w, Rd w A l → Rd w A (l.take hi.toNat)) := by
  obtain ⟨i0, hi', hz0, hz1, hz2⟩ := info_parts infoB
  obtain ⟨g1, g2⟩ := print_take_int (P := Tryd.prog) (k := .u8) 22 5 Tryd.underlying22 hi' hz1 A c l hi h1 h2 hc
  exact ⟨g1, g2.1⟩
theorem pair_ret {v : Value} {k : IntKind} {x y : Int} (h : x = y) : Ending.returned (.tuple #[v, .int k x]) = .returned (.tuple #[v, .int k y]) := by rw [h]

set_option maxHeartbeats 800000 in
theorem unseal_any (A : Option Addr) (c : Nat) (b : List Int) (w : World) (hr : Rd w A b) (hb : Bts b) (hT : TabAt w) (hc : b.length ≤ c) (hl : b.length + 8 ≤ 150000000000000) :
    Calls Tryd.prog 20 #[.slice A b.length c] w fun e w' => ∃ v, e = .returned (.tuple #[v, .int .i64 (usE b)]) ∧ Own w' w.heap.size v (usL b) ∧ Below w.heap.size w w' := by
  have HR := Lib.hid hr
  have HT := Lib.hid hT
  have HBt := Lib.hid hb
  clear hr hT hb
  by_cases h4 : b.length < 4
  · have hE : usE b = 4 := by unfold usE; rw [if_pos h4]
    have HE := Lib.hid hE
    clear hE
    go_enter Tryd.func20, Tryd.ntmps20
    go_wp2_with fail
    go_ret2
    have hE := HE.out
    refine ⟨.slice none 0 0, pair_ret hE.symm, ?_, Below.refl _ _⟩
    unfold usL
    rw [if_neg (by omega)]
    exact World.ownsRow_nil _ _ _ _
  · have hus := us_eq b HBt.out h4
    have hg := us_sum b HBt.out h4
    have hge := us_getE b h4
    obtain ⟨t, ht⟩ : ∃ t, t = b.take (b.length - 4) := ⟨_, rfl⟩
    have hbt : Bts t := by rw [ht]; exact HBt.out.take _
    have htl : t.length = b.length - 4 := by rw [ht, List.length_take]; omega
    obtain ⟨hcut, hrd⟩ := cut_pre A b c ((b.length : Int) - 4) (by omega) (by omega) hc
    rw [show ((b.length : Int) - 4).toNat = b.length - 4 from by omega, ← ht] at hcut hrd
    rw [← ht] at hus
    have hgr : 0 ≤ getk (b.drop (b.length - 4)) 4 false 4 ∧ getk (b.drop (b.length - 4)) 4 false 4 < 4294967296 := getk_range (HBt.out.drop _) 4 false 4
    obtain ⟨m, hm⟩ : ∃ m, m = moreS 0 t := ⟨_, rfl⟩
    obtain ⟨hm0, hm1⟩ := moreS_range 0 t
    have HM := Lib.hid hm
    rw [← hm] at hus hm0 hm1
    have HG := Lib.hid hg
    have HGE := Lib.hid hge
    have HRD := Lib.hid (hrd)
    have HBT := Lib.hid hbt
    have HTE := Lib.hid ht
    have htl2 : t.length ≤ 150000000000000 := by omega
    have HTL := Lib.hid htl2
    clear hg hge hrd hbt hm ht htl htl2
    generalize getk (b.drop (b.length - 4)) 4 false 4 = u at hus hgr HG
    obtain ⟨hu0, hu1⟩ := hgr
    by_cases hum : u = m
    · have hE : usE b = 0 := by
        unfold usE
        rw [if_neg h4, ← HTE.out, if_pos (hus.1 hum)]
      have HE := Lib.hid hE
      subst hum
      clear hE hus
      go_enter Tryd.func20, Tryd.ntmps20
      go_wp2_with (first | (go_at_call 25; refine (get_any A c b ((b.length : Int) - 4) 4 false _ HR.out HBt.out hc (by omega) (by omega) (by omega)).mono ?_; rintro e w1 ⟨rfl, hb⟩; rw [HGE.out, HG.out]; have HB := Lib.hid hb; clear hb) | (go_at_call 15; refine (crc_any A c t w1 (HRD.out _ (HR.out.below HB.out)) HBT.out (HT.out.below HB.out (Nat.le_refl _)) HTL.out).mono ?_; rintro e w2 ⟨rfl, rfl⟩; rw [← HM.out]) | (go_at_call 26; refine (clone_any A c t _ (HRD.out _ (HR.out.below HB.out)) HTL.out).mono ?_; rintro e w3 ⟨v, rfl, ho, hb2⟩; have HO := Lib.hid ho; have HB2 := Lib.hid hb2; clear ho hb2))
      go_ret2
      have hE := HE.out
      refine ⟨v, pair_ret hE.symm, ?_, HB.out.trans (HB2.out.mono HB.out.size)⟩
      unfold usL
      rw [if_pos hE, ← HTE.out]
      exact own_weaken HO.out HB.out.size
    · have hE : usE b = 5 := by
        unfold usE
        rw [if_neg h4, ← HTE.out, if_neg (fun h => hum (hus.2 h))]
      have HE := Lib.hid hE
      clear hE hus
      go_enter Tryd.func20, Tryd.ntmps20
      go_wp2_with (first | (go_at_call 25; refine (get_any A c b ((b.length : Int) - 4) 4 false _ HR.out HBt.out hc (by omega) (by omega) (by omega)).mono ?_; rintro e w1 ⟨rfl, hb⟩; rw [HGE.out, HG.out]; have HB := Lib.hid hb; clear hb) | (go_at_call 15; refine (crc_any A c t w1 (HRD.out _ (HR.out.below HB.out)) HBT.out (HT.out.below HB.out (Nat.le_refl _)) HTL.out).mono ?_; rintro e w2 ⟨rfl, rfl⟩; rw [← HM.out]))
      go_ret2
      have hE := HE.out
      refine ⟨.slice none 0 0, pair_ret hE.symm, ?_, HB.out⟩
      unfold usL
      rw [if_neg (by omega)]
      exact World.ownsRow_nil _ _ _ _
end Go.Proofs.YtelphnkbaeglaaaDoor
