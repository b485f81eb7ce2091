/-
  Digits of what digits come to; check.Seal, check.Unseal. No premise.
-/
import Derived.Test.YtadmpjikkpnjnaaDoorChk2
import Derived.Test.YtadmpjikkpnjnaaDoorOct5
namespace Go.Proofs.YtadmpjikkpnjnaaDoor
open Go.RowKit Go.Proofs.YtadmpjikkpnjnaaDoorW.PrintWords

theorem fits4 {u : Int} (h0 : 0 ≤ u) (h : u < 4294967296) : fitsB u 4 = true := by
  unfold fitsB
  have hp : (2 : Int) ^ (8 * (4 : Int)).toNat = 4294967296 := by decide +kernel
  rw [hp, Int.ediv_eq_zero_of_lt h0 h]
  rfl
def sealL (b : List Int) : List Int := b ++ dig 4 false (moreS 0 b)
theorem putL4 (b : List Int) {u : Int} (h0 : 0 ≤ u) (h : u < 4294967296) : putL b 4 false u = b ++ dig 4 false u := by
  unfold putL
  rw [if_pos ⟨by decide, by decide, fits4 h0 h⟩]
  rfl
theorem putE4 {u : Int} (h0 : 0 ≤ u) (h : u < 4294967296) : putE 4 u = 0 := by
  unfold putE
  rw [if_pos ⟨by decide, by decide⟩, if_pos (fits4 h0 h)]

set_option maxHeartbeats 800000 in
theorem seal_any (A : Option Addr) (c : Nat) (l : List Int) (w : World) (hr : Rd w A l) (hb : Bts l) (hT : TabAt w) (hl : l.length + 8 ≤ 150000000000000) :
    Calls Tryd.prog 30 #[.slice A l.length c] w fun e w' => ∃ v, e = .returned v ∧ Own w' w.heap.size v (sealL l) ∧ Below w.heap.size w w' := by
  have HR := Lib.hid hr
  have HT := Lib.hid hT
  have HBt := Lib.hid hb
  obtain ⟨m, hm⟩ : ∃ m, m = moreS 0 l := ⟨_, rfl⟩
  obtain ⟨h0, h1⟩ := moreS_range 0 l
  rw [← hm] at h0 h1
  have HM := Lib.hid hm
  clear hr hT hb hm
  go_enter Tryd.func30, Tryd.ntmps30
  go_wp2_with (first | (go_at_call 46; refine (crc_any A c l w HR.out HBt.out HT.out (by omega)).mono ?_; rintro e w1 ⟨rfl, rfl⟩; rw [← HM.out]) | (go_at_call 29; refine (put_any A c l 4 false m w HR.out (by omega)).mono ?_; rintro e w1 ⟨v, rfl, ho, hb⟩; rw [putL4 _ h0 h1, HM.out] at ho; have HO := Lib.hid ho; have HB := Lib.hid hb; clear ho hb))
  go_ret
  exact ⟨_, rfl, HO.out, HB.out⟩

def usE (b : List Int) : Int := if b.length < 4 then 4 else if sealL (b.take (b.length - 4)) = b then 0 else 5
def usL (b : List Int) : List Int := if usE b = 0 then b.take (b.length - 4) else []
theorem dig4_mod {u : Int} (h0 : 0 ≤ u) (h : u < 4294967296) : getk (dig 4 false u) 4 false 4 = u := by
  rw [getk_dig 4 false u 4 (by decide)]
  have hp : (2 : Int) ^ (8 * 4) = 4294967296 := by decide +kernel
  rw [hp, Int.emod_eq_of_lt h0 h]
theorem us_sum (b : List Int) (hb : Bts b) (h : ¬ b.length < 4) : getU b ((b.length : Int) - 4) 4 false = getk (b.drop (b.length - 4)) 4 false 4 := by
  unfold getU
  rw [if_pos (by omega), show ((b.length : Int) - 4).toNat = b.length - 4 from by omega]
  rw [List.take_of_length_le (by rw [List.length_drop]; show _ ≤ 4; omega)]
  rfl
theorem us_getE (b : List Int) (h : ¬ b.length < 4) : getE b ((b.length : Int) - 4) 4 = 0 := by
  unfold getE
  rw [if_pos (by omega), if_neg (by omega)]
theorem us_eq (b : List Int) (hb : Bts b) (h : ¬ b.length < 4) : (getk (b.drop (b.length - 4)) 4 false 4 = moreS 0 (b.take (b.length - 4))) ↔ sealL (b.take (b.length - 4)) = b := by
  have hd : (b.drop (b.length - 4)).length = 4 := by rw [List.length_drop]; omega
  have hb2 : Bts (b.drop (b.length - 4)) := hb.drop _
  have e1 := dig_getk hb2 4 false hd
  have hm := moreS_range 0 (b.take (b.length - 4))
  constructor
  · intro h2
    unfold sealL
    rw [← h2, e1, List.take_append_drop]
  · intro h2
    unfold sealL at h2
    have h3 : b.drop (b.length - 4) = dig 4 false (moreS 0 (b.take (b.length - 4))) := by
      have ht : (b.take (b.length - 4)).length = b.length - 4 := by rw [List.length_take]; omega
      have h4 := congrArg (List.drop (b.take (b.length - 4)).length) h2
      rw [List.drop_left, ht] at h4
      exact h4.symm
    rw [h3, dig4_mod hm.1 hm.2]
theorem cut_pre (A : Option Addr) (l : List Int) (c : Nat) (hi : Int) (h1 : 0 ≤ hi) (h2 : hi ≤ l.length) (hc : l.length ≤ c) :
    (∀ W : World, (Instr.slice 25 (.slice A l.length c) none (some (.int .i64 hi)) none).run Tryd.prog W = .ok (.slice A (l.take hi.toNat).length c) W) ∧
      (∀ w, Rd w A l → Rd w A (l.take hi.toNat)) := by
  obtain ⟨i0, hi', hz0, hz1, hz2⟩ := info_parts infoB
  obtain ⟨g1, g2⟩ := print_take_int (P := Tryd.prog) (k := .u8) 25 5 Tryd.underlying25 hi' hz1 A c l hi h1 h2 hc
  exact ⟨g1, g2.1⟩

end Go.Proofs.YtadmpjikkpnjnaaDoor
