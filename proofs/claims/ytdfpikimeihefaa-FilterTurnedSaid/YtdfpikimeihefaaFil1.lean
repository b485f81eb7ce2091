/-
  filter: what each kind does and undoes; seal, unseal. No premise.
-/
import Derived.Test.YtdfpikimeihefaaFiP
import Derived.Test.YtdfpikimeihefaaFiK
import Derived.Test.YtdfpikimeihefaaDel1
import Derived.Test.YtdfpikimeihefaaMat4
import Derived.Test.YtdfpikimeihefaaUn1
namespace Go.Proofs.Ytdfpikimeihefaa
open Go.RowKit Go.Proofs.YtdfpikimeihefaaW.PrintWords

set_option maxHeartbeats 400000 in
theorem do_shuf (b o : Nat) (d : Int) (A : Option Addr) (c : Nat) (l : List Int) (w : World) (hbx : w.cell? ⟨b, o + 1, none⟩ = some (.int .i64 d)) (hr : Rd w A l) (hb : Bts l) (_ : l.length ≤ c) (hl : l.length ≤ 149000000000000) :
    Calls Try.prog 30 #[.slice A l.length c, .pointer (some ⟨b, o, none⟩)] w (MixPost shufL w d l) := by
  have HR := Lib.hid hr
  have HBt := Lib.hid hb
  clear hr hb
  go_enter Try.func30, Try.ntmps30
  go_wp2_with fail
  refine (shuffle_any A c l d w HR.out (by omega)).mono ?_
  rintro e w1 ⟨v, rfl, ho, hb⟩
  have HO := Lib.hid ho
  have HB := Lib.hid hb
  clear ho hb
  go_wp2_with fail
  go_ret2
  exact ⟨v, ret2 rfl, HO.out, HB.out⟩
set_option maxHeartbeats 400000 in
theorem un_shuf (b o : Nat) (d : Int) (A : Option Addr) (c : Nat) (l : List Int) (w : World) (hbx : w.cell? ⟨b, o + 1, none⟩ = some (.int .i64 d)) (hr : Rd w A l) (hb : Bts l) (_ : l.length ≤ c) (hl : l.length ≤ 149000000000000) :
    Calls Try.prog 32 #[.slice A l.length c, .pointer (some ⟨b, o, none⟩)] w (MixPost unshL w d l) := by
  have HR := Lib.hid hr
  have HBt := Lib.hid hb
  clear hr hb
  go_enter Try.func32, Try.ntmps32
  go_wp2_with fail
  refine (unshuffle_any A c l d w HR.out (by omega)).mono ?_
  rintro e w1 ⟨v, rfl, ho, hb⟩
  have HO := Lib.hid ho
  have HB := Lib.hid hb
  clear ho hb
  go_wp2_with fail
  go_ret2
  exact ⟨v, ret2 rfl, HO.out, HB.out⟩
set_option maxHeartbeats 400000 in
theorem do_delta (b o : Nat) (d : Int) (A : Option Addr) (c : Nat) (l : List Int) (w : World) (hbx : w.cell? ⟨b, o + 1, none⟩ = some (.int .i64 d)) (hr : Rd w A l) (hb : Bts l) (hc : l.length ≤ c) (hl : l.length ≤ 149000000000000) :
    Calls Try.prog 34 #[.slice A l.length c, .pointer (some ⟨b, o, none⟩)] w (MixPost deltaL w d l) := by
  have HR := Lib.hid hr
  have HBt := Lib.hid hb
  clear hr hb
  go_enter Try.func34, Try.ntmps34
  go_wp2_with fail
  refine (delta_any A c l d w HR.out HBt.out hc (by omega)).mono ?_
  rintro e w1 ⟨v, rfl, ho, hb⟩
  have HO := Lib.hid ho
  have HB := Lib.hid hb
  clear ho hb
  go_wp2_with fail
  go_ret2
  exact ⟨v, ret2 rfl, HO.out, HB.out⟩
set_option maxHeartbeats 400000 in
theorem un_delta (b o : Nat) (d : Int) (A : Option Addr) (c : Nat) (l : List Int) (w : World) (hbx : w.cell? ⟨b, o + 1, none⟩ = some (.int .i64 d)) (hr : Rd w A l) (hb : Bts l) (hc : l.length ≤ c) (hl : l.length ≤ 149000000000000) :
    Calls Try.prog 36 #[.slice A l.length c, .pointer (some ⟨b, o, none⟩)] w (MixPost undelL w d l) := by
  have HR := Lib.hid hr
  have HBt := Lib.hid hb
  clear hr hb
  go_enter Try.func36, Try.ntmps36
  go_wp2_with fail
  refine (undelta_any A c l d w HR.out HBt.out hc (by omega)).mono ?_
  rintro e w1 ⟨v, rfl, ho, hb⟩
  have HO := Lib.hid ho
  have HB := Lib.hid hb
  clear ho hb
  go_wp2_with fail
  go_ret2
  exact ⟨v, ret2 rfl, HO.out, HB.out⟩
set_option maxHeartbeats 400000 in
theorem un_match (A : Option Addr) (c : Nat) (l : List Int) (w : World) (hr : Rd w A l) (hb : Bts l) (hc : l.length ≤ c) (hl : l.length ≤ 149000000000000) :
    Calls Try.prog 39 #[.slice A l.length c] w (UpPost w l 65536) := by
  have HR := Lib.hid hr
  have HBt := Lib.hid hb
  clear hr hb
  go_enter Try.func39, Try.ntmps39
  go_wp2_with fail
  refine (unpack_any A c l 65536 w HR.out HBt.out hc hl).mono ?_
  rintro e w1 ⟨v, rfl, ho, hb⟩
  have HO := Lib.hid ho
  have HB := Lib.hid hb
  clear ho hb
  go_wp2_with fail
  go_ret2
  exact ⟨v, ret2 rfl, HO.out, HB.out⟩
theorem fits4F {u : Int} (h0 : 0 ≤ u) (h : u < 4294967296) : fitsB u 4 = true := by
  unfold fitsB
  have hp : (2 : Int) ^ (8 * (4 : Int)).toNat = 4294967296 := by decide +kernel
  rw [hp, Int.ediv_eq_zero_of_lt h0 h]
  rfl
theorem putL4F (b : List Int) : putL b 4 true (fletS b) = sealF b ∧ putE 4 (fletS b) = 0 := by
  obtain ⟨h0, h⟩ := fletS_range b
  constructor
  · unfold putL
    rw [if_pos ⟨by decide, by decide, fits4F h0 h⟩]
    rfl
  · unfold putE
    rw [if_pos ⟨by decide, by decide⟩, if_pos (fits4F h0 h)]
set_option maxHeartbeats 400000 in
theorem fiSeal_any (A : Option Addr) (c : Nat) (l : List Int) (w : World) (hr : Rd w A l) (hb : Bts l) (hl : l.length ≤ 149000000000000) :
    Calls Try.prog 41 #[.slice A l.length c] w fun e w' => ∃ v, e = .returned (.tuple #[v, .int .i64 0]) ∧ Own w' w.heap.size v (sealF l) ∧ Below w.heap.size w w' := by
  have HR := Lib.hid hr
  have HBt := Lib.hid hb
  obtain ⟨h0, h1⟩ := fletS_range l
  obtain ⟨h2, h3⟩ := putL4F l
  have H2 := Lib.hid h2
  have H3 := Lib.hid h3
  obtain ⟨m, hm⟩ : ∃ m, m = fletS l := ⟨_, rfl⟩
  rw [← hm] at h0 h1 H2 H3
  have HM := Lib.hid hm
  clear hr hb hm h2 h3
  go_enter Try.func41, Try.ntmps41
  go_wp2_with (first | (go_at_call 58; refine (fletcher_any A c l w HR.out HBt.out (by omega)).mono ?_; rintro e w1 ⟨rfl, rfl⟩; rw [← HM.out]) | (go_at_call 57; refine (put_any A c l 4 true m w HR.out (by omega)).mono ?_; rintro e w1 ⟨v, rfl, ho, hb⟩; rw [H2.out] at ho; rw [H3.out]; have HO := Lib.hid ho; have HB := Lib.hid hb; clear ho hb))
  go_ret2
  exact ⟨_, ret2 rfl, HO.out, HB.out⟩
end Go.Proofs.Ytdfpikimeihefaa
