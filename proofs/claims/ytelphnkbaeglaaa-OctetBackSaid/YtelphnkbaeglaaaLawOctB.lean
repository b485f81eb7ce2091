/-
  OctetPuts, OctetGets: the walks. No premise.
-/
import Derived.Test.YtelphnkbaeglaaaLawOctA
import Derived.Test.YtelphnkbaeglaaaHelp01
namespace Go.Proofs.Ytelphnkbaeglaaa
open Go.RowKit Go.Proofs.YtelphnkbaeglaaaW.PrintWords

theorem putL_bts {l : List Int} (h : Bts l) (width u : Int) (big : Bool) : Bts (putL l width big u) := by
  unfold putL
  split
  · exact h.append (dig_bts _ _ _)
  · exact Bts.nil
theorem putL_len_le (l : List Int) (width u : Int) (big : Bool) : (putL l width big u).length ≤ l.length + 8 := by
  unfold putL
  split
  · rename_i h
    rw [List.length_append, dig_length]
    omega
  · simp

set_option maxHeartbeats 1600000 in
theorem octetPuts_walk (A : Option Addr) (c : Nat) (l : List Int) (width u : Int) (w : World) (hr : ReadsInt w .u8 A l.length l) (hw : ∀ x ∈ l, (Lit.int .u8 x).wf = true) (_hc : l.length ≤ c) (hy : l.length * 1 ≤ 140737488351232)
    (_hww : (Lit.int .i64 width).wf = true) (hwu : (Lit.int .u64 u).wf = true) :
    Calls Try.prog 3 #[.slice A l.length c, .int .i64 width, .int .u64 u] w fun e w' => e = .returned (.bool true) ∧ Below w.heap.size w w' := by
  obtain ⟨hu, hu2⟩ := wf_u64 hwu
  have hl : l.length + 8 ≤ 150000000000000 := by omega
  have HR := Lib.hid (show Rd w A l from hr)
  have HBt := Lib.hid (wf_bts hw)
  clear hwu _hww hr hw hy
  go_enter Try.func3, Try.ntmps3
  go_wp2_with fail
  go_loopw [7] (fun i wr => ∃ k : Nat, k ≤ 2 ∧ i = .int .i64 k ∧ Hid (Below w.heap.size w wr)) (fun i _ => 2 - (intOf i).toNat)
  case atStart => exact ⟨0, by omega, rfl, Below.refl _ _⟩
  case round =>
    obtain ⟨k, hk, rfl, HB⟩ := hrel
    by_cases hlt : k < 2
    · go_wp2_with fail
      refine (lent_any A c l wr (HR.out.below HB.out) (by omega)).mono ?_
      rintro e w1 ⟨g, cap, rfl, ho1, hb1⟩
      have HO1 := Lib.hid ho1
      have HB1 := Lib.hid hb1
      clear ho1 hb1
      have hXb := putL_bts HBt.out width u ((k : Int) == 1)
      have hXl := putL_len_le l width u ((k : Int) == 1)
      obtain ⟨X, hX⟩ : ∃ X, putL l width ((k : Int) == 1) u = X := ⟨_, rfl⟩
      rw [hX] at hXb hXl
      have HX := Lib.hid hX
      have HXB := Lib.hid hXb
      clear hX hXb
      have hs1 := HB1.out.size
      have hs0 := HB.out.size
      go_wp2_with fail
      refine (put_any (some ⟨g, 0, none⟩) cap l width ((k : Int) == 1) u w1 (lent_rd HO1.out) hl).mono ?_
      rintro e w2 ⟨vx, rfl, hx, hbx⟩
      rw [HX.out] at hx
      have HVX := Lib.hid hx
      have HB2 := Lib.hid hbx
      have hs2 := hbx.size
      clear hx hbx
      go_wp2_with fail
      refine (put_any (some ⟨g, 0, none⟩) cap l width ((k : Int) == 1) u w2 ((lent_rd HO1.out).below HB2.out) hl).mono ?_
      rintro e w3 ⟨vy, rfl, hx, hbx⟩
      rw [HX.out] at hx
      have HVY := Lib.hid hx
      have HB3 := Lib.hid hbx
      have hs3 := hbx.size
      clear hx hbx
      go_wp2_with fail
      refine (refPut_any A c l width ((k : Int) == 1) u w3 (HR.out.below (HB.out.trans ((HB1.out.trans ((HB2.out.trans (HB3.out.mono hs2)).mono hs1)).mono hs0))) hl hu hu2).mono ?_
      rintro e w4 ⟨vz, rfl, hx, hbx⟩
      rw [HX.out] at hx
      have HVZ := Lib.hid hx
      have HB4 := Lib.hid hbx
      have hs4 := hbx.size
      clear hx hbx
      have cx := own_str (own_step HVX.out (HB3.out.trans (HB4.out.mono hs3)))
      have cz := own_str HVZ.out
      generalize strOfNums X = S at cx cz
      have ho14 := own_step HO1.out (HB2.out.trans ((HB3.out.trans (HB4.out.mono hs3)).mono hs2))
      have HO14 := Lib.hid ho14
      have hb14 : Below w.heap.size w w4 := HB.out.trans ((HB1.out.trans ((HB2.out.trans ((HB3.out.trans (HB4.out.mono hs3)).mono hs2)).mono hs1)).mono hs0)
      have HB14 := Lib.hid hb14
      clear ho14 hb14
      go_wp2_with fail
      refine (kept_b A wr.heap.size g c cap l _ (HR.out.below HB14.out) HO14.out (by omega)).mono ?_
      rintro e w5 ⟨rfl, hb5⟩
      have hs5 := hb5.size
      have HB5 := Lib.hid hb5
      clear hb5 cx cz
      go_wp2_with fail
      have hxo := own_step HVX.out (HB3.out.trans ((HB4.out.trans (HB5.out.mono hs4)).mono hs3))
      refine (spoil_any vx X HXB.out w1.heap.size w5 hxo (by omega)).mono ?_
      rintro e w6 ⟨rfl, hg6⟩
      have hy6 := own_far (own_step HVY.out (HB4.out.trans (HB5.out.mono hs4))) hg6 (fun k h1 h2 => by have := own_hi HVX.out h1; have := own_lo HVY.out h2; omega)
      have hz6 := own_far (own_step HVZ.out HB5.out) hg6 (fun k h1 h2 => by have := own_hi HVX.out h1; have := own_lo HVZ.out h2; omega)
      have ho6 := own_far (own_step HO14.out HB5.out) hg6 (fun k h1 h2 => by have := own_lo HVX.out h1; have := own_hi HO1.out h2; omega)
      have hb6 : Below w.heap.size w w6 := (HB14.out.trans (HB5.out.mono HB14.out.size)).grown hg6 (by have := HB14.out.size; omega) (fun k h1 => by have := own_lo HVX.out h1; omega)
      have cx := own_str hy6
      have cz := own_str hz6
      generalize strOfNums X = S at cx cz
      have HO6 := Lib.hid ho6
      have HB6 := Lib.hid hb6
      clear hxo hg6 hy6 hz6 ho6 hb6
      go_wp2_with fail
      refine (kept_b A wr.heap.size g c cap l _ (HR.out.below HB6.out) HO6.out (by omega)).mono ?_
      rintro e w7 ⟨rfl, hb7⟩
      have HB7 := Lib.hid (HB6.out.trans (hb7.mono HB6.out.size))
      clear hb7 cx cz
      go_wp2_with fail
      go_roundw
      case rel => exact ⟨k + 1, by omega, by go_num, HB7.out⟩
      case measure => simp [intOf]; omega
    · go_wp2_with (go_at_call 15; refine (lives01 _).mono ?_; rintro e w3 ⟨rfl, hb⟩; have HB3 := Lib.hid hb; clear hb)
      go_ret
      exact ⟨rfl, HB.out.trans (HB3.out.mono HB.out.size)⟩
end Go.Proofs.Ytelphnkbaeglaaa
