/-
  OctetGets, OctetSwaps: the walks. No premise.
-/
import Derived.Test.YtelphnkbaeglaaaLawOctB
import Derived.Deep.RegionWith
import Derived.Deep.DeepCutAuto
import Derived.Deep.CutBlock
namespace Go.Proofs.Ytelphnkbaeglaaa
open Go.RowKit Go.Proofs.YtelphnkbaeglaaaW.PrintWords

set_option maxHeartbeats 1600000 in
theorem octetGets_walk (A : Option Addr) (c : Nat) (l : List Int) (at_ width : Int) (w : World) (hr : ReadsInt w .u8 A l.length l) (hw : ∀ x ∈ l, (Lit.int .u8 x).wf = true) (_hc : l.length ≤ c) (hy : l.length * 1 ≤ 140737488351232)
    (hwa : (Lit.int .i64 at_).wf = true) (_hww : (Lit.int .i64 width).wf = true) :
    Calls Try.prog 5 #[.slice A l.length c, .int .i64 at_, .int .i64 width] w fun e w' => e = .returned (.bool true) ∧ Below w.heap.size w w' := by
  obtain ⟨ha, ha2⟩ := wf_i64 hwa
  have hl : l.length + 8 ≤ 150000000000000 := by omega
  have HR := Lib.hid (show Rd w A l from hr)
  have HBt := Lib.hid (wf_bts hw)
  clear hwa _hww hr hw hy
  go_enter Try.func5, Try.ntmps5
  go_wp2_with fail
  go_loopw [7] (fun i wr => ∃ k : Nat, k ≤ 2 ∧ i = .int .i64 k ∧ Hid (Below w.heap.size w wr)) (fun i _ => 2 - (intOf i).toNat)
  case atStart => exact ⟨0, by omega, rfl, Below.refl _ _⟩
  case round =>
    obtain ⟨k, hk, rfl, HB⟩ := hrel
    by_cases hlt : k < 2
    · go_wp2_with fail
      refine (lent_any A c l wr (HR.out.below HB.out) (by omega)).mono ?_
      rintro e w1 ⟨g, cap, rfl, ho1, hb1⟩
      have HO1 := Lib.hid ho1
      have hcap := (own_open ho1).2.2.1
      have HB1 := Lib.hid (HB.out.trans (hb1.mono HB.out.size))
      clear ho1 hb1
      go_wp2_with fail
      refine (get_any (some ⟨g, 0, none⟩) cap l at_ width ((k : Int) == 1) w1 (lent_rd HO1.out) HBt.out (by omega) (by omega) ha ha2).mono ?_
      rintro e w2 ⟨rfl, hb2⟩
      have HO2 := Lib.hid (own_step HO1.out hb2)
      have HB2 := Lib.hid (HB1.out.trans (hb2.mono HB1.out.size))
      clear hb2
      go_wp2_with fail
      refine (refGet_any A c l at_ width ((k : Int) == 1) w2 (HR.out.below HB2.out) HBt.out (by omega) ha ha2).mono ?_
      rintro e w3 ⟨rfl, rfl⟩
      go_wp2_with fail
      refine (kept_b A wr.heap.size g c cap l _ (HR.out.below HB2.out) HO2.out (by omega)).mono ?_
      rintro e w7 ⟨rfl, hb7⟩
      have HB7 := Lib.hid (HB2.out.trans (hb7.mono HB2.out.size))
      clear hb7
      go_wp2_with fail
      go_roundw
      case rel => exact ⟨k + 1, by omega, by go_num, HB7.out⟩
      case measure => simp [intOf]; omega
    · go_wp2_with (go_at_call 15; refine (lives01 _).mono ?_; rintro e w3 ⟨rfl, hb⟩; have HB3 := Lib.hid hb; clear hb)
      go_ret
      exact ⟨rfl, HB.out.trans (HB3.out.mono HB.out.size)⟩

set_option maxHeartbeats 1600000 in
theorem octetSwaps_walk (A : Option Addr) (c : Nat) (l : List Int) (w : World) (hr : ReadsInt w .u8 A l.length l) (hw : ∀ x ∈ l, (Lit.int .u8 x).wf = true) (_hc : l.length ≤ c) (hy : l.length * 1 ≤ 140737488351232) :
    Calls Try.prog 6 #[.slice A l.length c] w fun e w' => e = .returned (.bool true) ∧ Below w.heap.size w w' := by
  have hl : l.length + 8 ≤ 150000000000000 := by omega
  have HR := Lib.hid (show Rd w A l from hr)
  have HBt := Lib.hid (wf_bts hw)
  clear hr hw hy
  go_enter Try.func6, Try.ntmps6
  go_wp2_with fail
  refine (lent_any A c l w HR.out (by omega)).mono ?_
  rintro e w1 ⟨g, cap, rfl, ho1, hb1⟩
  have HO1 := Lib.hid ho1
  have HB1 := Lib.hid hb1
  have hs1 := hb1.size
  clear ho1 hb1
  go_wp2_with fail
  refine (swap_any (some ⟨g, 0, none⟩) cap l w1 (lent_rd HO1.out) (by omega)).mono ?_
  rintro e w2 ⟨vx, rfl, hx, hbx⟩
  have HVX := Lib.hid hx
  have HB2 := Lib.hid hbx
  have hs2 := hbx.size
  clear hx hbx
  go_wp2_with fail
  refine (swap_any (some ⟨g, 0, none⟩) cap l w2 ((lent_rd HO1.out).below HB2.out) (by omega)).mono ?_
  rintro e w3 ⟨vy, rfl, hx, hbx⟩
  have HVY := Lib.hid hx
  have HB3 := Lib.hid hbx
  have hs3 := hbx.size
  clear hx hbx
  have HVX3 := Lib.hid (own_step HVX.out HB3.out)
  have HB03 := Lib.hid (HB1.out.trans ((HB2.out.trans (HB3.out.mono hs2)).mono hs1))
  go_upto_region 4 with (fail)
  go_cut [17] (fun b wc => b = .bool false ∧ Hid (Below w3.heap.size w3 wc))
  case first =>
    have hcx : ∀ W, Below w3.heap.size w3 W → (convert 22 9 vx).run Try.prog W = .ok (.string (strOfNums l.reverse)) W := fun W hW => own_str (own_step HVX3.out hW)
    have hb0 := Below.refl w3.heap.size w3
    have hb00 : Below w3.heap.size w3 w3.drew := hb0.drew
    go_region_with ((go_at_call 21; refine (refSwap_any A c l _ (HR.out.below HB03.out.drew) (by omega)).mono ?_; rintro e w4 ⟨vz, rfl, hz, hbz⟩; have hcz := own_str hz; have hbz' : Below w3.heap.size w3 w4 := ⟨hbz.os, hbz.tape, hbz.output, hbz.size, hbz.block⟩))
    all_goals
      go_wp2_with fail
      go_meet
      case rel => exact ⟨rfl, hbz'⟩
  case rest =>
    obtain ⟨rfl, HB4⟩ := hcut
    have hvx := own_step HVX3.out HB4.out
    have hs4 := HB4.out.size
    go_wp2_with fail
    refine (spoil_any vx l.reverse HBt.out.reverse w1.heap.size wc hvx (by simp; omega)).mono ?_
    rintro e w5 ⟨rfl, hg5⟩
    have hy5 := own_far (own_step HVY.out HB4.out) hg5 (fun k h1 h2 => by have := own_hi HVX.out h1; have := own_lo HVY.out h2; omega)
    have ho5 := own_far (own_step (own_step HO1.out (HB2.out.trans (HB3.out.mono hs2))) HB4.out) hg5 (fun k h1 h2 => by have := own_lo HVX.out h1; have := own_hi HO1.out h2; omega)
    have hb5 : Below w.heap.size w w5 := (HB03.out.trans (HB4.out.mono HB03.out.size)).grown hg5 (by have := HB03.out.size; omega) (fun k h1 => by have := own_lo HVX.out h1; omega)
    have HY5 := Lib.hid hy5
    have HO5 := Lib.hid ho5
    have HB5 := Lib.hid hb5
    clear hg5 hy5 ho5 hb5 hvx
    have hcy : ∀ W, Below w5.heap.size w5 W → (convert 22 9 vy).run Try.prog W = .ok (.string (strOfNums l.reverse)) W := fun W hW => own_str (own_step HY5.out hW)
    have hb0 := Below.refl w5.heap.size w5
    have hb00 : Below w5.heap.size w5 w5.drew := hb0.drew
    go_wp2_with fail
    go_region_with (first | (go_at_call 21; refine (refSwap_any A c l _ (HR.out.below HB5.out.drew) (by omega)).mono ?_; rintro e w6 ⟨vz, rfl, hz, hbz⟩; have hcz := own_str hz; have hbz' : Below w5.heap.size w5 w6 := ⟨hbz.os, hbz.tape, hbz.output, hbz.size, hbz.block⟩) | (go_at_call 13; refine (kept_b A w.heap.size g c cap l _ (HR.out.below (HB5.out.trans (hbz'.mono HB5.out.size))) (own_step HO5.out hbz') (by omega)).mono ?_; rintro e w7 ⟨rfl, hb7⟩) | (go_at_call 15; refine (lives01 _).mono ?_; rintro e w8 ⟨rfl, hb8⟩))
    all_goals
      go_wp2_with fail
      go_ret
      exact ⟨rfl, HB5.out.trans ((hbz'.trans ((hb7.trans (hb8.mono hb7.size)).mono hbz'.size)).mono HB5.out.size)⟩
end Go.Proofs.Ytelphnkbaeglaaa
