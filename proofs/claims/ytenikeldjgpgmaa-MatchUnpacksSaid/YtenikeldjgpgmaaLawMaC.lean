/-
  MatchPacks, MatchUnpacks: the walks. No premise.
-/
import Derived.Test.YtenikeldjgpgmaaLawMaA
import Derived.Test.YtenikeldjgpgmaaMat7
import Derived.Test.YtenikeldjgpgmaaUn2
import Derived.Test.YtenikeldjgpgmaaHelp15
namespace Go.Proofs.Ytenikeldjgpgmaa
open Go.RowKit Go.Proofs.YtenikeldjgpgmaaW.PrintWords

set_option maxRecDepth 100000 in
set_option maxHeartbeats 3200000 in
theorem matchUnpacks_walk (A : Option Addr) (c : Nat) (l : List Int) (most : Int) (w : World) (hr : ReadsInt w .u8 A l.length l) (hw : ∀ x ∈ l, (Lit.int .u8 x).wf = true) (hc : l.length ≤ c) (hy : l.length * 1 ≤ 140737488351232) (_hwm : (Lit.int .i64 most).wf = true) :
    Calls Try.prog 4 #[.slice A l.length c, .int .i64 most] w fun e w' => e = .returned (.bool true) ∧ Below w.heap.size w w' := by
  have HR := Lib.hid (show Rd w A l from hr)
  have HBt := Lib.hid (wf_bts' hw)
  have HXB := Lib.hid (upk_bts HBt.out most)
  obtain ⟨X, hX⟩ : ∃ X, X = (upk l most).1 := ⟨_, rfl⟩
  obtain ⟨E, hE⟩ : ∃ E, E = (upk l most).2 := ⟨_, rfl⟩
  have hXl : X.length ≤ 70000 := by
    rw [hX]
    by_cases hm : most < 0 ∨ 65536 < most
    · rw [upk_arg hm]; exact Nat.zero_le _
    · have := (upk_most l most (by omega)).1
      omega
  rw [← hX] at HXB
  have HX := Lib.hid hX
  have HE := Lib.hid hE
  clear hr hw hX hE _hwm
  go_enter Try.func4, Try.ntmps4
  go_wp2_with fail
  refine (lent_any A c l w HR.out (by omega)).mono ?_
  rintro e w1 ⟨g, cap, rfl, ho1, hb1⟩
  have HO1 := Lib.hid ho1
  have HB1 := Lib.hid hb1
  have hs1 := hb1.size
  have hcap := lent_cap ho1
  clear ho1 hb1
  go_wp2_with fail
  refine (unpack_any (some ⟨g, 0, none⟩) cap l most w1 (lent_rd HO1.out) HBt.out hcap (by omega)).mono ?_
  rintro e w2 ⟨vx, rfl, hx, hbx⟩
  rw [← HX.out] at hx
  rw [← HE.out]
  have HB2 := Lib.hid hbx
  have hs2 := hbx.size
  obtain ⟨Ax, cx, rfl, hx2, _, _⟩ := own_split hx
  have HVX := Lib.hid hx2
  clear hx hbx hx2
  go_wp2_with fail
  have HB02 := Lib.hid (HB1.out.trans (HB2.out.mono hs1))
  refine (refUnpack_any A c l most w2 (HR.out.below HB02.out) HBt.out hc (by omega)).mono ?_
  rintro e w3 ⟨vw, rfl, hx, hbx⟩
  rw [← HX.out] at hx
  rw [← HE.out]
  have HB3 := Lib.hid hbx
  have HVX3 := Lib.hid (own_step HVX.out hbx)
  have HO3 := Lib.hid (own_step HO1.out (HB2.out.trans (hbx.mono hs2)))
  have HB03 := Lib.hid (HB02.out.trans (hbx.mono HB02.out.size))
  have hcx := own_str HVX3.out
  have hcw := own_str hx
  have hzx : (strOfNums X).size ≤ 9223372036854775807 := by rw [strOfNums_size]; omega
  clear hx hbx
  go_wp2_with (go_at_call 21; refine (kept_b A w.heap.size g c cap l _ (HR.out.below HB03.out) HO3.out (by omega)).mono ?_; rintro e w4 ⟨rfl, hb4⟩; clear hcx hcw)
  have HVX4 := Lib.hid (own_step HVX3.out hb4)
  have HO4 := Lib.hid (own_step HO3.out hb4)
  have HB04 := Lib.hid (HB03.out.trans (hb4.mono HB03.out.size))
  have hs4 := HB04.out.size
  have hxlo := fun k h => own_lo HVX.out (k := k) h
  have hghi := own_hi HO1.out (k := g) rfl
  clear hb4
  go_loopw [10] (fun t wr => ∃ i : Nat, i ≤ X.length ∧ t = .int .i64 i ∧ Hid (Own wr w1.heap.size (.slice Ax X.length cx) (addk X i)) ∧ Hid (w4.grownBy wr (Value.slice Ax X.length cx).ownBlock)) (fun t _ => X.length - (intOf t).toNat)
  case atStart => exact ⟨0, Nat.zero_le _, rfl, by rw [addk_zero]; exact HVX4.out, World.grownBy.refl _ _⟩
  case round =>
    obtain ⟨i, hi, rfl, HOi, HGi⟩ := hrel
    by_cases hlt : i < X.length
    · obtain ⟨gx, rfl⟩ := own_slice_ne HVX.out (by omega)
      obtain ⟨hx, hfx⟩ := own_cell HOi.out (i : Int) (by omega) (by rw [addk_length]; omega)
      rw [Int.toNat_natCast] at hx hfx
      rw [rdI_addk X i i hlt, if_neg (by omega)] at hx
      have hbt := HXB.out.at i
      have HS := Lib.hid (addk_succ X i hlt)
      generalize rdI X i = x at hx hbt HS
      go_wp2_with fail
      go_roundw
      case rel =>
        refine ⟨i + 1, by omega, by push_cast; rfl, ?_, HGi.out.trans (set_grown _ _ _ _)⟩
        have h1 := own_setc HOi.out (i : Int) ((x + 1) % 256)
        rw [Int.toNat_natCast, HS.out] at h1
        exact h1
      case measure => simp [intOf]; omega
    · have HOF := Lib.hid (own_far HO4.out HGi.out (fun k h1 h2 => by have := hxlo k h1; have : k = g := by injection h2 with h2; exact h2.symm
                                                                      omega))
      have HBF := Lib.hid (HB04.out.grown HGi.out hs4 (fun k h1 => by have := hxlo k h1; omega))
      go_wp2_with (first | (go_at_call 21; refine (kept_b A w.heap.size g c cap l _ (HR.out.below HBF.out) HOF.out (by omega)).mono ?_; rintro e w5 ⟨rfl, hb5⟩; have HB5 := Lib.hid (HBF.out.trans (hb5.mono HBF.out.size)); clear hb5) | (go_at_call 17; refine (lives15 _).mono ?_; rintro e w6 ⟨rfl, hb6⟩))
      go_ret
      exact ⟨rfl, HB5.out.trans (hb6.mono HB5.out.size)⟩

set_option maxRecDepth 100000 in
set_option maxHeartbeats 3200000 in
theorem matchPacks_walk (A : Option Addr) (c : Nat) (l : List Int) (w : World) (hr : ReadsInt w .u8 A l.length l) (hw : ∀ x ∈ l, (Lit.int .u8 x).wf = true) (hc : l.length ≤ c) (hy : l.length * 1 ≤ 140737488351232) :
    Calls Try.prog 3 #[.slice A l.length c] w fun e w' => e = .returned (.bool true) ∧ Below w.heap.size w w' := by
  have HR := Lib.hid (show Rd w A l from hr)
  have HBt := Lib.hid (wf_bts' hw)
  have HXB := Lib.hid (pkL_bts HBt.out)
  clear hr hw
  by_cases hmid : 3000 < l.length ∧ l.length ≤ 65536
  · obtain ⟨hm1, hm2⟩ := hmid
    go_enter Try.func3, Try.ntmps3
    go_wp2_with (go_at_call 17; refine (lives15 _).mono ?_; rintro e w1 ⟨rfl, hb1⟩)
    go_ret
    exact ⟨rfl, hb1⟩
  obtain ⟨X, hX⟩ : ∃ X, X = pkL l := ⟨_, rfl⟩
  obtain ⟨E, hE⟩ : ∃ E, E = pkE l := ⟨_, rfl⟩
  have hXl : X.length ≤ 70000 := by
    rw [hX]
    by_cases hm : 65536 < l.length
    · rw [(pk_big hm).2]; exact Nat.zero_le _
    · have := pkL_length l
      omega
  rw [← hX] at HXB
  have HX := Lib.hid hX
  have HE := Lib.hid hE
  clear hX hE
  have hcase : l.length ≤ 3000 ∨ (3000 < l.length ∧ 65536 < l.length) := by omega
  clear hmid
  rcases hcase with hk1 | ⟨hk1, hk2⟩
  all_goals
    go_enter Try.func3, Try.ntmps3
    go_wp2_with fail
    refine (lent_any A c l w HR.out (by omega)).mono ?_
    rintro e w1 ⟨g, cap, rfl, ho1, hb1⟩
    have HO1 := Lib.hid ho1
    have HB1 := Lib.hid hb1
    have hs1 := hb1.size
    have hcap := lent_cap ho1
    clear ho1 hb1
    go_wp2_with fail
    refine (pack_any (some ⟨g, 0, none⟩) cap l w1 (lent_rd HO1.out) hcap (by omega)).mono ?_
    rintro e w2 ⟨vx, rfl, hx, hbx⟩
    rw [← HX.out] at hx
    rw [← HE.out]
    have HB2 := Lib.hid hbx
    have hs2 := hbx.size
    obtain ⟨Ax, cx, rfl, hx2, _, _⟩ := own_split hx
    have HVX := Lib.hid hx2
    clear hx hbx hx2
    go_wp2_with fail
    refine (pack_any (some ⟨g, 0, none⟩) cap l w2 ((lent_rd HO1.out).below HB2.out) hcap (by omega)).mono ?_
    rintro e w3 ⟨vy, rfl, hx, hbx⟩
    rw [← HX.out] at hx
    rw [← HE.out]
    have HVY := Lib.hid hx
    have HB3 := Lib.hid hbx
    have hs3 := hbx.size
    clear hx hbx
    have HB13 := Lib.hid (HB2.out.trans (HB3.out.mono hs2))
    have HB03 := Lib.hid (HB1.out.trans (HB13.out.mono hs1))
    go_wp2_with fail
    refine (refPack_any A c l w3 (HR.out.below HB03.out) hc (by omega)).mono ?_
    rintro e w4 ⟨vw, rfl, hx, hbx⟩
    rw [← HX.out] at hx
    rw [← HE.out]
    have HVW := Lib.hid hx
    have HB24 := Lib.hid (HB3.out.trans (hbx.mono hs3))
    have HB14 := Lib.hid (HB2.out.trans (HB24.out.mono hs2))
    have HB04 := Lib.hid (HB1.out.trans (HB14.out.mono hs1))
    have HVX4 := Lib.hid (own_step HVX.out HB24.out)
    have HVY4 := Lib.hid (own_step HVY.out hbx)
    have HO4 := Lib.hid (own_step HO1.out HB14.out)
    have hcx := own_str HVX4.out
    have hcw := own_str HVW.out
    have hzx : (strOfNums X).size ≤ 9223372036854775807 := by rw [strOfNums_size]; omega
    clear hx hbx
    go_wp2_with (go_at_call 21; refine (kept_b A w.heap.size g c cap l _ (HR.out.below HB04.out) HO4.out (by omega)).mono ?_; rintro e w5 ⟨rfl, hb5⟩; clear hcx hcw)
    have HVX5 := Lib.hid (own_step HVX4.out hb5)
    have HVY5 := Lib.hid (own_step HVY4.out hb5)
    have HVW5 := Lib.hid (own_step HVW.out hb5)
    have HO5 := Lib.hid (own_step HO4.out hb5)
    have HB05 := Lib.hid (HB04.out.trans (hb5.mono HB04.out.size))
    have hs5 := HB05.out.size
    have hxlo := fun k h => own_lo HVX.out (k := k) h
    have hxhi := fun k h => own_hi HVX.out (k := k) h
    have hghi := own_hi HO1.out (k := g) rfl
    clear hb5
    go_loopw [10] (fun t wr => ∃ i : Nat, i ≤ X.length ∧ t = .int .i64 i ∧ Hid (Own wr w1.heap.size (.slice Ax X.length cx) (addk X i)) ∧ Hid (w5.grownBy wr (Value.slice Ax X.length cx).ownBlock)) (fun t _ => X.length - (intOf t).toNat)
    case atStart => exact ⟨0, Nat.zero_le _, rfl, by rw [addk_zero]; exact HVX5.out, World.grownBy.refl _ _⟩
    case round =>
      obtain ⟨i, hi, rfl, HOi, HGi⟩ := hrel
      by_cases hlt : i < X.length
      · obtain ⟨gx, rfl⟩ := own_slice_ne HVX.out (by omega)
        obtain ⟨hx, hfx⟩ := own_cell HOi.out (i : Int) (by omega) (by rw [addk_length]; omega)
        rw [Int.toNat_natCast] at hx hfx
        rw [rdI_addk X i i hlt, if_neg (by omega)] at hx
        have hbt := HXB.out.at i
        have HS := Lib.hid (addk_succ X i hlt)
        generalize rdI X i = x at hx hbt HS
        go_wp2_with fail
        go_roundw
        case rel =>
          refine ⟨i + 1, by omega, by push_cast; rfl, ?_, HGi.out.trans (set_grown _ _ _ _)⟩
          have h1 := own_setc HOi.out (i : Int) ((x + 1) % 256)
          rw [Int.toNat_natCast, HS.out] at h1
          exact h1
        case measure => simp [intOf]; omega
      · have HOF := Lib.hid (own_far HO5.out HGi.out (fun k h1 h2 => by have := hxlo k h1; have : k = g := by injection h2 with h2; exact h2.symm
                                                                        omega))
        have HYF := Lib.hid (own_far HVY5.out HGi.out (fun k h1 h2 => by have := hxhi k h1; have := own_lo HVY.out h2; omega))
        have HWF := Lib.hid (own_far HVW5.out HGi.out (fun k h1 h2 => by have := hxhi k h1; have := own_lo HVW.out h2; omega))
        have HBF := Lib.hid (HB05.out.grown HGi.out hs5 (fun k h1 => by have := hxlo k h1; omega))
        have hcy := own_str HYF.out
        have hcw := own_str HWF.out
        go_wp2_with (first | (go_at_call 21; refine (kept_b A w.heap.size g c cap l _ (HR.out.below HBF.out) HOF.out (by omega)).mono ?_; rintro e w6 ⟨rfl, hb6⟩; have HB6 := Lib.hid (HBF.out.trans (hb6.mono HBF.out.size)); clear hb6) | (go_at_call 17; refine (lives15 _).mono ?_; rintro e w7 ⟨rfl, hb7⟩))
        go_ret
        exact ⟨rfl, HB6.out.trans (hb7.mono HB6.out.size)⟩
end Go.Proofs.Ytenikeldjgpgmaa
