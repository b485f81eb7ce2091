/-
  FilterUndoes: the walk. No premise.
-/
import Derived.Test.YtdfpikimeihefaaLawFiB
import Derived.Test.YtdfpikimeihefaaFil7
import Derived.Test.YtdfpikimeihefaaHelp16
namespace Go.Proofs.Ytdfpikimeihefaa
open Go.RowKit Go.Proofs.YtdfpikimeihefaaW.PrintWords

theorem und_bts (l : List Fl) {x : List Int} (h : Bts x) : Bts (und l x).1 := by
  induction l generalizing x with
  | nil => exact h
  | cons f l ih =>
    rw [und]
    split
    · exact ih (un1_bts' f h)
    · exact Bts.nil
theorem udR_fin (l : List Fl) {b : List Int} (n : Int) (h : Bts b) : Bts (udR l b n).1 ∧ (udR l b n).1.length ≤ 4096 := by
  unfold udR
  split
  · exact ⟨Bts.nil, Nat.zero_le _⟩
  split
  · exact ⟨Bts.nil, Nat.zero_le _⟩
  · next h2 =>
    unfold fin
    split
    · split
      · next h3 => exact ⟨und_bts _ h, by show (und l.reverse b).1.length ≤ 4096; omega⟩
      · exact ⟨Bts.nil, Nat.zero_le _⟩
    · exact ⟨Bts.nil, Nat.zero_le _⟩
set_option maxRecDepth 100000 in
set_option maxHeartbeats 3200000 in
theorem filterUndoes_walk (F : Option Addr) (cf : Nat) (fl : List Fl) (A : Option Addr) (c : Nat) (l : List Int) (most : Int) (w : World) (hrf : Fls w F fl) (hr : ReadsInt w .u8 A l.length l) (hw : ∀ x ∈ l, (Lit.int .u8 x).wf = true) (_ : l.length ≤ c) (hy : l.length * 1 ≤ 140737488351232) (_ : (Lit.int .i64 most).wf = true) :
    Calls Try.prog 5 #[.slice F fl.length cf, .slice A l.length c, .int .i64 most] w fun e w' => e = .returned (.bool true) ∧ Below w.heap.size w w' := by
  have HFL := Lib.hid hrf
  have HR := Lib.hid (show Rd w A l from hr)
  have HBt := Lib.hid (wf_bts' hw)
  obtain ⟨hxb, hXl⟩ := udR_fin fl most HBt.out
  have HXB := Lib.hid hxb
  obtain ⟨X, hX⟩ : ∃ X, X = (udR fl l most).1 := ⟨_, rfl⟩
  obtain ⟨E, hE⟩ : ∃ E, E = (udR fl l most).2 := ⟨_, rfl⟩
  rw [← hX] at HXB hXl
  have HX := Lib.hid hX
  have HE := Lib.hid hE
  clear hr hw hX hE hrf hxb
  by_cases hbig : 10000 < l.length
  · go_enter Try.func5, Try.ntmps5
    go_wp2_with (go_at_call 12; refine (lives16 _).mono ?_; rintro e w1 ⟨rfl, hb1⟩)
    go_ret
    exact ⟨rfl, hb1⟩
  go_enter Try.func5, Try.ntmps5
  go_wp2_with fail
  refine (lent_any A c l w HR.out (by omega)).mono ?_
  rintro e w1 ⟨g, cap, rfl, ho1, hb1⟩
  have HO1 := Lib.hid ho1
  have HB1 := Lib.hid hb1
  have hs1 := hb1.size
  clear ho1 hb1
  go_wp2_with fail
  refine (undo_any F cf fl (some ⟨g, 0, none⟩) cap l most w1 (HFL.out.below HB1.out) (lent_rd HO1.out) HBt.out (by omega)).mono ?_
  rintro e w2 ⟨vx, rfl, hx, hbx⟩
  rw [← HX.out] at hx
  rw [← HE.out]
  have HB2 := Lib.hid hbx
  have hs2 := hbx.size
  obtain ⟨Ax, cx, rfl, hx2, _, _⟩ := own_split hx
  have HVX := Lib.hid hx2
  clear hx hbx hx2
  go_wp2_with fail
  have HB02 := Lib.hid (HB1.out.trans (HB2.out.mono hs1))
  refine (refUndo_any F cf fl A c l most w2 (HFL.out.below HB02.out) (HR.out.below HB02.out) HBt.out (by omega)).mono ?_
  rintro e w3 ⟨vw, rfl, hx, hbx⟩
  rw [← HX.out] at hx
  rw [← HE.out]
  have HB3 := Lib.hid hbx
  have HVX3 := Lib.hid (own_step HVX.out hbx)
  have HO3 := Lib.hid (own_step HO1.out (HB2.out.trans (hbx.mono hs2)))
  have HB03 := Lib.hid (HB02.out.trans (hbx.mono HB02.out.size))
  have hcx := own_str HVX3.out
  have hcw := own_str hx
  have hzx : (strOfNums X).size ≤ 9223372036854775807 := by rw [strOfNums_size]; omega
  clear hx hbx
  go_wp2_with (go_at_call 16; refine (kept_b A w.heap.size g c cap l _ (HR.out.below HB03.out) HO3.out (by omega)).mono ?_; rintro e w4 ⟨rfl, hb4⟩; clear hcx hcw)
  have HVX4 := Lib.hid (own_step HVX3.out hb4)
  have HO4 := Lib.hid (own_step HO3.out hb4)
  have HB04 := Lib.hid (HB03.out.trans (hb4.mono HB03.out.size))
  have hs4 := HB04.out.size
  have hxlo := fun k h => own_lo HVX.out (k := k) h
  have hghi := own_hi HO1.out (k := g) rfl
  clear hb4
  go_loopw [12] (fun t wr => ∃ i : Nat, i ≤ X.length ∧ t = .int .i64 i ∧ Hid (Own wr w1.heap.size (.slice Ax X.length cx) (addk X i)) ∧ Hid (w4.grownBy wr (Value.slice Ax X.length cx).ownBlock)) (fun t _ => X.length - (intOf t).toNat)
  case atStart => exact ⟨0, Nat.zero_le _, rfl, by rw [addk_zero]; exact HVX4.out, World.grownBy.refl _ _⟩
  case round =>
    obtain ⟨i, hi, rfl, HOi, HGi⟩ := hrel
    by_cases hlt : i < X.length
    · obtain ⟨gx, rfl⟩ := own_slice_ne HVX.out (by omega)
      obtain ⟨hx, hfx⟩ := own_cell HOi.out (i : Int) (by omega) (by rw [addk_length]; omega)
      rw [Int.toNat_natCast] at hx hfx
      rw [rdI_addk X i i hlt, if_neg (by omega)] at hx
      have hbt := HXB.out.at i
      have HS := Lib.hid (addk_succ X i hlt)
      generalize rdI X i = x at hx hbt HS
      go_wp2_with fail
      go_roundw
      case rel =>
        refine ⟨i + 1, by omega, by push_cast; rfl, ?_, HGi.out.trans (set_grown _ _ _ _)⟩
        have h1 := own_setc HOi.out (i : Int) ((x + 1) % 256)
        rw [Int.toNat_natCast, HS.out] at h1
        exact h1
      case measure => simp [intOf]; omega
    · have HOF := Lib.hid (own_far HO4.out HGi.out (fun k h1 h2 => by have := hxlo k h1; have : k = g := by injection h2 with h2; exact h2.symm
                                                                      omega))
      have HBF := Lib.hid (HB04.out.grown HGi.out hs4 (fun k h1 => by have := hxlo k h1; omega))
      go_wp2_with (first | (go_at_call 16; refine (kept_b A w.heap.size g c cap l _ (HR.out.below HBF.out) HOF.out (by omega)).mono ?_; rintro e w5 ⟨rfl, hb5⟩; have HB5 := Lib.hid (HBF.out.trans (hb5.mono HBF.out.size)); clear hb5) | (go_at_call 12; refine (lives16 _).mono ?_; rintro e w6 ⟨rfl, hb6⟩))
      go_ret
      exact ⟨rfl, HB5.out.trans (hb6.mono HB5.out.size)⟩

end Go.Proofs.Ytdfpikimeihefaa
