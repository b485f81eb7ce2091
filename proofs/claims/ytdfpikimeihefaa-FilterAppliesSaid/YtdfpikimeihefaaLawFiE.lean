/-
  FilterApplies: the walk. No premise.
-/
import Derived.Test.YtdfpikimeihefaaLawFiB
import Derived.Test.YtdfpikimeihefaaFlA
import Derived.Test.YtdfpikimeihefaaFil4
import Derived.Test.YtdfpikimeihefaaHelp16
namespace Go.Proofs.Ytdfpikimeihefaa
open Go.RowKit Go.Proofs.YtdfpikimeihefaaW.PrintWords

theorem apL_bts (l : List Fl) {b : List Int} (h : Bts b) : Bts (apL l b) := by
  unfold apL
  split
  · exact Bts.nil
  · exact doA_bts l h
set_option maxRecDepth 100000 in
set_option maxHeartbeats 3200000 in
theorem filterApplies_walk (F : Option Addr) (cf : Nat) (fl : List Fl) (A : Option Addr) (c : Nat) (l : List Int) (w : World) (hrf : Fls w F fl) (hfy : fl.length * 16 ≤ 140737488351232) (hr : ReadsInt w .u8 A l.length l) (hw : ∀ x ∈ l, (Lit.int .u8 x).wf = true) (_ : l.length ≤ c) (hy : l.length * 1 ≤ 140737488351232) :
    Calls Try.prog 4 #[.slice F fl.length cf, .slice A l.length c] w fun e w' => e = .returned (.bool true) ∧ Below w.heap.size w w' := by
  have HFL := Lib.hid hrf
  have HR := Lib.hid (show Rd w A l from hr)
  have HBt := Lib.hid (wf_bts' hw)
  have hxb := apL_bts fl HBt.out
  have hXl := (apL_bound fl l).1
  obtain ⟨X, hX⟩ : ∃ X, X = apL fl l := ⟨_, rfl⟩
  obtain ⟨E, hE⟩ : ∃ E, E = apE fl l := ⟨_, rfl⟩
  rw [← hX] at hxb hXl
  have HXB := Lib.hid hxb
  have HX := Lib.hid hX
  have HE := Lib.hid hE
  clear hr hw hX hE hrf hxb
  go_enter Try.func4, Try.ntmps4
  go_wp2_with fail
  refine (lent_any A c l w HR.out (by omega)).mono ?_
  rintro e w1 ⟨g, cap, rfl, ho1, hb1⟩
  have HO1 := Lib.hid ho1
  have HB1 := Lib.hid hb1
  have hs1 := hb1.size
  have HBA := Lib.hid (hb1.alloc hb1.size (.cells #[] 43))
  have HE1 := Lib.hid (ownF_empty w1 w1.heap.size (Nat.le_refl _))
  clear ho1 hb1
  go_wp2_with ((with_reducible refine gate_builtin (b := .append) (xs := #[.tmp 16, .tmp 17]) rfl ?_); refine appF w1.heap.size rfl _ _ rfl (.slice (some ⟨w1.heap.size, 0, none⟩) 0 0) [] fl F cf rfl rfl HE1.out (HFL.out.below HBA.out) (by simp) (by simp; omega) ?_; intro vf w2 h1 h2; have h12 : w1.heap.size ≤ w2.heap.size := (by have := h2.size; simp at this; omega); have HOF := Lib.hid h1; have HB2 := Lib.hid (HBA.out.grown h2 (by simp; omega) (by simp [Value.ownBlock]; exact hs1)); have HO2 := Lib.hid (own_far (HO1.out.alloc _) h2 (fun k e1 e2 => by simp [Value.ownBlock] at e1; have := own_hi HO1.out e2; omega)); clear h1 h2)
  have hs2 := HB2.out.size
  obtain ⟨Af, cf2, rfl, hff⟩ := ownF_fls HOF.out (by simp; omega)
  have hff' : Fls w2 Af fl := by simpa using hff
  have HFF := Lib.hid hff'
  clear hff hff'
  simp only [List.nil_append] at HOF ⊢
  go_wp2_with fail
  refine (apply_any Af cf2 fl (some ⟨g, 0, none⟩) cap l w2 HFF.out (lent_rd HO2.out) HBt.out (by omega)).mono ?_
  rintro e w3 ⟨vx, rfl, hx, hbx⟩
  rw [← HX.out] at hx
  rw [← HE.out]
  have HB23 := Lib.hid hbx
  have hs3 := hbx.size
  obtain ⟨Ax, cx, rfl, hx2, _, _⟩ := own_split hx
  have HVX := Lib.hid hx2
  have HFF3 := Lib.hid (HFF.out.below hbx)
  have HO3 := Lib.hid (own_step HO2.out hbx)
  clear hx hbx hx2
  go_wp2_with fail
  refine (apply_any Af cf2 fl (some ⟨g, 0, none⟩) cap l w3 HFF3.out (lent_rd HO3.out) HBt.out (by omega)).mono ?_
  rintro e w4 ⟨vy, rfl, hx, hbx⟩
  rw [← HX.out] at hx
  rw [← HE.out]
  have HB34 := Lib.hid hbx
  have hs4 := hbx.size
  have HVY := Lib.hid hx
  have HFF4 := Lib.hid (HFF3.out.below hbx)
  have HO4 := Lib.hid (own_step HO3.out hbx)
  have HVX4 := Lib.hid (own_step HVX.out hbx)
  have HB04 := Lib.hid (HB2.out.trans ((HB23.out.trans (hbx.mono hs3)).mono hs2))
  clear hx hbx
  go_wp2_with fail
  refine (refApply_any F cf fl A c l w4 (HFL.out.below HB04.out) (HR.out.below HB04.out) HBt.out (by omega)).mono ?_
  rintro e w5 ⟨vw, rfl, hx, hbx⟩
  rw [← HX.out] at hx
  rw [← HE.out]
  have HVW := Lib.hid hx
  have HFF5 := Lib.hid (HFF4.out.below hbx)
  have HO5 := Lib.hid (own_step HO4.out hbx)
  have HVX5 := Lib.hid (own_step HVX4.out hbx)
  have HVY5 := Lib.hid (own_step HVY.out hbx)
  have HB05 := Lib.hid (HB04.out.trans (hbx.mono HB04.out.size))
  have hs5 := hbx.size
  have hcx := own_str HVX5.out
  have hcw := own_str hx
  have hzx : (strOfNums X).size ≤ 9223372036854775807 := by rw [strOfNums_size]; omega
  clear hx hbx
  go_wp2_with (go_at_call 16; refine (kept_b A w.heap.size g c cap l _ (HR.out.below HB05.out) HO5.out (by omega)).mono ?_; rintro e w6 ⟨rfl, hb6⟩; clear hcx hcw)
  have HVX6 := Lib.hid (own_step HVX5.out hb6)
  have HVY6 := Lib.hid (own_step HVY5.out hb6)
  have HVW6 := Lib.hid (own_step HVW.out hb6)
  have HO6 := Lib.hid (own_step HO5.out hb6)
  have HFF6 := Lib.hid (HFF5.out.below hb6)
  have HB06 := Lib.hid (HB05.out.trans (hb6.mono HB05.out.size))
  clear hb6
  go_wp2_with (go_at_call 17; refine (same_any Af F cf2 cf fl _ HFF6.out (HFL.out.below HB06.out)).mono ?_; rintro e w7 ⟨rfl, hb7⟩)
  have HVX7 := Lib.hid (own_step HVX6.out hb7)
  have HVY7 := Lib.hid (own_step HVY6.out hb7)
  have HVW7 := Lib.hid (own_step HVW6.out hb7)
  have HO7 := Lib.hid (own_step HO6.out hb7)
  have HB07 := Lib.hid (HB06.out.trans (hb7.mono HB06.out.size))
  have hs7 := HB07.out.size
  have hxlo := fun k h => own_lo HVX.out (k := k) h
  have hxhi := fun k h => own_hi HVX.out (k := k) h
  have hylo := fun k h => own_lo HVY.out (k := k) h
  have hwlo := fun k h => own_lo HVW.out (k := k) h
  have hghi := own_hi HO1.out (k := g) rfl
  clear hb7
  go_loopw [13] (fun t wr => ∃ i : Nat, i ≤ X.length ∧ t = .int .i64 i ∧ Hid (Own wr w2.heap.size (.slice Ax X.length cx) (addk X i)) ∧ Hid (w7.grownBy wr (Value.slice Ax X.length cx).ownBlock)) (fun t _ => X.length - (intOf t).toNat)
  case atStart => exact ⟨0, Nat.zero_le _, rfl, by rw [addk_zero]; exact HVX7.out, World.grownBy.refl _ _⟩
  case round =>
    obtain ⟨i, hi, rfl, HOi, HGi⟩ := hrel
    by_cases hlt : i < X.length
    · obtain ⟨gx, rfl⟩ := own_slice_ne HVX.out (by omega)
      obtain ⟨hx, hfx⟩ := own_cell HOi.out (i : Int) (by omega) (by rw [addk_length]; omega)
      rw [Int.toNat_natCast] at hx hfx
      rw [rdI_addk X i i hlt, if_neg (by omega)] at hx
      have hbt := HXB.out.at i
      have HS := Lib.hid (addk_succ X i hlt)
      generalize rdI X i = x at hx hbt HS
      go_wp2_with fail
      go_roundw
      case rel =>
        refine ⟨i + 1, by omega, by push_cast; rfl, ?_, HGi.out.trans (set_grown _ _ _ _)⟩
        have h1 := own_setc HOi.out (i : Int) ((x + 1) % 256)
        rw [Int.toNat_natCast, HS.out] at h1
        exact h1
      case measure => simp [intOf]; omega
    · have HOF := Lib.hid (own_far HO7.out HGi.out (fun k h1 h2 => by have := hxlo k h1; have : k = g := by injection h2 with h2; exact h2.symm
                                                                      omega))
      have HBF := Lib.hid (HB07.out.grown HGi.out hs7 (fun k h1 => by have := hxlo k h1; omega))
      have hvy := own_far HVY7.out HGi.out (fun k h1 h2 => by have := hxhi k h1; have := hylo k h2; omega)
      have hvw := own_far HVW7.out HGi.out (fun k h1 h2 => by have := hxhi k h1; have := hwlo k h2; omega)
      have hcy := own_str hvy
      have hcw := own_str hvw
      clear hvy hvw
      go_wp2_with (first | (go_at_call 16; refine (kept_b A w.heap.size g c cap l _ (HR.out.below HBF.out) HOF.out (by omega)).mono ?_; rintro e w8 ⟨rfl, hb8⟩; have HB8 := Lib.hid (HBF.out.trans (hb8.mono HBF.out.size)); clear hb8) | (go_at_call 12; refine (lives16 _).mono ?_; rintro e w9 ⟨rfl, hb9⟩))
      go_ret
      exact ⟨rfl, HB8.out.trans (hb9.mono HB8.out.size)⟩
end Go.Proofs.Ytdfpikimeihefaa
