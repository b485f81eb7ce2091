/-
  CheckTurned: the walk. No premise.
-/
import Derived.Test.YtelphnkbaeglaaaDoorLawChkA
import Derived.Test.YtelphnkbaeglaaaDoorChkP
import Derived.Deep.RegionWith
namespace Go.Proofs.YtelphnkbaeglaaaDoor
open Go.RowKit Go.Proofs.YtelphnkbaeglaaaDoorW.PrintWords

set_option maxHeartbeats 1600000 in
theorem checkTurned_walk (A : Option Addr) (c : Nat) (l : List Int) (place by_ : Int) (w : World) (hT : TabAt w) (hr : ReadsInt w .u8 A l.length l) (hw : ∀ x ∈ l, (Lit.int .u8 x).wf = true) (hc : l.length ≤ c) (hy : l.length * 1 ≤ 140737488351232)
    (hwp : (Lit.int .i64 place).wf = true) (hwb : (Lit.int .u8 by_).wf = true) :
    Calls Tryd.prog 8 #[.slice A l.length c, .int .i64 place, .int .u8 by_] w fun e w' => e = .returned (.bool true) ∧ Below w.heap.size w w' := by
  have hl : l.length + 8 ≤ 150000000000000 := by omega
  have hl9 : l.length + 100 ≤ 150000000000000 := by omega
  have HR := Lib.hid (show Rd w A l from hr)
  have HBt := Lib.hid (wf_bts' hw)
  have HT := Lib.hid hT
  obtain ⟨hp1, hp2⟩ := wf_i64' hwp
  obtain ⟨hy1, hy2⟩ := wf_u8' hwb
  clear hr hw hy hT hwp hwb
  by_cases hz : l.length = 0 ∨ by_ = 0
  · have hz' : ((l.length : Int) == 0 || by_ == 0) = true := by
      rcases hz with h | h
      · rw [h]; rfl
      · rw [h]; simp
    rcases Nat.eq_zero_or_pos l.length with h0 | h0
    · have h1 : ((l.length : Int) == 0) = true := by rw [h0]; rfl
      clear hz hz'
      go_enter Tryd.func8, Tryd.ntmps8
      go_wp2_with (go_at_call 14; refine (lives02 _ HT.out).mono ?_; rintro e w8 ⟨rfl, hb8⟩)
      go_ret
      exact ⟨rfl, hb8⟩
    · have h1 : ((l.length : Int) == 0) = false := by rw [beq_eq_false_iff_ne]; omega
      have h2 : by_ = 0 := hz.resolve_left (by omega)
      subst h2
      clear hz hz'
      go_enter Tryd.func8, Tryd.ntmps8
      go_wp2_with (go_at_call 14; refine (lives02 _ HT.out).mono ?_; rintro e w8 ⟨rfl, hb8⟩)
      go_ret
      exact ⟨rfl, hb8⟩
  · have hn0 : l.length ≠ 0 := fun h => hz (.inl h)
    have hb0 : by_ ≠ 0 := fun h => hz (.inr h)
    have hn0' : (((l.length : Int)) == 0) = false := by rw [beq_eq_false_iff_ne]; omega
    have hb0' : (by_ == 0) = false := by rw [beq_eq_false_iff_ne]; exact hb0
    obtain ⟨k, hk, hkk⟩ := place_k place l.length (by omega) (by omega)
    obtain ⟨y, hxy, hyr, hyn⟩ := xor_byte (HBt.out.at k) ⟨hy1, hy2⟩ hb0
    have HN1 := Lib.hid (crc_turned HBt.out k hk y hyr hyn)
    have HN2 := Lib.hid (flet_turned HBt.out k hk y hyr hyn)
    have HXB := Lib.hid (bts_set HBt.out k hyr)
    have HSS := Lib.hid (set_seal l k hk y)
    have hus := us_bad (l.set k y) (moreS 0 l) (moreS_range 0 l) HN1.out
    rw [← HSS.out] at hus
    have HUE := Lib.hid hus.1
    have HUL := Lib.hid hus.2
    have HRS := Lib.hid (rdI_seal l k hk)
    have HSB := Lib.hid (bts_set (sealL_bts HBt.out) k hyr)
    have hSl : ((sealL l).set k y).length = l.length + 4 := by rw [List.length_set, sealL_length]
    have HSL := Lib.hid hSl
    have hXl : (l.set k y).length = l.length := List.length_set ..
    have HXL := Lib.hid hXl
    have HYN := Lib.hid hyn
    have HXR := Lib.hid (HBt.out.at k)
    clear hus hyn hSl hXl hp1 hp2 hb0 hz
    generalize hx : rdI l k = x at hxy HRS HXR HYN
    have HX := Lib.hid hx
    clear hx
    have HO0 := Lib.hid (own_empty w w.heap.size (Nat.le_refl _))
    have HB0 := Lib.hid ((Below.refl w.heap.size w).alloc (Nat.le_refl _) (.cells #[] 5))
    go_enter Tryd.func8, Tryd.ntmps8
    go_wp2_with ((with_reducible refine gate_builtin (b := .append) (xs := #[.tmp 30, .tmp 31]) rfl ?_); refine app w.heap.size rfl _ _ rfl (.slice (some ⟨w.heap.size, 0, none⟩) 0 0) [] l A c rfl rfl HO0.out (HR.out.below HB0.out) (by simp) (by simp; omega) ?_)
    intro v1 w1 h1 h2
    have H1 := Lib.hid h1
    have H2 := Lib.hid (HB0.out.grown h2 (by simp) (by simp [Value.ownBlock]))
    rcases own_cases h1 with ⟨_, h⟩ | ⟨g, cap, rfl⟩
    · exact absurd (congrArg List.length h) (by simpa using hn0)
    have hO1 : Own w1 w.heap.size (.slice (some ⟨g, 0, none⟩) l.length cap) l := h1
    obtain ⟨hx1, hfx1⟩ := own_cell hO1 (k : Int) (by omega) (by omega)
    rw [Int.toNat_natCast] at hx1 hfx1
    rw [HX.out] at hx1
    have hg1 := own_lo h1 (k := g) rfl
    have h3 := own_setc hO1 (k : Int) y
    rw [Int.toNat_natCast] at h3
    have h4 : Below w.heap.size w (w1.setCell ⟨g, k, none⟩ (.int .u8 y)) := H2.out.grown (set_grown w1 g k _) H2.out.size (fun k' e => by injection e with e; omega)
    have H3 := Lib.hid h3
    have H4 := Lib.hid h4
    clear h1 h2 h3 h4 hO1 hg1
    go_wp2_with fail
    generalize w1.setCell ⟨g, k, none⟩ (.int .u8 y) = w2 at H3 H4
    refine (seal_any A c l w2 (HR.out.below H4.out) HBt.out (HT.out.below H4.out (Nat.le_refl _)) hl).mono ?_
    rintro e w3 ⟨vs, rfl, h5, h6⟩
    rcases own_cases h5 with ⟨_, h⟩ | ⟨g2, cap2, rfl⟩
    · exact absurd (congrArg List.length h) (by rw [sealL_length]; simp)
    have e5 := sealL_length l
    obtain ⟨hx5, hfx5⟩ := own_cell h5 (k : Int) (by omega) (by omega)
    rw [Int.toNat_natCast] at hx5 hfx5
    rw [HRS.out] at hx5
    have hg5 := own_lo h5 (k := g2) rfl
    have hcap2 := (own_open h5).2.2.1
    have hs := H4.out.size
    have h7 := own_setc h5 (k : Int) y
    rw [Int.toNat_natCast] at h7
    have h6' : Below w.heap.size w w3 := H4.out.trans (h6.mono hs)
    have h8 : Below w.heap.size w (w3.setCell ⟨g2, k, none⟩ (.int .u8 y)) := h6'.grown (set_grown w3 g2 k _) h6'.size (fun k' e => by injection e with e; omega)
    have h9 : Own (w3.setCell ⟨g2, k, none⟩ (.int .u8 y)) w.heap.size (.slice (some ⟨g, 0, none⟩) l.length cap) (l.set k y) := own_far (own_step H3.out h6) (set_grown w3 g2 k _) (fun k' e h => by injection e with e; have := own_hi H3.out h; omega)
    rw [e5] at h7 hcap2 ⊢
    have H7 := Lib.hid h7
    have H8 := Lib.hid h8
    have H9 := Lib.hid h9
    clear h5 h6 h7 h8 h9 h6' e5 hg5 hs
    go_wp2_with fail
    generalize w3.setCell ⟨g2, k, none⟩ (.int .u8 y) = w4 at H7 H8 H9
    have hu := unseal_any (some ⟨g2, 0, none⟩) cap2 ((sealL l).set k y) w4 (own_rd H7.out) HSB.out (HT.out.below H8.out (Nat.le_refl _)) (by rw [HSL.out]; exact hcap2) (by rw [HSL.out]; omega)
    rw [HSL.out] at hu
    refine hu.mono ?_
    rintro e w5 ⟨vu, rfl, h10, h11⟩
    rw [HUE.out]
    rw [HUL.out] at h10
    have hs4 := H8.out.size
    have H11 := Lib.hid (H8.out.trans (h11.mono hs4))
    have H12 := Lib.hid (own_step H9.out h11)
    have HRX := Lib.hid (own_rd H12.out)
    have HF := Lib.hid (fletS_range l)
    have HF2 := Lib.hid (fletS_range (l.set k y))
    have HM := Lib.hid (moreS_range 0 l)
    have HM2 := Lib.hid (moreS_range 0 (l.set k y))
    have hn1 : (fletS (l.set k y) != fletS l) = true := by rw [bne_iff_ne]; exact HN2.out
    have hn2 : (moreS 0 (l.set k y) != moreS 0 l) = true := by rw [bne_iff_ne]; exact HN1.out
    have hcx : l.length ≤ cap := (own_open H12.out).2.2.1
    clear hu h11
    have hfx := fletcher_any (some ⟨g, 0, none⟩) cap (l.set k y) w5 HRX.out HXB.out (by rw [HXL.out]; omega)
    have hcrx := crc_any (some ⟨g, 0, none⟩) cap (l.set k y) w5 HRX.out HXB.out (HT.out.below H11.out (Nat.le_refl _)) (by rw [HXL.out]; omega)
    rw [HXL.out] at hfx hcrx
    have HFX := Lib.hid hfx
    have HCRX := Lib.hid hcrx
    clear hfx hcrx
    generalize fletS (l.set k y) = f1 at HFX hn1
    generalize moreS 0 (l.set k y) = m1 at HCRX hn2
    generalize hf2 : fletS l = f2 at hn1
    generalize hm2 : moreS 0 l = m2 at hn2
    have HF2E := Lib.hid hf2
    have HM2E := Lib.hid hm2
    clear hf2 hm2
    rcases own_cases h10 with ⟨rfl, _⟩ | ⟨g3, cap3, rfl⟩
    all_goals
      clear h10
      go_wp2_with (first | (go_at_call_of 11 g; refine HFX.out.mono ?_; rintro e w6 ⟨rfl, rfl⟩) | (go_at_call 11; refine (fletcher_any A c l _ (HR.out.below H11.out) HBt.out (by omega)).mono ?_; rintro e w6 ⟨rfl, rfl⟩; rw [HF2E.out]) | (go_at_call_of 15 g; refine HCRX.out.mono ?_; rintro e w6 ⟨rfl, rfl⟩) | (go_at_call 15; refine (crc_any A c l _ (HR.out.below H11.out) HBt.out (HT.out.below H11.out (Nat.le_refl _)) (by omega)).mono ?_; rintro e w6 ⟨rfl, rfl⟩; rw [HM2E.out]) | (go_at_call 14; refine (lives02 _ (HT.out.below H11.out (Nat.le_refl _))).mono ?_; rintro e w8 ⟨rfl, hb8⟩))
      go_ret
      exact ⟨rfl, H11.out.trans (hb8.mono H11.out.size)⟩
end Go.Proofs.YtelphnkbaeglaaaDoor
