/-
  CheckPlaces: the walk. No premise.
-/
import Derived.Test.YtelphnkbaeglaaaDoorLawChkA
import Derived.Test.YtelphnkbaeglaaaDoorChkP
import Derived.Deep.RegionWith
import Derived.Deep.RegionHeld3
namespace Go.Proofs.YtelphnkbaeglaaaDoor
open Go.RowKit Go.Proofs.YtelphnkbaeglaaaDoorW.PrintWords

set_option maxHeartbeats 1600000 in
theorem checkPlaces_walk (A : Option Addr) (c : Nat) (l : List Int) (place : Int) (w : World) (hT : TabAt w) (hr : ReadsInt w .u8 A l.length l) (hw : ∀ x ∈ l, (Lit.int .u8 x).wf = true) (hc : l.length ≤ c) (hy : l.length * 1 ≤ 140737488351232)
    (hwp : (Lit.int .i64 place).wf = true) :
    Calls Tryd.prog 6 #[.slice A l.length c, .int .i64 place] w fun e w' => e = .returned (.bool true) ∧ Below w.heap.size w w' := by
  have hl : l.length + 100 ≤ 150000000000000 := by omega
  have HR := Lib.hid (show Rd w A l from hr)
  have HBt := Lib.hid (wf_bts' hw)
  have HT := Lib.hid hT
  clear hr hw hy hT hwp
  by_cases hz : l.length < 2
  · have hz' : (l.length : Int) < 2 := by omega
    go_enter Tryd.func6, Tryd.ntmps6
    go_wp2_with (go_at_call 14; refine (lives02 _ HT.out).mono ?_; rintro e w8 ⟨rfl, hb8⟩)
    go_ret
    exact ⟨rfl, hb8⟩
  · have hz' : ¬ (l.length : Int) < 2 := by omega
    have hn1 : (((l.length : Int) - 1) : Int) = ((l.length - 1 : Nat) : Int) := by omega
    obtain ⟨k, hk, hkk⟩ := place_k place (l.length - 1) (by omega) (by omega)
    have hk2 : k + 1 < l.length := by omega
    have hi1 : (0 : Int) ≤ (k : Int) := by omega
    have hi2 : (k : Int) < (l.length : Int) := by omega
    have hi3 : IntKind.i64.wrap ((k : Int) + 1) = (k : Int) + 1 := by rw [IntKind.wrap_i64]; omega
    have hi4 : (0 : Int) ≤ (k : Int) + 1 := by omega
    have hi5 : (k : Int) + 1 < (l.length : Int) := by omega
    rw [← hn1] at hkk
    have hx1 := HBt.out.at k
    have hx2 := HBt.out.at (k + 1)
    have hfp := flet_places HBt.out k hk2
    have HXB := Lib.hid (bts_set (bts_set HBt.out k hx2) (k + 1) hx1)
    have hXl : ((l.set k (rdI l (k + 1))).set (k + 1) (rdI l k)).length = l.length := by rw [List.length_set, List.length_set]
    have HXL := Lib.hid hXl
    obtain ⟨ad, rfl, hcc⟩ := HR.out.2.2 (by omega)
    have hc1 : ∀ W, Below w.heap.size w W → W.cell? (ad.add k) = some (.int .u8 (rdI l k)) := fun W hW => by
      obtain ⟨ad', e, hcc'⟩ := (HR.out.below hW).2.2 (by omega)
      injection e with e; subst e
      exact hcc' k (by omega)
    have hc2 : ∀ W, Below w.heap.size w W → W.cell? (ad.add (k + 1)) = some (.int .u8 (rdI l (k + 1))) := fun W hW => by
      obtain ⟨ad', e, hcc'⟩ := (HR.out.below hW).2.2 (by omega)
      injection e with e; subst e
      exact hcc' (k + 1) (by omega)
    clear hcc hn1 hXl
    generalize hX : (l.set k (rdI l (k + 1))).set (k + 1) (rdI l k) = X at HXB HXL hfp
    obtain ⟨bv, hbv1, hbv2⟩ : ∃ bv, (fletS X == fletS l) = bv ∧ (rdI l k == rdI l (k + 1)) = bv := by
      by_cases h : rdI l k = rdI l (k + 1)
      · exact ⟨true, by rw [beq_iff_eq]; exact hfp.2 h, by rw [beq_iff_eq]; exact h⟩
      · exact ⟨false, by rw [beq_eq_false_iff_ne]; exact fun e => h (hfp.1 e), by rw [beq_eq_false_iff_ne]; exact h⟩
    clear hfp
    have HXE := Lib.hid hX
    clear hX
    generalize hxe : rdI l k = x at hc1 hx1 hbv2 HXE
    generalize hye : rdI l (k + 1) = y at hc2 hx2 hbv2 HXE
    have HRX := Lib.hid hxe
    have HRY := Lib.hid hye
    clear hxe hye
    have HO0 := Lib.hid (own_empty w w.heap.size (Nat.le_refl _))
    have HB0 := Lib.hid ((Below.refl w.heap.size w).alloc (Nat.le_refl _) (.cells #[] 5))
    go_enter Tryd.func6, Tryd.ntmps6
    go_wp2_with ((with_reducible refine gate_builtin (b := .append) (xs := #[.tmp 22, .tmp 23]) rfl ?_); refine app w.heap.size rfl _ _ rfl (.slice (some ⟨w.heap.size, 0, none⟩) 0 0) [] l (some ad) c rfl rfl HO0.out (HR.out.below HB0.out) (by simp) (by simp; omega) ?_)
    intro v1 w1 h1 h2
    have H1 := Lib.hid h1
    have H2 := Lib.hid (HB0.out.grown h2 (by simp) (by simp [Value.ownBlock]))
    rcases own_cases h1 with ⟨_, h⟩ | ⟨g, cap, rfl⟩
    · rw [h] at hz
      simp at hz
    have hO1 : Own w1 w.heap.size (.slice (some ⟨g, 0, none⟩) l.length cap) l := h1
    obtain ⟨hv1, hfv1⟩ := own_cell hO1 (k : Int) (by omega) (by omega)
    obtain ⟨hv2, hfv2⟩ := own_cell hO1 ((k + 1 : Nat) : Int) (by omega) (by omega)
    rw [Int.toNat_natCast] at hv1 hfv1 hv2 hfv2
    have hg1 := own_lo h1 (k := g) rfl
    have hcap := (own_open hO1).2.2.1
    have hC1 := hc1 w1 H2.out
    have hC2 := hc2 w1 H2.out
    have ead : ad.add (k + 1) = ⟨ad.block, ad.off + (k + 1), none⟩ := by unfold Addr.add; rw [if_neg (by omega)]
    have hC3 := hC2
    rw [ead] at hC3
    have h3 := own_setc (own_setc hO1 (k : Int) y) ((k + 1 : Nat) : Int) x
    rw [Int.toNat_natCast, Int.toNat_natCast, HXE.out] at h3
    have h4 : Below w.heap.size w ((w1.setCell ⟨g, k, none⟩ (.int .u8 y)).setCell ⟨g, k + 1, none⟩ (.int .u8 x)).drew := ((H2.out.grown (set_grown w1 g k (.int .u8 y)) H2.out.size (fun k' e => by injection e with e; omega)).grown (set_grown (w1.setCell ⟨g, k, none⟩ (.int .u8 y)) g (k + 1) (.int .u8 x)) (by simp; exact H2.out.size) (fun k' e => by injection e with e; omega)).drew
    have h3' : Own ((w1.setCell ⟨g, k, none⟩ (.int .u8 y)).setCell ⟨g, k + 1, none⟩ (.int .u8 x)).drew w.heap.size (.slice (some ⟨g, 0, none⟩) l.length cap) X := h3
    have H3 := Lib.hid h3'
    have H4 := Lib.hid h4
    clear h1 h2 ead h3 h3' h4 hO1 hg1
    go_wp2_with fail
    go_region
    all_goals
      clear hC1 hC2 hC3 hv1 hv2 hfv1 hfv2
      generalize ((w1.setCell ⟨g, k, none⟩ (.int .u8 y)).setCell ⟨g, k + 1, none⟩ (.int .u8 x)).drew = w2 at H3 H4
      have hC1 := hc1 w2 H4.out
      have hC2 := hc2 w2 H4.out
      have HF := Lib.hid (fletcher_any (some ⟨g, 0, none⟩) cap X w2.drew (show Rd w2 _ _ from own_rd H3.out) HXB.out (by rw [HXL.out]; omega))
      rw [HXL.out] at HF
      have HF2 := Lib.hid (fletcher_any (some ad) c l w2.drew (HR.out.below H4.out.drew) HBt.out (by omega))
      generalize fletS X = f1 at hbv1 HF
      generalize fletS l = f2 at hbv1 HF2
      have hb0 : Below w2.heap.size w2 w2.drew := (Below.refl _ _).drew
      have HC := Lib.hid (show ∀ W, Below w2.heap.size w2 W → W.cell? (ad.add k) = some (.int .u8 x) ∧ W.cell? (ad.add (k + 1)) = some (.int .u8 y) ∧ W.cell? ⟨ad.block, ad.off + (k + 1), none⟩ = some (.int .u8 y) from fun W hW => by
        have h := H4.out.trans (hW.mono H4.out.size)
        refine ⟨hc1 W h, hc2 W h, ?_⟩
        have h2 := hc2 W h
        unfold Addr.add at h2
        rw [if_neg (by omega)] at h2
        exact h2)
      clear hc1 hc2 hC1 hC2
      go_wp2_with fail
      go_region_held3 (fun W' => W'.cell? (ad.add k) = some (.int .u8 x) ∧ W'.cell? (ad.add (k + 1)) = some (.int .u8 y) ∧ W'.cell? ⟨ad.block, ad.off + (k + 1), none⟩ = some (.int .u8 y)) (first | exact HC.out _ hb0 | exact HC.out _ hb9) (first | (go_at_call_of 11 g; refine HF.out.mono ?_; rintro e w6 ⟨rfl, rfl⟩) | (go_at_call 11; refine HF2.out.mono ?_; rintro e w6 ⟨rfl, rfl⟩) | (go_at_call 14; refine (lives02 _ (HT.out.below H4.out.drew (Nat.le_refl _))).mono ?_; rintro e w8 ⟨rfl, hb8⟩; have hb9 : Below w2.heap.size w2 w8 := hb0.trans hb8))
      all_goals
        go_wp2_with fail
        go_ret
        exact ⟨rfl, H4.out.trans (hb9.mono H4.out.size)⟩
end Go.Proofs.YtelphnkbaeglaaaDoor
