/-
  CheckFletchers, CheckCrcs: the walks. No premise.
-/
import Derived.Test.YtelphnkbaeglaaaDoorLive02
import Derived.Test.YtelphnkbaeglaaaDoorHelp02
namespace Go.Proofs.YtelphnkbaeglaaaDoor
open Go.RowKit Go.Proofs.YtelphnkbaeglaaaDoorW.PrintWords

theorem wf_u32 {a : Int} (h : (Lit.int .u32 a).wf = true) : 0 ≤ a ∧ a < 4294967296 := by
  simp [Lit.wf, IntKind.min, IntKind.max, IntKind.signed, IntKind.bits] at h
  omega
theorem wf_i64' {a : Int} (h : (Lit.int .i64 a).wf = true) : -9223372036854775808 ≤ a ∧ a ≤ 9223372036854775807 := by
  simp [Lit.wf, IntKind.min, IntKind.max, IntKind.signed, IntKind.bits] at h
  omega
theorem wf_u8' {a : Int} (h : (Lit.int .u8 a).wf = true) : 0 ≤ a ∧ a ≤ 255 := by
  simp [Lit.wf, IntKind.min, IntKind.max, IntKind.signed, IntKind.bits] at h
  omega
theorem wf_bts' {l : List Int} (h : ∀ x ∈ l, (Lit.int .u8 x).wf = true) : Bts l := fun x hx => wf_u8' (h x hx)

set_option maxHeartbeats 800000 in
theorem checkFletchers_walk (A : Option Addr) (c : Nat) (l : List Int) (w : World) (hT : TabAt w) (hr : ReadsInt w .u8 A l.length l) (hw : ∀ x ∈ l, (Lit.int .u8 x).wf = true) (_hc : l.length ≤ c) (hy : l.length * 1 ≤ 140737488351232) :
    Calls Tryd.prog 3 #[.slice A l.length c] w fun e w' => e = .returned (.bool true) ∧ Below w.heap.size w w' := by
  have hl : l.length + 8 ≤ 150000000000000 := by omega
  have HR := Lib.hid (show Rd w A l from hr)
  have HBt := Lib.hid (wf_bts' hw)
  have HT := Lib.hid hT
  clear hr hw hy hT
  go_enter Tryd.func3, Tryd.ntmps3
  go_wp2_with fail
  refine (lent_any A c l w HR.out (by omega)).mono ?_
  rintro e w1 ⟨g, cap, rfl, ho1, hb1⟩
  have HO1 := Lib.hid ho1
  have HB1 := Lib.hid hb1
  clear ho1 hb1
  go_wp2_with (first | (go_at_call 11; refine (fletcher_any (some ⟨g, 0, none⟩) cap l w1 (lent_rd HO1.out) HBt.out (by omega)).mono ?_; rintro e w2 ⟨rfl, rfl⟩) | (go_at_call 12; refine (refFletcher_any A c l w1 (HR.out.below HB1.out) HBt.out (by omega)).mono ?_; rintro e w3 ⟨rfl, rfl⟩) | (go_at_call 13; refine (kept_b A w.heap.size g c cap l _ (HR.out.below HB1.out) HO1.out (by omega)).mono ?_; rintro e w7 ⟨rfl, hb7⟩; have HB7 := Lib.hid (HB1.out.trans (hb7.mono HB1.out.size)); clear hb7) | (go_at_call 14; refine (lives02 _ (HT.out.below HB7.out (Nat.le_refl _))).mono ?_; rintro e w8 ⟨rfl, hb8⟩))
  go_ret
  exact ⟨rfl, HB7.out.trans (hb8.mono HB7.out.size)⟩

set_option maxHeartbeats 800000 in
theorem checkCrcs_walk (crc : Int) (A : Option Addr) (c : Nat) (l : List Int) (w : World) (hT : TabAt w) (hwc : (Lit.int .u32 crc).wf = true) (hr : ReadsInt w .u8 A l.length l) (hw : ∀ x ∈ l, (Lit.int .u8 x).wf = true) (_hc : l.length ≤ c) (hy : l.length * 1 ≤ 140737488351232) :
    Calls Tryd.prog 4 #[.int .u32 crc, .slice A l.length c] w fun e w' => e = .returned (.bool true) ∧ Below w.heap.size w w' := by
  have hl : l.length + 8 ≤ 150000000000000 := by omega
  obtain ⟨hc1, hc2⟩ := wf_u32 hwc
  have HR := Lib.hid (show Rd w A l from hr)
  have HBt := Lib.hid (wf_bts' hw)
  have HT := Lib.hid hT
  clear hr hw hy hT hwc
  go_enter Tryd.func4, Tryd.ntmps4
  go_wp2_with fail
  refine (lent_any A c l w HR.out (by omega)).mono ?_
  rintro e w1 ⟨g, cap, rfl, ho1, hb1⟩
  have HO1 := Lib.hid ho1
  have HB1 := Lib.hid hb1
  clear ho1 hb1
  go_wp2_with (first | (go_at_call 15; refine (crc_any (some ⟨g, 0, none⟩) cap l w1 (lent_rd HO1.out) HBt.out (HT.out.below HB1.out (Nat.le_refl _)) (by omega)).mono ?_; rintro e w2 ⟨rfl, rfl⟩) | (go_at_call 16; refine (refCrc_any A c l w1 (HR.out.below HB1.out) HBt.out (by omega)).mono ?_; rintro e w3 ⟨rfl, rfl⟩) | (go_at_call 17; refine (more_any (some ⟨g, 0, none⟩) cap l crc w1 (lent_rd HO1.out) HBt.out (HT.out.below HB1.out (Nat.le_refl _)) (by omega) hc1 hc2).mono ?_; rintro e w2 ⟨rfl, rfl⟩) | (go_at_call 18; refine (refMore_any A c l crc w1 (HR.out.below HB1.out) HBt.out (by omega) hc1 hc2).mono ?_; rintro e w3 ⟨rfl, rfl⟩) | (go_at_call 13; refine (kept_b A w.heap.size g c cap l _ (HR.out.below HB1.out) HO1.out (by omega)).mono ?_; rintro e w7 ⟨rfl, hb7⟩; have HB7 := Lib.hid (HB1.out.trans (hb7.mono HB1.out.size)); clear hb7) | (go_at_call 14; refine (lives02 _ (HT.out.below HB7.out (Nat.le_refl _))).mono ?_; rintro e w8 ⟨rfl, hb8⟩))
  go_ret
  exact ⟨rfl, HB7.out.trans (hb8.mono HB7.out.size)⟩
end Go.Proofs.YtelphnkbaeglaaaDoor
