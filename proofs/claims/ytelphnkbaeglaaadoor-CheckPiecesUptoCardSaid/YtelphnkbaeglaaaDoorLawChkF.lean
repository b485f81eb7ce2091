/-
  CheckPieces: the walk. No premise.
-/
import Derived.Test.YtelphnkbaeglaaaDoorLawChkA
import Derived.Test.YtelphnkbaeglaaaDoorChkP
import Derived.Test.YtelphnkbaeglaaaDoorRows2
namespace Go.Proofs.YtelphnkbaeglaaaDoor
open Go.RowKit Go.Proofs.YtelphnkbaeglaaaDoorW.PrintWords

theorem moreS_nil (c : Nat) (h : c < 4294967296) : moreS c [] = c := by
  unfold moreS
  rw [Int.toNat_natCast]
  show ((n32 (n32 c) : Nat) : Int) = c
  rw [n32_n32 h]
theorem moreS_append (c : Int) (l m : List Int) (hl : Bts l) : moreS (moreS c l) m = moreS c (l ++ m) := by
  unfold moreS
  rw [Int.toNat_natCast, n32_n32 (reg_lt hl (n32_lt _)), reg_append]

set_option maxHeartbeats 1600000 in
theorem checkPieces_walk (A : Option Addr) (c : Nat) (ls : List (List Int)) (ptr : Nat → Option Addr) (cp : Nat → Nat) (w : World) (hT : TabAt w) (hr : RowsAt w A ls ptr cp) (hn : ls.length ≤ 1048576) (ht : ls.flatten.length ≤ 1048576) :
    Calls Tryd.prog 5 #[.slice A ls.length c] w fun e w' => e = .returned (.bool true) ∧ Below w.heap.size w w' := by
  have HR := Lib.hid hr
  have HT := Lib.hid hT
  have HBts := Lib.hid (show ∀ k, Bts (ls.take k).flatten from fun k => flatten_bts fun r hlt => by
    rw [List.length_take] at hlt
    obtain ⟨a, _, h⟩ := hr (by omega)
    have := (h r (by omega)).2.2.2
    unfold rowAt at this ⊢
    rw [List.getD_eq_getElem?_getD, List.getElem?_take, if_pos (by omega), ← List.getD_eq_getElem?_getD]
    exact this)
  clear hr hT
  go_enter Tryd.func5, Tryd.ntmps5
  go_wp2_with fail
  go_loopw [3, 4, 5] (fun v s i wr => ∃ k : Nat, k ≤ ls.length ∧ i = .int .i64 k ∧ s = .int .u32 (moreS 0 (ls.take k).flatten) ∧ Hid (Own wr w.heap.size v (ls.take k).flatten) ∧ Hid (Below w.heap.size w wr)) (fun _ _ i _ => ls.length - (intOf i).toNat)
  case atStart => exact ⟨0, by omega, rfl, by rw [List.take_zero]; exact congrArg _ (moreS_nil 0 (by decide)).symm, World.ownsRow_nil _ _ _ _, Below.refl _ _⟩
  case round =>
    obtain ⟨k, hk, rfl, rfl, HO, HB⟩ := hrel
    by_cases hlt : k < ls.length
    · obtain ⟨a, rfl, hrow⟩ := HR.out (by omega)
      obtain ⟨_, _, hcp, hbt⟩ := hrow k hlt
      have hc1 : ∀ W, Below w.heap.size w W → W.cell? (a.add k) = some (.slice (ptr k) (rowAt ls k).length (cp k)) ∧ Rd W (ptr k) (rowAt ls k) := fun W hW => by
        obtain ⟨a', e, h⟩ := HR.out.below hW (by omega)
        injection e with e
        subst e
        exact ⟨(h k hlt).1, (h k hlt).2.1⟩
      have hle := rowAt_le ls k hlt
      have hcat := rowAt_take ls k hlt
      have hap := moreS_append 0 (ls.take k).flatten (rowAt ls k) (HBts.out k)
      rw [← hcat] at hap
      have hrg := moreS_range 0 (ls.take k).flatten
      generalize rowAt ls k = row at hcp hbt hc1 hle hcat hap
      generalize moreS 0 (ls.take k).flatten = s0 at hap hrg
      have HC1 := Lib.hid hc1
      have HCAT := Lib.hid hcat
      have HAP := Lib.hid hap
      have HBR := Lib.hid hbt
      have hcell := (hc1 _ HB.out).1
      clear hrow hc1 hcat hap hbt
      have hs0 := HB.out.size
      generalize (ls.take k).flatten = cur at HO hle HCAT
      go_wp2_with ((with_reducible refine gate_builtin (b := .append) (xs := #[.tmp 12, .tmp 16]) rfl ?_); refine app w.heap.size rfl _ _ rfl u3 cur row (ptr k) (cp k) rfl rfl HO.out (HC1.out _ HB.out).2 hs0 (by omega) ?_)
      intro v1 w1 h1 h2
      have H1 := Lib.hid h1
      have H2 := Lib.hid (HB.out.grown h2 hs0 (fun k hk => own_base HO.out k hk))
      clear h1 h2 hcell
      have hcell := (HC1.out w1 H2.out).1
      go_wp2_with (go_at_call 17; refine (more_any (ptr k) (cp k) row s0 w1 (HC1.out w1 H2.out).2 HBR.out (HT.out.below H2.out (Nat.le_refl _)) (by omega) hrg.1 hrg.2).mono ?_; rintro e w6 ⟨rfl, rfl⟩)
      go_roundw
      case rel =>
        refine ⟨k + 1, by omega, by push_cast; rfl, by rw [HAP.out], ?_, H2.out⟩
        rw [HCAT.out]
        exact H1.out
      case measure => simp [intOf]; omega
    · have hkl : k = ls.length := by omega
      subst hkl
      have HBa := HBts.out ls.length
      rw [List.take_length] at HO HBa ⊢
      have HBL := Lib.hid HBa
      clear HBa HBts
      generalize ls.flatten = fl at HO HBL ht ⊢
      obtain ⟨A', c', rfl, hrd⟩ := own_reads HO.out
      have HRD := Lib.hid (show Rd wr A' fl from hrd)
      clear hrd
      go_wp2_with (first | (go_at_call 15; refine (crc_any A' c' fl wr HRD.out HBL.out (HT.out.below HB.out (Nat.le_refl _)) (by omega)).mono ?_; rintro e w6 ⟨rfl, rfl⟩) | (go_at_call 14; refine (lives02 _ (HT.out.below HB.out (Nat.le_refl _))).mono ?_; rintro e w8 ⟨rfl, hb8⟩))
      go_ret
      exact ⟨rfl, HB.out.trans (hb8.mono HB.out.size)⟩
end Go.Proofs.YtelphnkbaeglaaaDoor
