/-
  The examples of layer 2 (slabvaultlaw02.lives). No premise.
-/
import Derived.Test.YtelphnkbaeglaaaDoorChk2
import Derived.Lib.SmallJoins
namespace Go.Proofs.YtelphnkbaeglaaaDoor
open Go.RowKit Go.Proofs.YtelphnkbaeglaaaDoorW.PrintWords

theorem rd_mark (w : World) (g : Nat) (hg : g = w.heap.size) (C : Array Value) (t : TypeId) (fr : Nat × Nat) (l : List Int) (hC : C = (nums .u8 l).toArray) (hl : l.length ≤ 9223372036854775807) : Rd (w.alloc (.cells C t fr)) (some ⟨g, 0, none⟩) l := by
  subst hg hC
  refine ⟨rfl, hl, fun _ => ⟨_, rfl, fun j hj => ?_⟩⟩
  have he : (⟨w.heap.size, 0, none⟩ : Addr).add j = ⟨w.heap.size, j, none⟩ := by
    unfold Addr.add
    split
    · next h => rw [h]
    · simp
  rw [he, World.cell?_alloc_mark]
  simp [nums, List.getElem?_eq_getElem hj]
set_option maxHeartbeats 800000 in
theorem lives02 (w : World) (hT : TabAt w) : Calls Tryd.prog 14 #[] w fun e w' => e = .returned (.bool true) ∧ Below w.heap.size w w' := by
  have hf : fletS [97, 98] = 19136707 := by decide +kernel
  have hc : moreS 0 [49, 50, 51, 52, 53, 54, 55, 56, 57] = 3421780262 := by decide +kernel
  have HF := Lib.hid hf
  have HC := Lib.hid hc
  have HT := Lib.hid hT
  have kc := fun (w : World) (C : Array Value) (n c : Nat) => Lib.run_convert_bytes_const (P := Tryd.prog) w 22 5 C n c Tryd.underlying22 Tryd.underlying5
  clear hf hc hT
  go_enter Tryd.func14, Tryd.ntmps14
  have HA := Lib.hid (rd_mark w w.heap.size rfl #[.int .u8 97, .int .u8 98] 5 (2, 3) [97, 98] rfl (by decide))
  have kd := fun (C : Array Value) (n c : Nat) => Go.Joins.run_convert_bytes_const_at (P := Tryd.prog) (w.alloc (.cells #[.int .u8 97, .int .u8 98] 5 (2, 3))) 22 5 C n c (w.heap.size + 1) (by simp) Tryd.underlying22 Tryd.underlying5
  have HB := Lib.hid (rd_mark (w.alloc (.cells #[.int .u8 97, .int .u8 98] 5 (2, 3))) (w.heap.size + 1) (by simp) #[.int .u8 49, .int .u8 50, .int .u8 51, .int .u8 52, .int .u8 53, .int .u8 54, .int .u8 55, .int .u8 56, .int .u8 57] 5 (9, 10) [49, 50, 51, 52, 53, 54, 55, 56, 57] rfl (by decide))
  have HL := Lib.hid (((Below.refl w.heap.size w).alloc (Nat.le_refl _) (.cells #[.int .u8 97, .int .u8 98] 5 (2, 3))).alloc (by simp) (.cells #[.int .u8 49, .int .u8 50, .int .u8 51, .int .u8 52, .int .u8 53, .int .u8 54, .int .u8 55, .int .u8 56, .int .u8 57] 5 (9, 10)))
  go_wp2_with (first | (go_at_call 11; refine (fletcher_any _ 2 [97, 98] _ HA.out (by unfold Bts; decide) (by decide)).mono ?_; rintro e w1 ⟨rfl, rfl⟩; rw [HF.out]) | (go_at_call 15; refine (crc_any _ 9 [49, 50, 51, 52, 53, 54, 55, 56, 57] _ HB.out (by unfold Bts; decide) (HT.out.below HL.out (Nat.le_refl _)) (by decide)).mono ?_; rintro e w1 ⟨rfl, rfl⟩; rw [HC.out]))
  go_ret
  exact ⟨rfl, HL.out⟩
end Go.Proofs.YtelphnkbaeglaaaDoor
