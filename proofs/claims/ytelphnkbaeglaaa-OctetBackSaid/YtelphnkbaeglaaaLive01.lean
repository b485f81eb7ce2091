/-
  The examples of layer 1 (slabvaultlaw01.lives). No premise.
-/
import Derived.Test.YtelphnkbaeglaaaOct5
namespace Go.Proofs.Ytelphnkbaeglaaa
open Go.RowKit Go.Proofs.YtelphnkbaeglaaaW.PrintWords

theorem rd_nil (w : World) : Rd w none [] := ⟨rfl, by simp, fun h => absurd h (by simp)⟩
set_option maxHeartbeats 800000 in
theorem lives01 (w : World) : Calls Try.prog 15 #[] w fun e w' => e = .returned (.bool true) ∧ Below w.heap.size w w' := by
  have hl : putL [] 2 true 258 = [1, 2] := by decide
  have he : putE 2 258 = 0 := by decide
  have hs : sgnG 255 1 = -1 := by decide +kernel
  have hse : putE 1 255 = 0 := by decide
  have HL := Lib.hid hl
  have HE := Lib.hid he
  have HS := Lib.hid hs
  have HSE := Lib.hid hse
  clear hl he hs hse
  have hst : strOfNums [1, 2] = (⟨#[1, 2]⟩ : ByteArray) := by decide
  have HST := Lib.hid hst
  clear hst
  go_enter Try.func15, Try.ntmps15
  go_wp2_with (first | (go_at_call 11; refine (put_any none 0 [] 2 true 258 _ (rd_nil _) (by simp)).mono ?_; rintro e w1 ⟨v, rfl, ho, hb⟩; rw [HL.out] at ho; rw [HE.out]; have hc := own_str ho; rw [HST.out] at hc; have HB := Lib.hid hb; clear ho hb) | (go_at_call 16; refine (signed_any 255 1 _ (by decide) (by decide)).mono ?_; rintro e w2 ⟨rfl, rfl⟩; rw [HS.out, HSE.out]))
  go_ret
  exact ⟨rfl, HB.out⟩
end Go.Proofs.Ytelphnkbaeglaaa
