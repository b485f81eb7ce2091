/-
  The examples of layer 15 (slabvaultlaw15.lives). No premise.
-/
import Derived.Test.YtenikeldjgpgmaaUn1
import Derived.Lib.SmallJoins
namespace Go.Proofs.Ytenikeldjgpgmaa
open Go.RowKit Go.Proofs.YtenikeldjgpgmaaW.PrintWords

set_option maxHeartbeats 800000 in
theorem lives15 (w : World) : Calls Try.prog 17 #[] w fun e w' => e = .returned (.bool true) ∧ Below w.heap.size w w' := by
  have hs1 : pkL [97, 97, 97, 97, 97, 97, 97, 97, 97] = [1, 0, 97, 132, 1] := by decide +kernel
  have he1 : pkE [97, 97, 97, 97, 97, 97, 97, 97, 97] = 0 := by decide +kernel
  have hs2 : upk [1, 0, 97, 132, 1] 9 = ([97, 97, 97, 97, 97, 97, 97, 97, 97], 0) := by decide +kernel
  have ht1 : strOfNums [1, 0, 97, 132, 1] = (⟨#[1, 0, 97, 132, 1]⟩ : ByteArray) := by decide
  have ht2 : strOfNums [97, 97, 97, 97, 97, 97, 97, 97, 97] = (⟨#[97, 97, 97, 97, 97, 97, 97, 97, 97]⟩ : ByteArray) := by decide
  have HS1 := Lib.hid hs1
  have HS2 := Lib.hid hs2
  have HE1 := Lib.hid he1
  have HT1 := Lib.hid ht1
  have HT2 := Lib.hid ht2
  clear hs1 hs2 he1 ht1 ht2
  have kc := fun (w : World) (C : Array Value) (n c : Nat) => Lib.run_convert_bytes_const (P := Try.prog) w 22 5 C n c Try.underlying22 Try.underlying5
  have HA := Lib.hid (rd_row w [97, 97, 97, 97, 97, 97, 97, 97, 97] (by simp) #[.int .u8 97, .int .u8 97, .int .u8 97, .int .u8 97, .int .u8 97, .int .u8 97, .int .u8 97, .int .u8 97, .int .u8 97] rfl (9, 10))
  have HB0 := Lib.hid ((Below.refl w.heap.size w).alloc (Nat.le_refl _) (.cells #[.int .u8 97, .int .u8 97, .int .u8 97, .int .u8 97, .int .u8 97, .int .u8 97, .int .u8 97, .int .u8 97, .int .u8 97] 5 (9, 10)))
  go_enter Try.func17, Try.ntmps17
  go_wp2_with fail
  refine (pack_any _ 9 [97, 97, 97, 97, 97, 97, 97, 97, 97] _ HA.out (by decide) (by decide)).mono ?_
  rintro e w1 ⟨v1, rfl, ho1, hb1⟩
  rw [HE1.out]
  rw [HS1.out] at ho1
  have HB1 := Lib.hid (HB0.out.trans (hb1.mono HB0.out.size))
  have HO1 := Lib.hid ho1
  clear ho1 hb1
  have HA2 := Lib.hid (rd_row w1 [1, 0, 97, 132, 1] (by simp) #[.int .u8 1, .int .u8 0, .int .u8 97, .int .u8 132, .int .u8 1] rfl (0, 0))
  have HB2 := Lib.hid ((Below.refl w1.heap.size w1).alloc (Nat.le_refl _) (.cells #[.int .u8 1, .int .u8 0, .int .u8 97, .int .u8 132, .int .u8 1] 5))
  go_wp2_with fail
  refine (unpack_any _ 5 [1, 0, 97, 132, 1] 9 _ HA2.out (by unfold Bts; decide) (by decide) (by decide)).mono ?_
  rintro e w3 ⟨v3, rfl, ho3, hb3⟩
  rw [HS2.out]
  rw [HS2.out] at ho3
  have hb13 := HB2.out.trans (hb3.mono HB2.out.size)
  have HB3 := Lib.hid (HB1.out.trans (hb13.mono HB1.out.size))
  have hc1 := own_str (own_step HO1.out hb13)
  have hc3 := own_str ho3
  rw [HT1.out] at hc1
  rw [HT2.out] at hc3
  clear ho3 hb3 hb13
  go_wp2_with fail
  go_ret
  exact ⟨rfl, HB3.out⟩
end Go.Proofs.Ytenikeldjgpgmaa
