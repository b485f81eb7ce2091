/-
  The examples of layer 14 (slabvaultlaw14.lives). No premise.
-/
import Derived.Test.YthbnhepmmiiikaaDel2
import Derived.Lib.SmallJoins
namespace Go.Proofs.Ythbnhepmmiiikaa
open Go.RowKit Go.Proofs.YthbnhepmmiiikaaW.PrintWords

theorem rd_mark (w : World) (g : Nat) (hg : g = w.heap.size) (C : Array Value) (t : TypeId) (fr : Nat × Nat) (l : List Int) (hC : C = (nums .u8 l).toArray) (hl : l.length ≤ 9223372036854775807) : Rd (w.alloc (.cells C t fr)) (some ⟨g, 0, none⟩) l := by
  subst hg hC
  refine ⟨rfl, hl, fun _ => ⟨_, rfl, fun j hj => ?_⟩⟩
  have he : (⟨w.heap.size, 0, none⟩ : Addr).add j = ⟨w.heap.size, j, none⟩ := by
    unfold Addr.add
    split
    · next h => rw [h]
    · simp
  rw [he, World.cell?_alloc_mark]
  simp [nums, List.getElem?_eq_getElem hj]
set_option maxHeartbeats 800000 in
theorem lives14 (w : World) : Calls Try.prog 16 #[] w fun e w' => e = .returned (.bool true) ∧ Below w.heap.size w w' := by
  have hs1 : mxL shufL 2 [97, 65, 98, 66, 99, 67, 120] = [97, 98, 99, 65, 66, 67, 120] := by decide +kernel
  have hs2 : mxL deltaL 1 [5, 7, 6] = [5, 2, 255] := by decide +kernel
  have he1 : mxE 2 = 0 := by decide
  have he2 : mxE 1 = 0 := by decide
  have ht1 : strOfNums [97, 98, 99, 65, 66, 67, 120] = (⟨#[97, 98, 99, 65, 66, 67, 120]⟩ : ByteArray) := by decide
  have ht2 : strOfNums [5, 2, 255] = (⟨#[5, 2, 255]⟩ : ByteArray) := by decide
  have HS1 := Lib.hid hs1
  have HS2 := Lib.hid hs2
  have HE1 := Lib.hid he1
  have HE2 := Lib.hid he2
  have HT1 := Lib.hid ht1
  have HT2 := Lib.hid ht2
  clear hs1 hs2 he1 he2 ht1 ht2
  have kc := fun (w : World) (C : Array Value) (n c : Nat) => Lib.run_convert_bytes_const (P := Try.prog) w 23 5 C n c Try.underlying23 Try.underlying5
  have HA := Lib.hid (rd_mark w w.heap.size rfl #[.int .u8 97, .int .u8 65, .int .u8 98, .int .u8 66, .int .u8 99, .int .u8 67, .int .u8 120] 5 (7, 8) [97, 65, 98, 66, 99, 67, 120] rfl (by decide))
  have HB0 := Lib.hid ((Below.refl w.heap.size w).alloc (Nat.le_refl _) (.cells #[.int .u8 97, .int .u8 65, .int .u8 98, .int .u8 66, .int .u8 99, .int .u8 67, .int .u8 120] 5 (7, 8)))
  go_enter Try.func16, Try.ntmps16
  go_wp2_with fail
  refine (shuffle_any _ 7 [97, 65, 98, 66, 99, 67, 120] 2 _ HA.out (by decide)).mono ?_
  rintro e w1 ⟨v1, rfl, ho1, hb1⟩
  rw [HE1.out]
  rw [HS1.out] at ho1
  have HB1 := Lib.hid (HB0.out.trans (hb1.mono HB0.out.size))
  have HO1 := Lib.hid ho1
  clear ho1 hb1
  have HA2 := Lib.hid (rd_mark w1 w1.heap.size rfl #[.int .u8 5, .int .u8 7, .int .u8 6] 5 (0, 0) [5, 7, 6] rfl (by decide))
  have hb2 := (Below.refl w1.heap.size w1).alloc (Nat.le_refl _) (.cells #[.int .u8 5, .int .u8 7, .int .u8 6] 5)
  have HB2 := Lib.hid hb2
  clear hb2
  go_wp2_with fail
  refine (delta_any _ 3 [5, 7, 6] 1 _ HA2.out (by unfold Bts; decide) (by decide) (by decide)).mono ?_
  rintro e w3 ⟨v3, rfl, ho3, hb3⟩
  rw [HE2.out]
  rw [HS2.out] at ho3
  have hb13 := HB2.out.trans (hb3.mono HB2.out.size)
  have HB3 := Lib.hid (HB1.out.trans (hb13.mono HB1.out.size))
  have hc1 := own_str (own_step HO1.out hb13)
  have hc3 := own_str ho3
  rw [HT1.out] at hc1
  rw [HT2.out] at hc3
  clear ho3 hb3 hb13
  go_wp2_with fail
  go_ret
  exact ⟨rfl, HB3.out⟩
end Go.Proofs.Ythbnhepmmiiikaa
