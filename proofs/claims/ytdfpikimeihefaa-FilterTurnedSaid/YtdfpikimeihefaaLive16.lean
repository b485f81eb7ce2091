/-
  The examples of layer 16 (slabvaultlaw16.lives). No premise.
-/
import Derived.Test.YtdfpikimeihefaaFil6
import Derived.Lib.SmallJoins
namespace Go.Proofs.Ytdfpikimeihefaa
open Go.RowKit Go.Proofs.YtdfpikimeihefaaW.PrintWords

theorem fl_one (w : World) (k d : Int) (t : TypeId) (fr : Nat × Nat) : Fls (w.alloc (.cells #[.int .i64 k, .int .i64 d] t fr)) (some ⟨w.heap.size, 0, none⟩) [(k, d)] := by
  refine ⟨by simp, fun _ => ⟨_, rfl, fun i hi => ?_⟩⟩
  have hi0 : i = 0 := by simpa using hi
  subst hi0
  have h := World.alloc_heap_new w (.cells #[.int .i64 k, .int .i64 d] t fr)
  constructor
  · show World.cell? _ ⟨w.heap.size, 0, none⟩ = _
    unfold World.cell?
    rw [h]
    rfl
  · show World.cell? _ ⟨w.heap.size, 1, none⟩ = _
    unfold World.cell?
    rw [h]
    rfl
set_option maxHeartbeats 1600000 in
theorem lives16 (w : World) : Calls Try.prog 12 #[] w fun e w' => e = .returned (.bool true) ∧ Below w.heap.size w w' := by
  have hs1 : apL [(4, 0)] [97, 98] = [97, 98, 1, 36, 0, 195] := by decide +kernel
  have he1 : apE [(4, 0)] [97, 98] = 0 := by decide +kernel
  have hs2 : udR [(4, 0)] [97, 98, 1, 36, 0, 195] 2 = ([97, 98], 0) := by decide +kernel
  have hc1 : fck [(1, 0)] = 2 := by decide +kernel
  have ht1 : strOfNums [97, 98, 1, 36, 0, 195] = (⟨#[97, 98, 1, 36, 0, 195]⟩ : ByteArray) := by decide
  have ht2 : strOfNums [97, 98] = (⟨#[97, 98]⟩ : ByteArray) := by decide
  have HS1 := Lib.hid hs1
  have HS2 := Lib.hid hs2
  have HE1 := Lib.hid he1
  have HC1 := Lib.hid hc1
  have HT1 := Lib.hid ht1
  have HT2 := Lib.hid ht2
  clear hs1 hs2 he1 ht1 ht2 hc1
  have kc := fun (w : World) (C : Array Value) (n c : Nat) => Lib.run_convert_bytes_const (P := Try.prog) w 28 5 C n c Try.underlying28 Try.underlying5
  have kc2 : ∀ (w : World) (o : Obj) (C : Array Value) (n c : Nat), (convert 28 28 (.slice (some ⟨w.heap.size + 1, 0, none⟩) n c)).run Try.prog ((w.alloc o).alloc (.cells C 5)) = .ok (.slice (some ⟨w.heap.size + 1, 0, none⟩) n c) ((w.alloc o).alloc (.cells C 5 (C.size, C.size + 1))) := fun w o C n c => by
    have := kc (w.alloc o) C n c
    rw [World.size_alloc] at this
    exact this
  clear kc
  have HF := fun w : World => Lib.hid ((fl_one w 4 0 43 (0, 0)).below ((Below.refl (w.alloc (.cells #[.int .i64 4, .int .i64 0] 43)).heap.size _).alloc (Nat.le_refl _) (.cells #[.int .u8 97, .int .u8 98] 5 (2, 3))))
  have HF2 := fun w : World => Lib.hid ((fl_one w 4 0 43 (0, 0)).below ((Below.refl (w.alloc (.cells #[.int .i64 4, .int .i64 0] 43)).heap.size _).alloc (Nat.le_refl _) (.cells #[.int .u8 97, .int .u8 98, .int .u8 1, .int .u8 36, .int .u8 0, .int .u8 195] 5 (6, 7))))
  have ha1 := rd_row (w.alloc (.cells #[.int .i64 4, .int .i64 0] 43)) [97, 98] (by simp) #[.int .u8 97, .int .u8 98] rfl (2, 3)
  rw [World.size_alloc] at ha1
  have HA1 := Lib.hid ha1
  clear ha1
  have HB1 := Lib.hid (((Below.refl w.heap.size w).alloc (Nat.le_refl _) (.cells #[.int .i64 4, .int .i64 0] 43)).alloc (by simp) (.cells #[.int .u8 97, .int .u8 98] 5 (2, 3)))
  go_enter Try.func12, Try.ntmps12
  go_wp2_with fail
  refine (apply_any (some ⟨w.heap.size, 0, none⟩) 1 [(4, 0)] (some ⟨w.heap.size + 1, 0, none⟩) 2 [97, 98] _ (HF w).out HA1.out (by unfold Bts; decide) (by decide)).mono ?_
  rintro e w1 ⟨v1, rfl, ho1, hb1⟩
  rw [HE1.out]
  rw [HS1.out] at ho1
  have HW1 := Lib.hid (HB1.out.trans (hb1.mono HB1.out.size))
  have HO1 := Lib.hid ho1
  clear ho1 hb1
  have ha2 := rd_row (w1.alloc (.cells #[.int .i64 4, .int .i64 0] 43)) [97, 98, 1, 36, 0, 195] (by simp) #[.int .u8 97, .int .u8 98, .int .u8 1, .int .u8 36, .int .u8 0, .int .u8 195] rfl (6, 7)
  rw [World.size_alloc] at ha2
  have HA2 := Lib.hid ha2
  clear ha2
  have HB2 := Lib.hid (((Below.refl w1.heap.size w1).alloc (Nat.le_refl _) (.cells #[.int .i64 4, .int .i64 0] 43)).alloc (by simp) (.cells #[.int .u8 97, .int .u8 98, .int .u8 1, .int .u8 36, .int .u8 0, .int .u8 195] 5 (6, 7)))
  go_wp2_with fail
  refine (undo_any (some ⟨w1.heap.size, 0, none⟩) 1 [(4, 0)] (some ⟨w1.heap.size + 1, 0, none⟩) 6 [97, 98, 1, 36, 0, 195] 2 _ (HF2 w1).out HA2.out (by unfold Bts; decide) (by decide)).mono ?_
  rintro e w3 ⟨v3, rfl, ho3, hb3⟩
  rw [HS2.out]
  rw [HS2.out] at ho3
  have hb13 := HB2.out.trans (hb3.mono HB2.out.size)
  have HB3 := Lib.hid (HW1.out.trans (hb13.mono HW1.out.size))
  have hc1 := own_str (own_step HO1.out hb13)
  have hc3 := own_str ho3
  rw [HT1.out] at hc1
  rw [HT2.out] at hc3
  clear ho3 hb3 hb13 kc2
  go_wp2_with fail
  refine (check_any _ 1 [(1, 0)] _ (fl_one w3 1 0 43 (0, 0))).mono ?_
  rintro e w4 ⟨rfl, hb4⟩
  rw [HC1.out]
  have HB4 := Lib.hid (HB3.out.trans (((Below.refl w3.heap.size w3).alloc (Nat.le_refl _) (.cells #[.int .i64 1, .int .i64 0] 43)).trans (hb4.mono (by simp)) |>.mono HB3.out.size))
  clear hb4
  go_wp2_with fail
  go_ret
  exact ⟨rfl, HB4.out⟩
end Go.Proofs.Ytdfpikimeihefaa
