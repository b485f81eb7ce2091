/-
  The examples of layer 4 (slabvaultlaw04.lives). No premise.
-/
import Derived.Test.YtadmpjikkpnjnaaDoorSl5
namespace Go.Proofs.YtadmpjikkpnjnaaDoor
open Go.RowKit Go.Shelf Go.Proofs.YtadmpjikkpnjnaaDoorW.PrintWords

theorem FOk.spF {F : FM} (h : FOk F) (r : Rt) : FOk (spF F r) := by
  unfold Go.Proofs.YtadmpjikkpnjnaaDoor.spF
  split
  · exact h.wF (spX_bts _ _) _
  · exact h
def exR : Rt := ⟨1, 64, 9⟩
set_option maxRecDepth 100000 in
set_option maxHeartbeats 1600000 in
theorem lives04 (w : World) (hT : TabAt w) : Calls Tryd.prog 12 #[] w fun e w' => e = .returned (.bool true) ∧ Below w.heap.size w w' := by
  obtain ⟨F0, hF0⟩ : ∃ F0, F0 = mkF [] 100 := ⟨_, rfl⟩
  obtain ⟨F1, hF1⟩ : ∃ F1, F1 = spF F0 exR := ⟨_, rfl⟩
  have hk0 : FOk F0 := by rw [hF0]; exact mkF_ok Bts.nil (by unfold ofB; simp)
  have hk1 : FOk F1 := by rw [hF1]; exact hk0.spF _
  have e1 : spE F0 exR = 0 := by rw [hF0]; decide +kernel
  have e2 : F1.b.length = 64 := by rw [hF1, hF0]; decide +kernel
  have e3 : bsR F1.b = exR := by rw [hF1, hF0]; decide +kernel
  have e4 : bsIs F1.b = true := by rw [hF1, hF0]; decide +kernel
  have e5 : F1.off = false := by rw [hF1, hF0]; decide +kernel
  have e6 : F0.raws.length ≤ 900000000 := by rw [hF0]; decide +kernel
  have e7 : gOk exR := by unfold gOk exR; decide
  have HK0 := Lib.hid hk0
  have HK1 := Lib.hid hk1
  have HF0 := Lib.hid hF0
  have HF1 := Lib.hid hF1
  have HE1 := Lib.hid e1
  have HE2 := Lib.hid e2
  have HE3 := Lib.hid e3
  have HE4 := Lib.hid e4
  have HE5 := Lib.hid e5
  have HE6 := Lib.hid e6
  have HE7 := Lib.hid e7
  have HT := Lib.hid hT
  have HFR0 := Lib.hid (show Fr (fun _ => 0) w from fun _ _ => rfl)
  have hq : ∀ W, (binOp .eql 24 (.agg #[.int .u64 1, .int .i64 64, .int .i64 9]) (.agg #[.int .u64 1, .int .i64 64, .int .i64 9])).run Tryd.prog W = .ok (.bool true) W := fun W => eq_root exR exR W
  clear hF0 hF1 hk0 hk1 e1 e2 e3 e4 e5 e6 e7 hT
  go_enter Tryd.func12, Tryd.ntmps12
  go_wp2_with fail
  refine (new_any (fun _ => 0) 1 100 w HFR0.out (by unfold ofB; simp)).mono ?_
  rintro e w1 ⟨p, o1, rfl, hf1, hu1, _, _⟩
  rw [← HF0.out] at hf1
  have HFI1 := Lib.hid hf1
  have HU1 := Lib.hid hu1
  have HB1 := Lib.hid (hu1.below (by decide) (Nat.le_refl _) (fun _ _ => rfl))
  clear hf1 hu1
  go_wp2_with fail
  refine (slPut_any o1 1 (by decide) (by decide) p F0 exR w1 HFI1.out HU1.out.fr HK0.out HE6.out HE7.out (HT.out.below HB1.out (Nat.le_refl _))).mono ?_
  rintro e w2 ⟨o2, rfl, hu2, hf2⟩
  rw [HE1.out]
  rw [← HF1.out] at hf2
  have HU2 := Lib.hid (HU1.out.trans hu2)
  have HFI2 := Lib.hid hf2
  have HB2 := Lib.hid (HU2.out.below (by decide) (Nat.le_refl _) (fun _ _ => rfl))
  clear hu2 hf2
  go_wp2_with fail
  refine (len_any o2 1 p F1 w2 HFI2.out).mono ?_
  rintro e w3 ⟨rfl, rfl⟩
  rw [HE2.out]
  go_wp2_with fail
  refine (best_any o2 1 p F1 w2 HFI2.out (by rw [HE2.out]; decide) HE5.out HK1.out.bts (HT.out.below HB2.out (Nat.le_refl _))).mono ?_
  rintro e w4 ⟨rfl, hb4⟩
  rw [HE3.out, HE4.out, show exR.v = .agg #[.int .u64 1, .int .i64 64, .int .i64 9] from rfl]
  have HB4 := Lib.hid (HB2.out.trans (hb4.mono HB2.out.size))
  clear hb4
  go_wp2_with fail
  go_ret
  exact ⟨rfl, HB4.out.alloc HB4.out.size _⟩
end Go.Proofs.YtadmpjikkpnjnaaDoor
