/-
  The examples of layer 3 (slabvaultlaw03.lives). No premise.
-/
import Derived.Test.YtnmcmenjhmhfjaaSt9
import Derived.Lib.SmallJoins
namespace Go.Proofs.Ytnmcmenjhmhfjaa
open Go.RowKit Go.Shelf Go.Proofs.YtnmcmenjhmhfjaaW.PrintWords

theorem FOk.start {F : FM} (h : FOk F) : FOk { F with off := false } := ⟨h.len, h.most, h.lo, h.hi, h.bts, h.rbts⟩
theorem rd_row (w : World) (l : List Int) (hl : l.length ≤ 9223372036854775807) (C : Array Value) (hC : C = (nums .u8 l).toArray) (fr : Nat × Nat) : Rd (w.alloc (.cells C 5 fr)) (some ⟨w.heap.size, 0, none⟩) l := by
  refine ⟨rfl, hl, fun _ => ⟨_, rfl, fun j hj => ?_⟩⟩
  have e : (⟨w.heap.size, 0, none⟩ : Addr).add j = ⟨w.heap.size, j, none⟩ := by unfold Addr.add; split <;> simp_all
  rw [e]
  unfold World.cell?
  rw [World.alloc_heap_new]
  subst hC
  simp [nums, List.getD_eq_getElem?_getD, List.getElem?_eq_getElem hj]
def txt : List Int := [48, 49, 50, 51, 52, 53, 54, 55, 56, 57, 97, 98, 99, 100, 101, 102, 48, 49, 50, 51, 52, 53, 54, 55, 56, 57, 97, 98, 99, 100, 101, 102]
def zer : List Int := List.replicate 40 0
set_option maxRecDepth 100000 in
set_option maxHeartbeats 1600000 in
theorem lives03 (w : World) : Calls Try.prog 11 #[] w fun e w' => e = .returned (.bool true) ∧ Below w.heap.size w w' := by
  obtain ⟨F0, hF0⟩ : ∃ F0, F0 = mkF [] 100 := ⟨_, rfl⟩
  obtain ⟨F1, hF1⟩ : ∃ F1, F1 = wF F0 0 zer := ⟨_, rfl⟩
  obtain ⟨F2, hF2⟩ : ∃ F2, F2 = ctF F1 1 := ⟨_, rfl⟩
  obtain ⟨F3, hF3⟩ : ∃ F3, F3 = wF F2 0 txt := ⟨_, rfl⟩
  obtain ⟨F4, hF4⟩ : ∃ F4, F4 = { F3 with off := false } := ⟨_, rfl⟩
  have hk0 : FOk F0 := by rw [hF0]; exact mkF_ok Bts.nil (by unfold ofB; simp)
  have hzb : Bts zer := by unfold Bts zer; decide
  have htb : Bts txt := by unfold Bts txt; decide
  have hk1 : FOk F1 := by rw [hF1]; exact hk0.wF hzb _
  have hk2 : FOk F2 := by rw [hF2]; exact hk1.ctF 1 (by decide)
  have hk3 : FOk F3 := by rw [hF3]; exact hk2.wF htb _
  have e1 : wE F0 0 zer = 0 := by rw [hF0]; decide +kernel
  have e2 : F1.raws.length = 3 := by rw [hF1, hF0]; decide +kernel
  have e2b : ∀ r ∈ F1.raws, r.2.length ≤ 1000000000 := by rw [hF1, hF0]; decide +kernel
  have e3 : wE F2 0 txt = 6 := by rw [hF2, hF1, hF0]; decide +kernel
  have e4 : F3.off = true := by rw [hF3, hF2, hF1, hF0]; decide +kernel
  have e5 : rdE F4 15 2 = 0 := by rw [hF4, hF3, hF2, hF1, hF0]; decide +kernel
  have e6 : rdL F4 15 2 = [102, 0] := by rw [hF4, hF3, hF2, hF1, hF0]; decide +kernel
  have e7 : F2.raws.length ≤ 900000000 := by rw [hF2, hF1, hF0]; decide +kernel
  have e8 : F0.raws.length ≤ 900000000 := by rw [hF0]; decide +kernel
  have e9 : F4.b.length ≤ 4200000 := by rw [hF4, hF3, hF2, hF1, hF0]; decide +kernel
  have ht2 : strOfNums [102, 0] = (⟨#[102, 0]⟩ : ByteArray) := by decide
  have HK0 := Lib.hid hk0
  have HK2 := Lib.hid hk2
  have HZB := Lib.hid hzb
  have HTB := Lib.hid htb
  have HF0 := Lib.hid hF0
  have HF1 := Lib.hid hF1
  have HF2 := Lib.hid hF2
  have HF3 := Lib.hid hF3
  have HF4 := Lib.hid hF4
  have HE1 := Lib.hid e1
  have HE2 := Lib.hid e2
  have HE2B := Lib.hid e2b
  have HE3 := Lib.hid e3
  have HE4 := Lib.hid e4
  have HE5 := Lib.hid e5
  have HE6 := Lib.hid e6
  have HE7 := Lib.hid e7
  have HE8 := Lib.hid e8
  have HE9 := Lib.hid e9
  have HT2 := Lib.hid ht2
  clear hF0 hF1 hF2 hF3 hF4 hk0 hk1 hk2 hk3 hzb htb e1 e2 e2b e3 e4 e5 e6 e7 e8 e9 ht2
  have HFR0 := Lib.hid (show Fr (fun _ => 0) w from fun _ _ => rfl)
  have hmk : ∀ W : World, (Instr.makeSlice 22 (.int .i64 40) (.int .i64 40)).run Try.prog W = .ok (.slice (some ⟨W.heap.size, 0, none⟩) 40 40) (W.alloc (.cells (madeCells #[.int .u8 0] 40) 5)) := fun W => print_make (P := Try.prog) 22 5 .u8 1 Try.underlying22 infoB (by omega) 40 (by decide) W
  have hmd : (madeCells #[.int .u8 0] 40) = (nums .u8 zer).toArray := by kernel_rfl
  have HMD := Lib.hid hmd
  have kc := fun (w : World) (C : Array Value) (n c : Nat) => Lib.run_convert_bytes_const (P := Try.prog) w 22 5 C n c Try.underlying22 Try.underlying5
  clear hmd
  go_enter Try.func11, Try.ntmps11
  go_wp2_with fail
  refine (new_any (fun _ => 0) 1 100 w HFR0.out (by unfold ofB; simp)).mono ?_
  rintro e w1 ⟨p, o1, rfl, hf1, hu1, _, _⟩
  rw [← HF0.out] at hf1
  have HFI1 := Lib.hid hf1
  have HU1 := Lib.hid hu1
  clear hf1 hu1
  go_wp2_with fail
  clear hmk
  have hba : Below w1.heap.size w1 (w1.alloc (.cells (madeCells #[.int .u8 0] 40) 5)) := (Below.refl _ _).alloc (Nat.le_refl _) _
  have HRZ := Lib.hid (rd_row w1 zer (by decide) (madeCells #[.int .u8 0] 40) HMD.out (0, 0))
  have HUA := Lib.hid (HU1.out.below' hba)
  have HFA := Lib.hid (HFI1.out.below hba)
  have HTA := Lib.hid (show 0 < zer.length → ∀ a : Addr, some (⟨w1.heap.size, 0, none⟩ : Addr) = some a → o1 a.block ≠ 1 from fun _ a e => by cases e; rw [HU1.out.fr _ (Nat.le_refl _)]; decide)
  clear hba
  generalize w1.alloc (.cells (madeCells #[.int .u8 0] 40) 5) = w1a at *
  refine (write_any o1 1 (by decide) (by decide) p F0 0 (some ⟨w1.heap.size, 0, none⟩) 40 zer w1a HFA.out HUA.out.fr HK0.out (by decide) (by decide) HRZ.out HTA.out (by decide) (by decide) HE8.out).mono ?_
  rintro e w2 ⟨o2, rfl, hu2, hf2⟩
  rw [HE1.out]
  rw [← HF1.out] at hf2
  have HU2 := Lib.hid (HUA.out.trans hu2)
  have HFI2 := Lib.hid hf2
  clear hu2 hf2
  go_wp2_with fail
  refine (raws_any o2 1 p F1 w2 HFI2.out (by rw [HE2.out]; decide) HE2B.out).mono ?_
  rintro e w3 ⟨v3, L3, rfl, hr3, hrs3, hb3⟩
  obtain ⟨A3, c3, rfl, _⟩ := row_split hr3.own
  have hl3 : L3.length = 3 := by have := rws_length L3; rw [hrs3, HE2.out] at this; omega
  have HU3 := Lib.hid (HU2.out.below' hb3)
  have HFI3 := Lib.hid (HFI2.out.below hb3)
  clear hr3 hrs3 hb3
  go_wp2_with fail
  refine (cut_any o2 1 (by decide) (by decide) p F1 1 w3 HFI3.out HU3.out.fr).mono ?_
  rintro e w4 ⟨rfl, hu4, hf4⟩
  rw [show ctE 1 = 0 from by decide]
  rw [← HF2.out] at hf4
  have HU4 := Lib.hid (HU3.out.trans hu4)
  have HFI4 := Lib.hid hf4
  clear hu4 hf4
  go_wp2_with fail
  clear kc
  obtain ⟨CT, hCT⟩ : ∃ CT : Array Value, CT = #[.int .u8 48, .int .u8 49, .int .u8 50, .int .u8 51, .int .u8 52, .int .u8 53, .int .u8 54, .int .u8 55, .int .u8 56, .int .u8 57, .int .u8 97, .int .u8 98, .int .u8 99, .int .u8 100, .int .u8 101, .int .u8 102, .int .u8 48, .int .u8 49, .int .u8 50, .int .u8 51, .int .u8 52, .int .u8 53, .int .u8 54, .int .u8 55, .int .u8 56, .int .u8 57, .int .u8 97, .int .u8 98, .int .u8 99, .int .u8 100, .int .u8 101, .int .u8 102] := ⟨_, rfl⟩
  rw [← hCT]
  have hct : CT = (nums .u8 txt).toArray := by rw [hCT]; rfl
  have hbt : Below w4.heap.size w4 (w4.alloc (.cells CT 5 (32, 33))) := (Below.refl _ _).alloc (Nat.le_refl _) _
  have HRT := Lib.hid (rd_row w4 txt (by decide) CT hct (32, 33))
  have HUB := Lib.hid (HU4.out.below' hbt)
  have HFB := Lib.hid (HFI4.out.below hbt)
  have HTB2 := Lib.hid (show 0 < txt.length → ∀ a : Addr, some (⟨w4.heap.size, 0, none⟩ : Addr) = some a → o2 a.block ≠ 1 from fun _ a e => by cases e; rw [HU4.out.fr _ (Nat.le_refl _)]; decide)
  clear hbt hct hCT
  generalize w4.alloc (.cells CT 5 (32, 33)) = w4a at *
  refine (write_any o2 1 (by decide) (by decide) p F2 0 (some ⟨w4.heap.size, 0, none⟩) 32 txt w4a HFB.out HUB.out.fr HK2.out (by decide) (by decide) HRT.out HTB2.out (by decide) (by decide) HE7.out).mono ?_
  rintro e w5 ⟨o5, rfl, hu5, hf5⟩
  rw [HE3.out]
  rw [← HF3.out] at hf5
  have HU5 := Lib.hid (HUB.out.trans hu5)
  have HFI5 := Lib.hid hf5
  clear hu5 hf5
  go_wp2_with fail
  refine (on_any o5 1 p F3 w5 HFI5.out).mono ?_
  rintro e w6 ⟨rfl, rfl⟩
  rw [HE4.out]
  go_wp2_with fail
  refine (start_any o5 1 (by decide) (by decide) p F3 w5 HFI5.out HU5.out.fr).mono ?_
  rintro e w6 ⟨rfl, hu6, hf6⟩
  rw [← HF4.out] at hf6
  have HU6 := Lib.hid (HU5.out.trans hu6)
  have HFI6 := Lib.hid hf6
  clear hu6 hf6
  go_wp2_with fail
  refine (read_any o5 1 p F4 15 2 w6 HFI6.out HE9.out (by decide) (by decide) (by decide) (by decide)).mono ?_
  rintro e w7 ⟨v7, rfl, ho7, hb7⟩
  rw [HE5.out]
  rw [HE6.out] at ho7
  have hc7 := own_str ho7
  rw [HT2.out] at hc7
  have HU7 := Lib.hid (HU6.out.below' hb7)
  clear ho7 hb7
  go_wp2_with fail
  go_ret
  exact ⟨rfl, HU7.out.below (by decide) (Nat.le_refl _) (fun _ _ => rfl)⟩
end Go.Proofs.Ytnmcmenjhmhfjaa
