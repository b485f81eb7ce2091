/-
  SlotsBest: the walk. No premise.
-/
import Derived.Test.YtadmpjikkpnjnaaDoorSl6
import Derived.Test.YtadmpjikkpnjnaaDoorSl7
import Derived.Deep.RegionHeld3
namespace Go.Proofs.YtadmpjikkpnjnaaDoor
open Go.RowKit Go.Shelf Go.Proofs.YtadmpjikkpnjnaaDoorW.PrintWords

/-- A block that is nobody's lies as it lay. -/
theorem Upd.keep0 {o o' : Nat → Nat} {i : Nat} {w w' : World} (u : Upd o o' i w w') (h0 : i ≠ 0) {k : Nat} {X : Obj} (ho : o k = 0) (hX : w.heap[k]? = some X) : w'.heap[k]? = some X :=
  (u.blk k (Array.getElem?_eq_some_iff.1 hX).1 (by rw [ho]; exact fun e => h0 e.symm)).trans hX
set_option maxRecDepth 100000 in
set_option maxHeartbeats 3200000 in
theorem slotsBest_walk (B : Option Addr) (c : Nat) (b : List Int) (w : World) (hT : TabAt w) (hr : ReadsInt w .u8 B b.length b) (hw : ∀ x ∈ b, (Lit.int .u8 x).wf = true) (hc : b.length ≤ c) (_hy : b.length * 1 ≤ 140737488351232) :
    Calls Tryd.prog 6 #[.slice B b.length c] w fun e w' => e = .returned (.bool true) ∧ Below w.heap.size w w' := by
  have HT := Lib.hid hT
  have HRB := Lib.hid (show Rd w B b from hr)
  have HBB := Lib.hid (wf_bts' hw)
  clear hT hr hw
  by_cases hbig : 1000 < b.length
  · go_enter Tryd.func6, Tryd.ntmps6
    go_wp2_with (go_at_call 12; refine (lives04 _ HT.out).mono ?_; rintro e w1 ⟨rfl, hb1⟩)
    go_ret
    exact ⟨rfl, hb1⟩
  obtain ⟨F0, hF0⟩ : ∃ F0, F0 = mkF b 1000 := ⟨_, rfl⟩
  obtain ⟨F1, hF1⟩ : ∃ F1, F1 = ctF F0 0 := ⟨_, rfl⟩
  obtain ⟨F2, hF2⟩ : ∃ F2, F2 = wF F1 0 [1] := ⟨_, rfl⟩
  have hofb : ¬ ofB b 1000 := by unfold ofB; omega
  have e0 : F0.b = b ∧ F0.off = false := by rw [hF0]; exact ⟨rfl, rfl⟩
  have hk0 : FOk F0 := by rw [hF0]; exact mkF_ok HBB.out hofb
  have hk1 : FOk F1 := by rw [hF1]; exact hk0.ctF 0 (by decide)
  have hF1' : F1 = ⟨b, 1000, false, 0, []⟩ := by rw [hF1, hF0]; rfl
  have e1 : wE F1 0 [1] = 6 := by
    rw [hF1']
    unfold wE
    simp only [Bool.false_eq_true, if_false]
    rw [if_neg (by omega), if_neg (by simp)]
    rfl
  have e2 : F2.off = true := by
    rw [hF2, hF1']
    unfold wF
    simp only [Bool.false_eq_true, if_false]
    rw [if_neg (by omega), if_neg (by simp)]
    rfl
  have e3 : F2.b.length ≤ 4200000 := by
    have h := hk1.wF (x := [1]) (by unfold Bts; decide) 0
    rw [← hF2] at h
    have := h.len; have := h.most; omega
  have e4 : F1.raws.length ≤ 900000000 := by rw [hF1']; simp
  have HF0 := Lib.hid hF0
  have HF1 := Lib.hid hF1
  have HF2 := Lib.hid hF2
  have HE0 := Lib.hid e0
  have HE1 := Lib.hid e1
  have HE2 := Lib.hid e2
  have HE3 := Lib.hid e3
  have HE4 := Lib.hid e4
  have HK0 := Lib.hid hk0
  have HK1 := Lib.hid hk1
  have hbl : b.length ≤ 1000 := by omega
  have HFR0 := Lib.hid (show Fr (fun _ => 0) w from fun _ _ => rfl)
  clear hF0 hF1 hF1' hF2 e0 e1 e2 e3 e4 hk0 hk1
  go_enter Tryd.func6, Tryd.ntmps6
  go_wp2_with fail
  refine (of_any (fun _ => 0) 1 B c b 1000 w HFR0.out HRB.out hofb).mono ?_
  rintro e w1 ⟨p, o1, rfl, hf1, hu1, _, _⟩
  rw [← HF0.out] at hf1
  have HFI1 := Lib.hid hf1
  have HU1 := Lib.hid hu1
  clear hf1 hu1 hofb
  go_wp2_with fail
  have HB1 := Lib.hid (HU1.out.below (by decide) (Nat.le_refl _) (fun _ _ => rfl))
  refine (best_any o1 1 p F0 w1 HFI1.out (by rw [HE0.out.1]; omega) HE0.out.2 HK0.out.bts (HT.out.below HB1.out (Nat.le_refl _))).mono ?_
  rintro e w2 ⟨rfl, hb2⟩
  rw [HE0.out.1]
  obtain ⟨r, hr⟩ : ∃ r, r = bsR b := ⟨_, rfl⟩
  obtain ⟨is, his⟩ : ∃ is, is = bsIs b := ⟨_, rfl⟩
  rw [← hr, ← his, show r.v = .agg #[.int .u64 r.g, .int .i64 r.pl, .int .i64 r.sz] from rfl]
  have HRR := Lib.hid hr
  have HII := Lib.hid his
  clear hr his
  have HS12 := Lib.hid hb2.size
  have HU2 := Lib.hid (HU1.out.below' hb2)
  have HFI2 := Lib.hid (HFI1.out.below hb2)
  have HB2 := Lib.hid (HB1.out.trans (hb2.mono HB1.out.size))
  clear hb2
  have hba : Below w2.heap.size w2 (w2.alloc (.cells #[.int .u64 r.g, .int .i64 r.pl, .int .i64 r.sz] 24)) := (Below.refl _ _).alloc (Nat.le_refl _) _
  have HX3 := Lib.hid (heap_alloc_new w2 (.cells #[.int .u64 r.g, .int .i64 r.pl, .int .i64 r.sz] 24))
  have HU3 := Lib.hid (HU2.out.below' hba)
  have HFI3 := Lib.hid (HFI2.out.below hba)
  have HB3 := Lib.hid (HB2.out.trans (hba.mono HB2.out.size))
  clear hba
  go_wp2_with fail
  generalize w2.alloc (.cells #[.int .u64 r.g, .int .i64 r.pl, .int .i64 r.sz] 24) = w3 at HX3 HU3 HFI3 HB3 ⊢
  refine (refBest_any B c b w3 (HRB.out.below HB3.out) HBB.out hc (by omega)).mono ?_
  rintro e w4 ⟨rfl, hb4⟩
  rw [← HRR.out, ← HII.out, show r.v = .agg #[.int .u64 r.g, .int .i64 r.pl, .int .i64 r.sz] from rfl]
  have HX4 := Lib.hid ((hb4.block _ (Array.getElem?_eq_some_iff.1 HX3.out).1).trans HX3.out)
  have HU4 := Lib.hid (HU3.out.below' hb4)
  have HFI4 := Lib.hid (HFI3.out.below hb4)
  have HS24 := Lib.hid (show w2.heap.size < w4.heap.size from Nat.lt_of_lt_of_le (Array.getElem?_eq_some_iff.1 HX3.out).1 hb4.size)
  clear hb4
  have hba : Below w4.heap.size w4 (w4.alloc (.cells #[.int .u64 r.g, .int .i64 r.pl, .int .i64 r.sz] 31)) := (Below.refl _ _).alloc (Nat.le_refl _) _
  have HX5 := Lib.hid ((hba.block _ (Array.getElem?_eq_some_iff.1 HX4.out).1).trans HX4.out)
  have HY5 := Lib.hid (heap_alloc_new w4 (.cells #[.int .u64 r.g, .int .i64 r.pl, .int .i64 r.sz] 31))
  have HU5 := Lib.hid (HU4.out.below' hba)
  have HFI5 := Lib.hid (HFI4.out.below hba)
  clear hba
  go_wp2_with fail
  generalize w4.alloc (.cells #[.int .u64 r.g, .int .i64 r.pl, .int .i64 r.sz] 31) = w5 at HX5 HY5 HU5 HFI5 ⊢
  refine (best_nil w5).mono ?_
  rintro e w6 ⟨rfl, hb6⟩
  rw [show Rt.zero.v = .agg #[.int .u64 0, .int .i64 0, .int .i64 0] from rfl]
  have hba : Below w5.heap.size w5 (w6.alloc (.cells #[.int .u64 0, .int .i64 0, .int .i64 0] 24)) := hb6.alloc hb6.size _
  have HX7 := Lib.hid ((hba.block _ (Array.getElem?_eq_some_iff.1 HX5.out).1).trans HX5.out)
  have HY7 := Lib.hid ((hba.block _ (Array.getElem?_eq_some_iff.1 HY5.out).1).trans HY5.out)
  have HU7 := Lib.hid (HU5.out.below' hba)
  have HFI7 := Lib.hid (HFI5.out.below hba)
  clear hba hb6
  go_wp2_with fail
  generalize w6.alloc (.cells #[.int .u64 0, .int .i64 0, .int .i64 0] 24) = w7 at HX7 HY7 HU7 HFI7 ⊢
  refine (cut_any o1 1 (by decide) (by decide) p F0 0 w7 HFI7.out HU7.out.fr).mono ?_
  rintro e w8 ⟨rfl, hu8, hf8⟩
  rw [show ctE 0 = 0 from rfl]
  rw [← HF1.out] at hf8
  have hox : o1 w2.heap.size = 0 := HU2.out.fr _ (Nat.le_refl _)
  have hoy : o1 w4.heap.size = 0 := HU4.out.fr _ (Nat.le_refl _)
  have HX8 := Lib.hid (hu8.keep0 (by decide) hox HX7.out)
  have HY8 := Lib.hid (hu8.keep0 (by decide) hoy HY7.out)
  have HU8 := Lib.hid (HU7.out.trans hu8)
  have HFI8 := Lib.hid hf8
  have HOX := Lib.hid hox
  have HOY := Lib.hid hoy
  clear hu8 hf8 hox hoy
  go_wp2_with fail
  have hba : Below w8.heap.size w8 (w8.alloc (.cells #[.int .u8 1] 5)) := (Below.refl _ _).alloc (Nat.le_refl _) _
  have HX9 := Lib.hid ((hba.block _ (Array.getElem?_eq_some_iff.1 HX8.out).1).trans HX8.out)
  have HY9 := Lib.hid ((hba.block _ (Array.getElem?_eq_some_iff.1 HY8.out).1).trans HY8.out)
  have HU9 := Lib.hid (HU8.out.below' hba)
  have HFI9 := Lib.hid (HFI8.out.below hba)
  have HR9 := Lib.hid (rd_const w8 [1] (by decide) #[.int .u8 1] rfl (0, 0) w8.heap.size rfl)
  have HA9 := Lib.hid (show 0 < ([1] : List Int).length → ∀ a : Addr, some (⟨w8.heap.size, 0, none⟩ : Addr) = some a → o1 a.block ≠ 1 from fun _ a e => by cases e; rw [HU8.out.fr _ (Nat.le_refl _)]; decide)
  clear hba
  generalize w8.alloc (.cells #[.int .u8 1] 5) = w9 at HX9 HY9 HU9 HFI9 HR9 ⊢
  refine (write_any o1 1 (by decide) (by decide) p F1 0 (some ⟨w8.heap.size, 0, none⟩) 1 [1] w9 HFI9.out HU9.out.fr HK1.out (by decide) (by decide) HR9.out HA9.out (by decide) (by decide) HE4.out).mono ?_
  rintro e w10 ⟨o2, rfl, hu10, hf10⟩
  rw [HE1.out]
  rw [← HF2.out] at hf10
  have HX10 := Lib.hid (hu10.keep0 (by decide) HOX.out HX9.out)
  have HY10 := Lib.hid (hu10.keep0 (by decide) HOY.out HY9.out)
  have HU10 := Lib.hid (HU9.out.trans hu10)
  have HFI10 := Lib.hid hf10
  clear hu10 hf10
  go_wp2_with fail
  refine (best_off o2 1 p F2 w10 HFI10.out HE3.out HE2.out).mono ?_
  rintro e w11 ⟨rfl, hb11⟩
  rw [show Rt.zero.v = .agg #[.int .u64 0, .int .i64 0, .int .i64 0] from rfl]
  have hba : Below w10.heap.size w10 (w11.alloc (.cells #[.int .u64 0, .int .i64 0, .int .i64 0] 24)) := hb11.alloc hb11.size _
  have HX12 := Lib.hid ((hba.block _ (Array.getElem?_eq_some_iff.1 HX10.out).1).trans HX10.out)
  have HY12 := Lib.hid ((hba.block _ (Array.getElem?_eq_some_iff.1 HY10.out).1).trans HY10.out)
  have HB12 := Lib.hid ((HU10.out.below' hba).below (by decide) (Nat.le_refl _) (fun _ _ => rfl))
  clear hba hb11
  go_wp2_with fail
  generalize w11.alloc (.cells #[.int .u64 0, .int .i64 0, .int .i64 0] 24) = w12 at HX12 HY12 HB12 ⊢
  have HC := Lib.hid (show ∀ W, Below w12.heap.size w12 W → (W.cell? ⟨w2.heap.size, 0, none⟩ = some (.int .u64 r.g) ∧ W.cell? ⟨w2.heap.size, 1, none⟩ = some (.int .i64 r.pl) ∧ W.cell? ⟨w2.heap.size, 2, none⟩ = some (.int .i64 r.sz)) ∧
      (W.cell? ⟨w4.heap.size, 0, none⟩ = some (.int .u64 r.g) ∧ W.cell? ⟨w4.heap.size, 1, none⟩ = some (.int .i64 r.pl) ∧ W.cell? ⟨w4.heap.size, 2, none⟩ = some (.int .i64 r.sz)) from fun W hW =>
    ⟨(rt_cells ((hW.block _ (Array.getElem?_eq_some_iff.1 HX12.out).1).trans HX12.out)).1, (rt_cells ((hW.block _ (Array.getElem?_eq_some_iff.1 HY12.out).1).trans HY12.out)).1⟩)
  have hq : ∀ W, (binOp .eql 31 (.agg #[.int .u64 r.g, .int .i64 r.pl, .int .i64 r.sz]) (.agg #[.int .u64 r.g, .int .i64 r.pl, .int .i64 r.sz])).run Tryd.prog W = .ok (.bool true) W := fun W => by
    have := eq_ref r r W
    rw [Rt.eqv_self] at this
    exact this
  have HPL := Lib.hid (show ∀ W, Calls Tryd.prog 11 #[.agg #[.int .u64 r.g, .int .i64 r.pl, .int .i64 r.sz]] W fun e w' => e = .returned (.agg #[.int .u64 r.g, .int .i64 r.pl, .int .i64 r.sz]) ∧ Below W.heap.size W w' from fun W => plain_any r W)
  have hb0 : Below w12.heap.size w12 w12.drew := (Below.refl _ _).drew
  obtain ⟨⟨p0, p1, p2⟩, y0, y1, y2⟩ := HC.out w12.drew hb0
  cases is
  all_goals
    go_region_held3 (fun W' => (W'.cell? ⟨w2.heap.size, 0, none⟩ = some (.int .u64 r.g) ∧ W'.cell? ⟨w2.heap.size, 1, none⟩ = some (.int .i64 r.pl) ∧ W'.cell? ⟨w2.heap.size, 2, none⟩ = some (.int .i64 r.sz)) ∧ (W'.cell? ⟨w4.heap.size, 0, none⟩ = some (.int .u64 r.g) ∧ W'.cell? ⟨w4.heap.size, 1, none⟩ = some (.int .i64 r.pl) ∧ W'.cell? ⟨w4.heap.size, 2, none⟩ = some (.int .i64 r.sz)))
      (first | exact HC.out _ hb9 | exact HC.out _ hb7 | exact HC.out _ hb0)
      (first | (go_at_call 11; refine (HPL.out _).mono ?_; rintro e w13 ⟨rfl, hb⟩; have hb7 : Below w12.heap.size w12 w13 := hb0.trans hb; clear hb) | (go_at_call 12; refine (lives04 _ (HT.out.below (HB12.out.trans (hb7.mono HB12.out.size)) (Nat.le_refl _))).mono ?_; rintro e w14 ⟨rfl, hb⟩; have hb9 : Below w12.heap.size w12 w14 := hb7.trans (hb.mono hb7.size); clear hb))
    all_goals
      go_wp2_with fail
      go_ret
      exact ⟨rfl, HB12.out.trans (hb9.mono HB12.out.size)⟩
end Go.Proofs.YtadmpjikkpnjnaaDoor
