/-
  SlotsBytes: the walk. No premise.
-/
import Derived.Test.YtadmpjikkpnjnaaDoorSl6
import Derived.Test.YtadmpjikkpnjnaaDoorAddK
namespace Go.Proofs.YtadmpjikkpnjnaaDoor
open Go.RowKit Go.Shelf Go.Proofs.YtadmpjikkpnjnaaDoorW.PrintWords

set_option maxRecDepth 100000 in
set_option maxHeartbeats 1600000 in
theorem slotsBytes_walk (r : Rt) (w : World) (hT : TabAt w) (hk : RtK r) : Calls Tryd.prog 3 #[r.v] w fun e w' => e = .returned (.bool true) ∧ Below w.heap.size w w' := by
  have HT := Lib.hid hT
  have HG := Lib.hid hk.g
  have HRV := Lib.hid (show r.v = .agg #[.int .u64 r.g, .int .i64 r.pl, .int .i64 r.sz] from rfl)
  have hrv : r.v = .agg #[.int .u64 r.g, .int .i64 r.pl, .int .i64 r.sz] := rfl
  rw [hrv]
  clear hrv hT hk
  have HX0 := Lib.hid (heap_alloc_new w (.cells #[.int .u64 r.g, .int .i64 r.pl, .int .i64 r.sz] 24))
  have HB0 := Lib.hid ((Below.refl w.heap.size w).alloc (Nat.le_refl _) (.cells #[.int .u64 r.g, .int .i64 r.pl, .int .i64 r.sz] 24))
  have hbl := byL_le r
  go_enter Tryd.func3, Tryd.ntmps3
  go_wp2_with fail
  rw [← HRV.out]
  refine (rtBytes_any r _ HG.out (HT.out.below HB0.out (Nat.le_refl _))).mono ?_
  rintro e w1 ⟨v1, rfl, ho1, hb1⟩
  obtain ⟨A1, c1, rfl, ho1', _, _⟩ := own_split ho1
  have HO1 := Lib.hid ho1'
  obtain ⟨q1, q2⟩ := quiet_chain HB0.out HX0.out hb1
  have HB1 := Lib.hid q1
  have HX1 := Lib.hid q2
  obtain ⟨⟨x0, x1, x2⟩, _⟩ := rt_cells HX1.out
  clear ho1 ho1' hb1 q1 q2
  go_wp2_with fail
  rw [← HRV.out]
  refine (rtBytes_any r _ HG.out (HT.out.below HB1.out (Nat.le_refl _))).mono ?_
  rintro e w2 ⟨v2, rfl, ho2, hb2⟩
  obtain ⟨A2, c2, rfl, ho2', _, _⟩ := own_split ho2
  have HO2 := Lib.hid ho2'
  have HO12 := Lib.hid (own_step HO1.out hb2)
  have HS12 := Lib.hid hb2.size
  obtain ⟨q1, q2⟩ := quiet_chain HB1.out HX1.out hb2
  have HB2 := Lib.hid q1
  have HX2 := Lib.hid q2
  clear x0 x1 x2
  obtain ⟨⟨x0, x1, x2⟩, _⟩ := rt_cells HX2.out
  clear ho2 ho2' hb2 q1 q2
  go_wp2_with fail
  rw [← HRV.out]
  refine (plain_any r w2).mono ?_
  rintro e w3 ⟨rfl, hb3⟩
  have HO23 := Lib.hid (own_step HO2.out hb3)
  have HO13 := Lib.hid (own_step HO12.out hb3)
  have HB3 := Lib.hid (HB2.out.trans (hb3.mono HB2.out.size))
  have HS23 := Lib.hid hb3.size
  clear x0 x1 x2 hb3
  go_wp2_with fail
  refine (refBytes_any r w3 HG.out).mono ?_
  rintro e w4 ⟨v4, rfl, ho4, hb4⟩
  have HO4 := Lib.hid ho4
  have HO24 := Lib.hid (own_step HO23.out hb4)
  have HO14 := Lib.hid (own_step HO13.out hb4)
  have HB4 := Lib.hid (HB3.out.trans (hb4.mono HB3.out.size))
  clear ho4 hb4
  have s1 := own_str HO14.out
  have s4 := own_str HO4.out
  have hz : (strOfNums (byL r)).size ≤ 9223372036854775807 := by rw [strOfNums_size]; omega
  go_wp2_with fail
  clear s1 s4
  have hb1 : ∀ k, (Value.slice A1 (byL r).length c1).ownBlock = some k → w.heap.size ≤ k ∧ k < w1.heap.size := fun k h => ⟨Nat.le_trans (by simp) (own_lo HO1.out h), own_hi HO1.out h⟩
  have HV1 := Lib.hid hb1
  have hs13 : w1.heap.size ≤ w3.heap.size := by
    have h1 := HS23.out
    have h2 := HS12.out
    omega
  have HBT := Lib.hid (byL_bts r)
  clear hb1
  go_loopw [9] (fun i wr => ∃ k : Nat, k ≤ (byL r).length ∧ i = .int .i64 k ∧ Hid (Own wr w.heap.size (.slice A1 (byL r).length c1) (addk (byL r) k)) ∧ Hid (w4.grownBy wr (Value.slice A1 (byL r).length c1).ownBlock)) (fun i _ => (byL r).length - (intOf i).toNat)
  case atStart => exact ⟨0, by omega, rfl, by rw [addk_zero]; exact own_weaken HO14.out (by simp), World.grownBy.refl _ _⟩
  case round =>
    obtain ⟨k, hk, rfl, HO, HGR⟩ := hrel
    by_cases hlt : k < (byL r).length
    · have hne : 0 < (byL r).length := by omega
      have ho := HO.out
      have hl1 := addk_length (byL r) k
      rw [← hl1] at ho
      obtain ⟨g, rfl⟩ := own_slice_ne ho (by rw [hl1]; exact hne)
      rw [hl1] at ho
      obtain ⟨hx, hfx⟩ := own_cell ho (k : Int) (by omega) (by rw [hl1]; omega)
      rw [Int.toNat_natCast] at hx hfx
      rw [rdI_addk _ k k hlt, if_neg (by omega)] at hx
      have hbt := HBT.out.at k
      have HS := Lib.hid (addk_succ (byL r) k hlt)
      generalize rdI (byL r) k = x at hx hbt HS
      clear ho hl1
      go_wp2_with fail
      go_roundw
      case rel =>
        refine ⟨k + 1, by omega, by go_num, ?_, HGR.out.trans (set_grown _ _ _ _)⟩
        have h1 := own_setc HO.out (k : Int) ((x + 1) % 256)
        rw [Int.toNat_natCast, HS.out] at h1
        exact h1
      case measure => simp [intOf]; omega
    · have ho2 := own_far HO24.out HGR.out (fun q hq h2 => by have := (HV1.out q hq).2; have := own_lo HO2.out h2; omega)
      have ho4 := own_far HO4.out HGR.out (fun q hq h2 => by have := (HV1.out q hq).2; have := own_lo HO4.out h2; omega)
      have s2 := own_str ho2
      have s4 := own_str ho4
      have HBr := Lib.hid (HB4.out.grown HGR.out HB4.out.size (fun q hq => (HV1.out q hq).1))
      clear ho2 ho4
      go_wp2_with (go_at_call 12; refine (lives04 wr (HT.out.below HBr.out (Nat.le_refl _))).mono ?_; rintro e w6 ⟨rfl, hb6⟩; have HB6 := Lib.hid (HBr.out.trans (hb6.mono HBr.out.size)); clear hb6)
      go_ret
      exact ⟨rfl, HB6.out⟩
end Go.Proofs.YtadmpjikkpnjnaaDoor
