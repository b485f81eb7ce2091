/-
  SlotsBack: the walk. No premise.
-/
import Derived.Test.YtadmpjikkpnjnaaDoorSl6
namespace Go.Proofs.YtadmpjikkpnjnaaDoor
open Go.RowKit Go.Shelf Go.Proofs.YtadmpjikkpnjnaaDoorW.PrintWords

theorem wf_uint' {a : Int} (h : (Lit.int .u64 a).wf = true) : 0 ≤ a ∧ a < 18446744073709551616 := wf_u64' h
theorem bit_parts (b : Int) (h : 0 ≤ b) : ∃ k q t : Nat, b % 256 = (k : Int) ∧ k / 8 = q ∧ k % 8 = t ∧ k < 256 ∧ q < 32 ∧ t < 8 ∧ k = 8 * q + t := by
  refine ⟨(b % 256).toNat, (b % 256).toNat / 8, (b % 256).toNat % 8, by omega, rfl, rfl, by omega, by omega, by omega, by omega⟩
set_option maxRecDepth 100000 in
set_option maxHeartbeats 3200000 in
theorem slotsBack_walk (r : Rt) (bit : Int) (w : World) (hT : TabAt w) (hk : RtK r) (hbit : (Lit.int .u64 bit).wf = true) :
    Calls Tryd.prog 5 #[r.v, .int .u64 bit] w fun e w' => e = .returned (.bool true) ∧ Below w.heap.size w w' := by
  have HT := Lib.hid hT
  have HG := Lib.hid hk.g
  have HRV := Lib.hid (show r.v = .agg #[.int .u64 r.g, .int .i64 r.pl, .int .i64 r.sz] from rfl)
  have hrv : r.v = .agg #[.int .u64 r.g, .int .i64 r.pl, .int .i64 r.sz] := rfl
  rw [hrv]
  obtain ⟨hb0, hb1⟩ := wf_uint' hbit
  have HX0 := Lib.hid (heap_alloc_new w (.cells #[.int .u64 r.g, .int .i64 r.pl, .int .i64 r.sz] 24))
  have HB0 := Lib.hid ((Below.refl w.heap.size w).alloc (Nat.le_refl _) (.cells #[.int .u64 r.g, .int .i64 r.pl, .int .i64 r.sz] 24))
  clear hrv hT hk hbit
  go_enter Tryd.func5, Tryd.ntmps5
  go_wp2_with fail
  rw [← HRV.out]
  refine (rtBytes_any r _ HG.out (HT.out.below HB0.out (Nat.le_refl _))).mono ?_
  rintro e w1 ⟨v1, rfl, ho1, hb1'⟩
  obtain ⟨A1, c1, rfl, ho1', hr1, hc1⟩ := own_split ho1
  have HO1 := Lib.hid (own_weaken ho1' HB0.out.size)
  have HR1 := Lib.hid hr1
  obtain ⟨q1, q2⟩ := quiet_chain HB0.out HX0.out hb1'
  have HB1 := Lib.hid q1
  have HX1 := Lib.hid q2
  obtain ⟨⟨x0, x1, x2⟩, _⟩ := rt_cells HX1.out
  clear ho1 ho1' hb1' q1 q2 hr1
  by_cases hok : rtOk r
  · have hE : byE r = 0 := by unfold byE; rw [if_pos hok]
    have hbl := byL_length hok
    obtain ⟨l, hl⟩ : ∃ l, l = byL r := ⟨_, rfl⟩
    rw [← hl] at hbl HO1 HR1 hc1 ⊢
    rw [hE]
    have hsl : l = sealL (rtX r) := by rw [hl]; unfold byL; rw [if_pos hok]
    have hld := ldOk_of hok HG.out []
    rw [List.append_nil, ← hsl] at hld
    have HL1 := Lib.hid (ldE_zero.2 hld.1)
    have HL2 := Lib.hid hld.2
    have HSL := Lib.hid hsl
    have HBL := Lib.hid hbl
    have HBT := Lib.hid (show Bts l by rw [hl]; exact byL_bts r)
    clear hok hE hl hsl hld hbl
    go_wp2_with fail
    refine (load_any A1 c1 l w1 HR1.out HBT.out hc1 (by rw [HBL.out]; decide) (HT.out.below HB1.out (Nat.le_refl _))).mono ?_
    rintro e w2 ⟨rfl, hb2⟩
    rw [HL1.out, HL2.out, HRV.out]
    obtain ⟨q1, q2⟩ := quiet_chain HB1.out HX1.out hb2
    have HB2 := Lib.hid q1
    have HX2 := Lib.hid q2
    have HO2 := Lib.hid (own_step HO1.out hb2)
    clear q1 q2 hb2 x0 x1 x2
    obtain ⟨⟨x0, x1, x2⟩, _⟩ := rt_cells HX2.out
    have hne : ∀ W, (binOp .neq 24 (.agg #[.int .u64 r.g, .int .i64 r.pl, .int .i64 r.sz]) (.agg #[.int .u64 r.g, .int .i64 r.pl, .int .i64 r.sz])).run Tryd.prog W = .ok (.bool false) W := fun W => by
      have := ne_root r r W
      rw [Rt.eqv_self] at this
      exact this
    have z0 : ∀ ob, ((w2.alloc ob).cell? ⟨w.heap.size, 0, none⟩ = some (.int .u64 r.g) ∧ (w2.alloc ob).cell? ⟨w.heap.size, 1, none⟩ = some (.int .i64 r.pl) ∧ (w2.alloc ob).cell? ⟨w.heap.size, 2, none⟩ = some (.int .i64 r.sz)) := fun ob =>
      (rt_cells ((heap_alloc_old w2 ob (Array.getElem?_eq_some_iff.1 HX2.out).1).trans HX2.out)).1
    obtain ⟨k, q, t, e1, e2, e3, e4, e5, e6, e7⟩ := bit_parts bit hb0
    have hq1 : (k : Int) / 8 = (q : Int) := by omega
    have ht1 : (k : Int) % 8 = (t : Int) := by omega
    have HE7 := Lib.hid e7
    obtain ⟨g, rfl⟩ := own_slice_ne HO2.out (by rw [HBL.out]; decide)
    obtain ⟨hx, hfx⟩ := own_cell HO2.out (q : Int) (by omega) (by rw [HBL.out]; omega)
    rw [Int.toNat_natCast] at hx hfx
    have hgl : g < w2.heap.size := own_hi HO2.out rfl
    have hy : ∀ ob, (w2.alloc ob).cell? ⟨g, q, none⟩ = some (.int .u8 (rdI l q)) := fun ob => pw_cell_below ((Below.refl w2.heap.size w2).alloc (Nat.le_refl _) ob) hx
    have hfy : ∀ ob, (w2.alloc ob).frozen? ⟨g, q, none⟩ = false := fun ob => (own_cell (HO2.out.alloc ob) (q : Int) (by omega) (by rw [HBL.out]; omega)).2
    have hbt := HBT.out.at q
    clear e2 e3 e4 e7 hx hfx x0 x1 x2
    obtain ⟨n, hn⟩ : ∃ n, n = l.length := ⟨_, rfl⟩
    have hn32 : (n : Int) = 32 := by rw [hn, HBL.out]; rfl
    rw [← hn] at HO2 hc1 ⊢
    have HN := Lib.hid hn
    obtain ⟨x, hx⟩ : ∃ x, x = rdI l q := ⟨_, rfl⟩
    rw [← hx] at hy hbt
    have HX := Lib.hid hx
    clear hn hx
    go_wp2_with fail
    obtain ⟨z, hz, hz2, hz3⟩ := xor_byte hbt (y := 2 ^ t % 256) (by omega) (by
      have : t = 0 ∨ t = 1 ∨ t = 2 ∨ t = 3 ∨ t = 4 ∨ t = 5 ∨ t = 6 ∨ t = 7 := by omega
      rcases this with rfl | rfl | rfl | rfl | rfl | rfl | rfl | rfl <;> decide)
    rw [hz]
    have ho3 := own_setc HO2.out (q : Int) z
    rw [Int.toNat_natCast] at ho3
    have hl3 : (l.set q z).length = n := by rw [List.length_set]; exact HN.out.symm
    have hnk : ¬ ldOk (l.set q z) := by
      have := ld_turned (r := r) q e5 z hz2 (by rw [← HSL.out, ← HX.out]; exact hz3) []
      rw [← HSL.out, List.append_nil] at this
      exact this
    obtain ⟨f1, f2⟩ := ld_bad (by rw [hl3]; omega) hnk
    have HF1 := Lib.hid f1
    have HF2 := Lib.hid f2
    have hbs : Bts (l.set q z) := bts_set HBT.out q hz2
    have HB3 := Lib.hid ((HB2.out.setCell (p := ⟨g, q, none⟩) (own_lo HO2.out rfl) (.int .u8 z)).alloc (by simpa [World.setCell] using HB2.out.size) (.cells #[.int .u64 r.g, .int .i64 r.pl, .int .i64 r.sz] 24))
    have ho4 := ho3.alloc (.cells #[.int .u64 r.g, .int .i64 r.pl, .int .i64 r.sz] 24)
    obtain ⟨m, hm⟩ : ∃ m, m = l.set q z := ⟨_, rfl⟩
    rw [← hm] at HF1 HF2 hbs hl3 ho4
    have ho5 : Own ((w2.setCell ⟨g, q, none⟩ (.int .u8 z)).alloc (.cells #[.int .u64 r.g, .int .i64 r.pl, .int .i64 r.sz] 24)) w.heap.size (.slice (some ⟨g, 0, none⟩) n c1) m := ho4
    have HR5 := Lib.hid (own_rd ho5)
    generalize (w2.setCell ⟨g, q, none⟩ (.int .u8 z)).alloc (.cells #[.int .u64 r.g, .int .i64 r.pl, .int .i64 r.sz] 24) = w3 at HB3 HR5 ⊢
    have heq : ∀ W, (binOp .eql 24 (.agg #[.int .u64 0, .int .i64 0, .int .i64 0]) (.agg #[.int .u64 0, .int .i64 0, .int .i64 0])).run Tryd.prog W = .ok (.bool true) W := fun W => eq_root Rt.zero Rt.zero W
    rw [← hl3]
    refine (load_any (some ⟨g, 0, none⟩) c1 m w3 HR5.out hbs (by rw [hl3]; exact hc1) (by omega) (HT.out.below HB3.out (Nat.le_refl _))).mono ?_
    rintro e w4 ⟨rfl, hb4⟩
    rw [HF1.out, HF2.out, show Rt.zero.v = .agg #[.int .u64 0, .int .i64 0, .int .i64 0] from rfl]
    have HB4 := Lib.hid (HB3.out.trans (hb4.mono HB3.out.size))
    clear hb4 z0 hy hfy ho3 ho4 ho5 hbs hl3 hm hnk f1 f2 hne
    have HB5 := Lib.hid (HB4.out.alloc HB4.out.size (.cells #[.int .u64 0, .int .i64 0, .int .i64 0] 24))
    go_wp2_with (go_at_call 12; refine (lives04 _ (HT.out.below HB5.out (Nat.le_refl _))).mono ?_; rintro e w5 ⟨rfl, hb5⟩; have HB6 := Lib.hid (HB5.out.trans (hb5.mono HB5.out.size)); clear hb5)
    go_ret
    exact ⟨rfl, HB6.out⟩
  · have hE : byE r = 2 := by unfold byE; rw [if_neg hok]
    have hL : byL r = [] := by unfold byL; rw [if_neg hok]
    rw [hE]
    rw [hL] at hc1 ⊢
    have hlen : (([] : List Int).length : Nat) = 0 := rfl
    unfold rtOk at hok
    clear hE hL
    rcases (by omega : r.pl < 0 ∨ (0 ≤ r.pl ∧ r.sz < 0) ∨ ((0 ≤ r.pl ∧ 0 ≤ r.sz) ∧ 4194304 < r.pl) ∨ ((0 ≤ r.pl ∧ 0 ≤ r.sz) ∧ r.pl ≤ 4194304) ∧ 4194304 < r.sz) with h1 | ⟨h1, h2⟩ | ⟨⟨h1, h2⟩, h3⟩ | ⟨⟨⟨h1, h2⟩, h3⟩, h4⟩
    all_goals
      clear hok
      go_wp2_with (go_at_call 12; refine (lives04 _ (HT.out.below HB1.out (Nat.le_refl _))).mono ?_; rintro e w2 ⟨rfl, hb2⟩; have HB2 := Lib.hid (HB1.out.trans (hb2.mono HB1.out.size)); clear hb2)
      go_ret
      exact ⟨rfl, HB2.out⟩
end Go.Proofs.YtadmpjikkpnjnaaDoor
