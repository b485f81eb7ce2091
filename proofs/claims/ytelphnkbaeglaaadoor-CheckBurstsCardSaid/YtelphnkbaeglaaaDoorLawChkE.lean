/-
  CheckBursts: the walk. No premise.
-/
import Derived.Test.YtelphnkbaeglaaaDoorLawChkA
import Derived.Test.YtelphnkbaeglaaaDoorChkB
namespace Go.Proofs.YtelphnkbaeglaaaDoor
open Go.RowKit Go.Proofs.YtelphnkbaeglaaaDoorW.PrintWords

set_option maxHeartbeats 1600000 in
theorem checkBursts_walk (A : Option Addr) (c : Nat) (l : List Int) (place burst : Int) (w : World) (hT : TabAt w) (hr : ReadsInt w .u8 A l.length l) (hw : ∀ x ∈ l, (Lit.int .u8 x).wf = true) (hc : l.length ≤ c) (hy : l.length * 1 ≤ 140737488351232)
    (hwp : (Lit.int .i64 place).wf = true) (hwb : (Lit.int .u32 burst).wf = true) :
    Calls Tryd.prog 9 #[.slice A l.length c, .int .i64 place, .int .u32 burst] w fun e w' => e = .returned (.bool true) ∧ Below w.heap.size w w' := by
  have hl : l.length + 100 ≤ 140737488351332 := by omega
  have HR := Lib.hid (show Rd w A l from hr)
  have HBt := Lib.hid (wf_bts' hw)
  have HT := Lib.hid hT
  obtain ⟨hb1, hb2⟩ := wf_u32 hwb
  obtain ⟨b, rfl⟩ := Int.eq_ofNat_of_zero_le hb1
  have hb3 : b < 4294967296 := by omega
  clear hr hw hy hT hwp hwb hb1 hb2
  obtain ⟨s, hs⟩ : ∃ s, s = sealL l := ⟨_, rfl⟩
  obtain ⟨n4, hn4⟩ : ∃ n4, n4 = s.length := ⟨_, rfl⟩
  have hn5 : n4 = l.length + 4 := by rw [hn4, hs, sealL_length]
  have hchk : ((n4 : Int) != (l.length : Int) + 4) = false := by rw [bne_eq_false_iff_eq]; omega
  obtain ⟨k, hk, hkk⟩ := place_k place (8 * n4) (by omega) (by omega)
  rw [show ((8 * n4 : Nat) : Int) = 8 * (n4 : Int) from by push_cast; rfl] at hkk
  have hn6 : n4 ≤ 140737488351336 := by omega
  have hn7 : 4 ≤ n4 := by omega
  have hsb : Bts s := by rw [hs]; exact sealL_bts HBt.out
  have hgood := us_good l
  have hse : sealL (s.take (s.length - 4)) = s := by
    rw [hs, sealL_length, Nat.add_sub_cancel]
    have : (sealL l).take l.length = l := by unfold sealL; exact List.take_left
    rw [this]
  rw [← hs] at hgood
  have HS := Lib.hid hs
  have HN4 := Lib.hid hn4
  have HN5 := Lib.hid hn5
  have HSB := Lib.hid hsb
  have HSE := Lib.hid hse
  have HG := Lib.hid hgood
  clear hs hn4 hn5 hsb hse hgood
  go_enter Tryd.func9, Tryd.ntmps9
  go_wp2_with fail
  refine (seal_any A c l w HR.out HBt.out HT.out (by omega)).mono ?_
  rintro e w3 ⟨vs, rfl, h5, h6⟩
  rw [← HS.out] at h5
  rcases own_cases h5 with ⟨_, h⟩ | ⟨g, cap, rfl⟩
  · have := congrArg List.length h
    rw [← HN4.out] at this
    simp at this
    omega
  rw [← HN4.out] at h5 ⊢
  have hg5 := own_lo h5 (k := g) rfl
  have hcap := (own_open h5).2.2.1
  have H5 := Lib.hid h5
  have H6 := Lib.hid h6
  clear h5 h6
  go_wp2_with fail
  go_loopw [10, 11] (fun t i wr => ∃ (j : Nat) (S : List Int), j ≤ 32 ∧ k + j ≤ 8 * n4 ∧ i = .int .i64 j ∧ t = .bool (b % 2 ^ j != 0) ∧ Hid (Own wr w.heap.size (.slice (some ⟨g, 0, none⟩) n4 cap) S) ∧ Hid (S.length = n4) ∧ Hid (Bts S)
    ∧ Hid (reg (n32 (0 : Int).toNat) S = reg (n32 (0 : Int).toNat) s ^^^ itN (8 * n4 - k) (b % 2 ^ j)) ∧ Hid (b % 2 ^ j = 0 → S = s) ∧ Hid (w3.grownBy wr (some g))) (fun _ i _ => 32 - (intOf i).toNat)
  case atStart =>
    refine ⟨0, s, by omega, by omega, rfl, ?_, H5.out, HN4.out.symm, HSB.out, ?_, fun _ => rfl, World.grownBy.refl _ _⟩
    · rw [Nat.pow_zero, Nat.mod_one]; rfl
    · show _ = _
      rw [Nat.pow_zero, Nat.mod_one, itN_nought, Nat.xor_zero]
  case round =>
    obtain ⟨j, S, hj, hkj, rfl, rfl, HO, HSL, HSb, HRG, HEQ, HGR⟩ := hrel
    by_cases hlt : j < 32 ∧ k + j < 8 * n4
    · have hl1 : (j : Int) < 32 := by omega
      have hl2 : (k : Int) + (j : Int) < 8 * (n4 : Int) := by omega
      have hand := u32_and_one (b / 2 ^ j) (Nat.lt_of_le_of_lt (Nat.div_le_self _ _) hb3)
      rw [show ((b / 2 ^ j : Nat) : Int) = (b : Int) / 2 ^ j from by rw [Int.natCast_ediv, Int.natCast_pow]; rfl] at hand
      have hb2 : b / 2 ^ j % 2 < 2 := Nat.mod_lt _ (by decide)
      by_cases hbit : b / 2 ^ j % 2 = 1
      · rw [hbit] at hand
        have hand : bits .and .u32 ((b : Int) / 2 ^ j) 1 = 1 := hand
        have HBI := Lib.hid hbit
        obtain ⟨q, hq⟩ : ∃ q, q = (k + j) / 8 := ⟨_, rfl⟩
        obtain ⟨t, ht⟩ : ∃ t, t = (k + j) % 8 := ⟨_, rfl⟩
        have hd1 : ((k : Int) + (j : Int)).tdiv 8 = (q : Int) := by rw [Int.tdiv_eq_ediv_of_nonneg (by omega)]; omega
        have hd2 : ((k : Int) + (j : Int)) / 8 = (q : Int) := by omega
        have hd3 : ((k : Int) + (j : Int)).tmod 8 = (t : Int) := by rw [Int.tmod_eq_emod_of_nonneg (by omega)]; omega
        have hd4 : ((k : Int) + (j : Int)) % 8 = (t : Int) := by omega
        have hqn : q < n4 := by omega
        have ht8 : t < 8 := by omega
        have hqn1 : (0 : Int) ≤ (q : Int) := by omega
        have hqn2 : (q : Int) < (n4 : Int) := by omega
        obtain ⟨hx1, hfx1⟩ := own_cell HO.out (q : Int) (by omega) (by rw [HSL.out]; omega)
        rw [Int.toNat_natCast] at hx1 hfx1
        have hxr := HSb.out.at q
        generalize hxe : rdI S q = x at hx1 hxr
        have HXE := Lib.hid hxe
        have HQ := Lib.hid hq
        have HTT := Lib.hid ht
        clear hxe hq ht hbit hb2
        obtain ⟨y, hxy, hyr, hyt⟩ := flip_byte hxr ht8
        have hne1 : (b % 2 ^ (j + 1) != 0) = true := by rw [bne_iff_ne]; exact bit_ne b j HBI.out
        have HNE1 := Lib.hid hne1
        have HYT := Lib.hid hyt
        clear hne1 hyt
        go_wp2_with fail
        go_roundw
        case rel =>
          refine ⟨j + 1, S.set q y, by omega, by omega, by push_cast; rfl, by rw [HNE1.out], ?_, ?_, bts_set HSb.out q hyr, ?_, ?_, HGR.out.trans (set_grown wr g q _)⟩
          · have h1 := own_setc HO.out (q : Int) y
            rw [Int.toNat_natCast] at h1
            exact h1
          · show _ = _
            rw [List.length_set]
            exact HSL.out
          · have h1 := burst_step (s := s) (S := S) (N := 8 * n4) (k := k) (i := j) (b := b) (by rw [HSL.out, HN4.out]) (by rw [HN4.out]) hlt.2 HRG.out HBI.out y (by rw [← HQ.out, ← HTT.out, HXE.out]; exact HYT.out)
            rw [← HQ.out] at h1
            exact h1
          · intro h0
            exact absurd h0 (bit_ne b j HBI.out)
        case measure => simp [intOf]; omega
      · have hbit0 : b / 2 ^ j % 2 = 0 := by omega
        rw [hbit0] at hand
        have hand : bits .and .u32 ((b : Int) / 2 ^ j) 1 = 0 := hand
        have hst := bit_step b j
        rw [if_neg hbit] at hst
        have HST := Lib.hid hst
        clear hst hbit hbit0 hb2
        go_wp2_with fail
        go_roundw
        case rel =>
          refine ⟨j + 1, S, by omega, by omega, by push_cast; rfl, by rw [HST.out], HO.out, HSL.out, HSb.out, ?_, ?_, HGR.out⟩
          · show _ = _
            rw [HST.out]
            exact HRG.out
          · show _ → _
            rw [HST.out]
            exact HEQ.out
        case measure => simp [intOf]; omega
    · have hend : ((j : Int) < 32 ∧ ¬ (k : Int) + (j : Int) < 8 * (n4 : Int)) ∨ ¬ (j : Int) < 32 := by omega
      clear hlt
      have HU := Lib.hid (unseal_any (some ⟨g, 0, none⟩) cap S wr (own_rd HO.out) HSb.out (HT.out.below (H6.out.grown HGR.out H6.out.size (fun k' e => by injection e with e; omega)) (Nat.le_refl _)) (by rw [HSL.out]; exact hcap) (by rw [HSL.out]; omega))
      rw [HSL.out] at HU
      have HBW := Lib.hid (H6.out.grown HGR.out H6.out.size (fun k' e => by injection e with e; omega))
      by_cases hturn : b % 2 ^ j = 0
      · have htb : (b % 2 ^ j != 0) = false := by rw [bne_eq_false_iff_eq]; exact hturn
        have hSs := HEQ.out hturn
        rw [hSs, HG.out.1, HG.out.2] at HU
        clear hSs
        rcases hend with ⟨hj1, hj2⟩ | hj1
        all_goals
          go_wp2_with fail
          refine HU.out.mono ?_
          rintro e w5 ⟨vu, rfl, h10, h11⟩
          have hcz := own_str h10
          have H11 := Lib.hid (HBW.out.trans (h11.mono HBW.out.size))
          have hca : (convert 22 9 (.slice A l.length c)).run Tryd.prog w5 = .ok (.string (strOfNums l)) w5 := string_of_reads Tryd.underlying22 Tryd.underlying5 Tryd.underlying9 (show ReadsInt w5 .u8 A l.length l from HR.out.below H11.out)
          have hz : (strOfNums l).size ≤ 9223372036854775807 := by rw [strOfNums_size]; omega
          clear h10 h11
          go_wp2_with (go_at_call 14; refine (lives02 _ (HT.out.below H11.out (Nat.le_refl _))).mono ?_; rintro e w8 ⟨rfl, hb8⟩)
          go_ret
          exact ⟨rfl, H11.out.trans (hb8.mono H11.out.size)⟩
      · have htb : (b % 2 ^ j != 0) = true := by rw [bne_iff_ne]; exact hturn
        have hbe := burst_end HSB.out HSb.out (by rw [← HN4.out]; exact hn7) (by rw [HSL.out, HN4.out]) hj HSE.out HRG.out hturn
        rw [hbe.1, hbe.2] at HU
        clear hbe
        rcases hend with ⟨hj1, hj2⟩ | hj1
        all_goals
          go_wp2_with fail
          refine HU.out.mono ?_
          rintro e w5 ⟨vu, rfl, h10, h11⟩
          have H11 := Lib.hid (HBW.out.trans (h11.mono HBW.out.size))
          clear h11
          rcases own_cases h10 with ⟨rfl, _⟩ | ⟨g3, cap3, rfl⟩
          all_goals
            clear h10
            go_wp2_with (go_at_call 14; refine (lives02 _ (HT.out.below H11.out (Nat.le_refl _))).mono ?_; rintro e w8 ⟨rfl, hb8⟩)
            go_ret
            exact ⟨rfl, H11.out.trans (hb8.mono H11.out.size)⟩
end Go.Proofs.YtelphnkbaeglaaaDoor
