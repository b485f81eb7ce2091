/-
  slabvaultref15.Unpack. No premise.
-/
import Derived.Test.YtdfpikimeihefaaUn1
namespace Go.Proofs.Ytdfpikimeihefaa
open Go.RowKit Go.Proofs.YtdfpikimeihefaaW.PrintWords

set_option maxRecDepth 100000 in
set_option maxHeartbeats 3200000 in
theorem refUnpack_any (A : Option Addr) (c : Nat) (l : List Int) (most : Int) (w : World) (hr : Rd w A l) (hb : Bts l) (hc : l.length ≤ c) (hl : l.length ≤ 149000000000000) :
    Calls Try.prog 29 #[.slice A l.length c, .int .i64 most] w (UpPost w l most) := by
  have HR := Lib.hid hr
  have HBt := Lib.hid hb
  clear hr hb
  by_cases hm1 : most < 0
  · have HU := Lib.hid (upk_arg (l := l) (.inl hm1))
    go_enter Try.func29, Try.ntmps29
    go_wp2_with fail
    go_ret2
    exact up_nil HU.out (Below.refl _ _) rfl rfl
  by_cases hm2 : 65536 < most
  · have HU := Lib.hid (upk_arg (l := l) (.inr hm2))
    go_enter Try.func29, Try.ntmps29
    go_wp2_with fail
    go_ret2
    exact up_nil HU.out (Below.refl _ _) rfl rfl
  have hm : ¬ (most < 0 ∨ 65536 < most) := by omega
  by_cases hl0 : l = []
  · subst hl0
    have HU := Lib.hid (upk_cor hm (.inl rfl))
    clear hm
    go_enter Try.func29, Try.ntmps29
    go_wp2_with fail
    go_ret2
    exact up_nil HU.out (Below.refl _ _) rfl rfl
  have hlp : 0 < l.length := List.length_pos_iff.2 hl0
  have hlz : ((l.length : Int) == 0) = false := beq_eq_false_iff_ne.2 (by omega)
  obtain ⟨ad, rfl, _⟩ := HR.out.2.2 hlp
  have hc0 := rd_cell HR.out 0 hlp
  have hc0' := hc0
  rw [show ad.add 0 = ad from rfl] at hc0'
  obtain ⟨b0, hb0⟩ := Int.eq_ofNat_of_zero_le (HBt.out.at 0).1
  have hb1 : b0 ≤ 255 := by have := (HBt.out.at 0).2; omega
  rw [hb0] at hc0 hc0'
  have HB0 := Lib.hid hb0
  clear hb0
  by_cases hg1 : 1 < b0
  · have HU := Lib.hid (upk_cor hm (.inr (by rw [HB0.out]; omega)))
    clear hm hl0
    go_enter Try.func29, Try.ntmps29
    go_wp2_with fail
    go_ret2
    exact up_nil HU.out (Below.refl _ _) rfl rfl
  have hn5 : ¬ (l = [] ∨ 1 < rdI l 0) := by rw [HB0.out]; intro h; rcases h with h | h; exact hl0 h; omega
  by_cases hz : b0 = 0
  · have hz0 : rdI l 0 = 0 := by rw [HB0.out, hz]; rfl
    by_cases hlb : most < (l.length : Int) - 1
    · have HU := Lib.hid (upk_big hm hn5 hz0 hlb)
      subst hz
      clear hm hl0 hz0 hn5
      go_enter Try.func29, Try.ntmps29
      go_wp2_with fail
      go_ret2
      exact up_nil HU.out (Below.refl _ _) rfl rfl
    · have HU := Lib.hid (upk_plain hm hn5 hz0 hlb)
      obtain ⟨A', hcut, hcr, hlc⟩ := cut_suf (some ad) l c 1 (by omega) (by omega) hc
      rw [show (1 : Int).toNat = 1 from rfl] at hcut hcr hlc
      obtain ⟨r, hr⟩ : ∃ r, r = l.drop 1 := ⟨_, rfl⟩
      rw [← hr] at hcut hcr hlc HU
      have hrl : r.length ≤ l.length := by rw [hr, List.length_drop]; omega
      have HR1 := Lib.hid (hcr _ HR.out)
      have HO0 := Lib.hid (own_empty w w.heap.size (Nat.le_refl _))
      have HBa := Lib.hid ((Below.refl w.heap.size w).alloc (Nat.le_refl _) (.cells #[] 5))
      subst hz
      clear hm hl0 hz0 hn5 hr
      go_enter Try.func29, Try.ntmps29
      go_wp2_with ((with_reducible refine gate_builtin (b := .append) (xs := #[.tmp 34, .tmp 36]) rfl ?_); refine app w.heap.size rfl _ _ rfl (.slice (some ⟨w.heap.size, 0, none⟩) 0 0) [] r A' (c - 1) rfl rfl HO0.out (HR1.out.below HBa.out) HBa.out.size (by simp; omega) ?_; intro v2 w2 h2 g2; have H2 := Lib.hid h2; have HB2 := Lib.hid (HBa.out.grown g2 HBa.out.size (fun k e => own_base HO0.out k e)); clear h2 g2)
      go_ret2
      exact ⟨_, by rw [HU.out]; rfl, by rw [HU.out]; exact H2.out, HB2.out⟩
  have hone : b0 = 1 := by omega
  have HU := Lib.hid (upk_walk hm hn5 (by rw [HB0.out]; omega))
  subst hone
  clear hm hl0 hn5 hz hg1
  go_enter Try.func29, Try.ntmps29
  go_wp2_with fail
  clear hc0 hc0'
  go_loopw [6, 7] (fun v t wr => ∃ (o : List Int) (at_ : Nat), t = .int .i64 at_ ∧ at_ ≤ l.length ∧ (o.length : Int) ≤ most ∧ Hid (Own wr w.heap.size v o) ∧ Hid (Below w.heap.size w wr) ∧ Hid (unW most [] (l.drop 1) = unW most o (l.drop at_))) (fun _ t _ => l.length - (intOf t).toNat)
  case atStart => exact ⟨[], 1, rfl, by omega, by simp; omega, World.ownsRow_nil _ _ _ _, Below.refl _ _, rfl⟩
  case round =>
    obtain ⟨o, at_, rfl, hat, hom, HO, HB, HE⟩ := hrel
    have hws := HB.out.size
    by_cases hr0 : at_ < l.length
    · obtain ⟨r, hr⟩ : ∃ r, r = l.drop at_ := ⟨_, rfl⟩
      have hrl : at_ + r.length = l.length := by rw [hr, List.length_drop]; omega
      have hrne : r ≠ [] := by intro e; rw [e] at hrl; simp at hrl; omega
      have hri : ∀ j, rdI r j = rdI l (at_ + j) := fun j => by rw [hr, rdI_drop]
      rw [← hr] at HE
      have HRD := Lib.hid hr
      clear hr
      have hk0 := rd_cell (HR.out.below HB.out) at_ hr0
      obtain ⟨kn, hkn⟩ := Int.eq_ofNat_of_zero_le (HBt.out.at at_).1
      have hkn1 : kn ≤ 255 := by have := (HBt.out.at at_).2; omega
      rw [hkn] at hk0
      have HKN := Lib.hid (show rdI r 0 = (kn : Int) by rw [hri 0]; exact hkn)
      clear hkn
      by_cases hk1 : kn < 128
      · by_cases hs : r.length < kn + 2
        · have hbt : badTok o r = true := by unfold badTok; rw [HKN.out]; exact decide_eq_true (.inl ⟨by omega, by omega⟩)
          have HU2 := Lib.hid (HU.out.trans (HE.out.trans (unW_bad hrne hbt)))
          clear hbt hrne hri
          go_wp2_with fail
          go_ret2
          exact up_nil HU2.out HB.out rfl rfl
        · have hbt : badTok o r = false := by unfold badTok; rw [HKN.out]; exact decide_eq_false (fun h => by rcases h with h | h <;> omega)
          obtain ⟨A2, l2, hl2, hl2n, hcut, hcr, hlc2⟩ := cut_int (some ad) l c ((at_ : Int) + 1) ((at_ : Int) + 2 + (kn : Int)) (by omega) (by omega) (by omega) hc
          rw [show ((at_ : Int) + 1).toNat = at_ + 1 from by omega] at hcut hlc2
          have hno : nextOut o r = o ++ l2 := by
            unfold nextOut stepRun
            rw [HKN.out, if_pos (by omega), hl2.out, Int.toNat_natCast, show ((at_ : Int) + 2 + (kn : Int) - ((at_ : Int) + 1)).toNat = kn + 1 from by omega, show ((at_ : Int) + 1).toNat = at_ + 1 from by omega, HRD.out, List.drop_drop]
          have hnr : nextRest r = l.drop (at_ + 2 + kn) := by
            unfold nextRest
            rw [HKN.out, if_pos (by omega), Int.toNat_natCast, HRD.out, List.drop_drop]
            congr 1
            omega
          obtain ⟨oo, hoo⟩ : ∃ oo, oo = o ++ l2 := ⟨_, rfl⟩
          rw [← hoo] at hno
          have hool : oo.length ≤ o.length + 255 := by rw [hoo, List.length_append]; have := hl2n.out; omega
          have HOV := Lib.hid (fun h : most < (oo.length : Int) => HU.out.trans (HE.out.trans (unW_over hrne hbt (by rw [hno]; exact h))))
          have HON := Lib.hid (fun h : ¬ most < (oo.length : Int) => HE.out.trans (unW_on hrne hbt (by rw [hno]; exact h)))
          rw [hno, hnr] at HON
          have HOO := Lib.hid hoo
          have HR2 := Lib.hid (hcr _ HR.out)
          have hl2b : l2.length ≤ 255 := by have := hl2n.out; omega
          clear hbt hrne hri hno hnr hoo hcr
          by_cases hov : most < (oo.length : Int)
          · have HU2 := Lib.hid (HOV.out hov)
            go_wp2_with ((with_reducible refine gate_builtin (b := .append) (xs := #[.tmp 56, .tmp 64]) rfl ?_); refine app w.heap.size rfl _ _ rfl u6 o l2 A2 (c - (at_ + 1)) rfl rfl HO.out (HR2.out.below HB.out) hws (by omega) ?_)
            intro v4 w4 h4 g4
            rw [← HOO.out] at h4
            have HB4 := Lib.hid (HB.out.grown g4 hws (fun k e => own_base HO.out k e))
            obtain ⟨A4, c4, rfl, _⟩ := own_reads h4
            clear h4 g4
            go_wp2_with fail
            go_ret2
            exact up_nil HU2.out HB4.out rfl rfl
          · have HE2 := Lib.hid (HON.out hov)
            go_wp2_with ((with_reducible refine gate_builtin (b := .append) (xs := #[.tmp 56, .tmp 64]) rfl ?_); refine app w.heap.size rfl _ _ rfl u6 o l2 A2 (c - (at_ + 1)) rfl rfl HO.out (HR2.out.below HB.out) hws (by omega) ?_)
            intro v4 w4 h4 g4
            rw [← HOO.out] at h4
            have HB4 := Lib.hid (HB.out.grown g4 hws (fun k e => own_base HO.out k e))
            have H4 := Lib.hid h4
            obtain ⟨A4, c4, rfl, _⟩ := own_reads h4
            clear h4 g4
            go_wp2_with fail
            go_roundw
            case rel => exact ⟨oo, at_ + 2 + kn, by push_cast; rfl, by omega, by omega, H4.out, HB4.out, HE2.out⟩
            case measure => simp [intOf]; omega
      · by_cases hs : r.length < 2
        · have hbt : badTok o r = true := by unfold badTok; rw [HKN.out]; exact decide_eq_true (.inr ⟨by omega, .inl (by omega)⟩)
          have HU2 := Lib.hid (HU.out.trans (HE.out.trans (unW_bad hrne hbt)))
          clear hbt hrne hri
          go_wp2_with fail
          go_ret2
          exact up_nil HU2.out HB.out rfl rfl
        have hk2 := rd_cell (HR.out.below HB.out) (at_ + 1) (by omega)
        obtain ⟨d, hd⟩ := Int.eq_ofNat_of_zero_le (HBt.out.at (at_ + 1)).1
        have hd1 : d ≤ 255 := by have := (HBt.out.at (at_ + 1)).2; omega
        rw [hd] at hk2
        have hk2' := hk2
        rw [show ad.add (at_ + 1) = ⟨ad.block, ad.off + (at_ + 1), none⟩ from by unfold Addr.add; rw [if_neg (by omega)]] at hk2'
        have HDL := Lib.hid hd
        have HD := Lib.hid (show rdI r 1 = (d : Int) by rw [hri 1]; exact hd)
        clear hd
        by_cases hd0 : d = 0
        · have hbt : badTok o r = true := by unfold badTok; rw [HKN.out, HD.out]; exact decide_eq_true (.inr ⟨by omega, .inr (.inl (by omega))⟩)
          have HU2 := Lib.hid (HU.out.trans (HE.out.trans (unW_bad hrne hbt)))
          subst hd0
          clear hbt hrne hri
          go_wp2_with fail
          go_ret2
          exact up_nil HU2.out HB.out rfl rfl
        have hdz : ((d : Int) == 0) = false := beq_eq_false_iff_ne.2 (by omega)
        by_cases hdo : o.length < d
        · have hbt : badTok o r = true := by unfold badTok; rw [HKN.out, HD.out]; exact decide_eq_true (.inr ⟨by omega, .inr (.inr (by omega))⟩)
          have HU2 := Lib.hid (HU.out.trans (HE.out.trans (unW_bad hrne hbt)))
          obtain ⟨A6, c6, rfl, _⟩ := own_reads HO.out
          clear hbt hrne hri
          go_wp2_with fail
          go_ret2
          exact up_nil HU2.out HB.out rfl rfl
        have hbt : badTok o r = false := by
          unfold badTok
          rw [HKN.out, HD.out]
          refine decide_eq_false (fun h => ?_)
          rcases h with h | ⟨_, h | h | h⟩
          · omega
          · omega
          · omega
          · omega
        obtain ⟨m, hm⟩ : ∃ m, m = kn - 124 := ⟨_, rfl⟩
        have hmi : (kn : Int) - 128 + 4 = (m : Int) := by omega
        have hm0 : 4 ≤ m := by omega
        have hm1' : m ≤ 131 := by omega
        have hno : nextOut o r = repK d m o := by
          unfold nextOut stepCopy
          rw [HKN.out, HD.out, if_neg (by omega), Int.toNat_natCast, Int.toNat_natCast, hm]
        have hnr : nextRest r = l.drop (at_ + 2) := by
          unfold nextRest
          rw [HKN.out, if_neg (by omega), HRD.out, List.drop_drop]
        have hrep : (repK d m o).length = o.length + m := repK_length d m o
        have HOV := Lib.hid (fun h : most < ((o.length + m : Nat) : Int) => HU.out.trans (HE.out.trans (unW_over hrne hbt (by rw [hno, hrep]; exact h))))
        have HON := Lib.hid (fun h : ¬ most < ((o.length + m : Nat) : Int) => HE.out.trans (unW_on hrne hbt (by rw [hno, hrep]; exact h)))
        rw [hno, hnr] at HON
        have HREP := Lib.hid hrep
        clear hbt hrne hri hno hnr hrep hm
        obtain ⟨wo, rfl⟩ : ∃ wo : World, wo = wr := ⟨_, rfl⟩
        obtain ⟨A6, c6, rfl, _⟩ := own_reads HO.out
        go_wp2_with fail
        go_loopw [6, 9] (fun v t wq => ∃ j : Nat, j ≤ m ∧ t = .int .i64 j ∧ Hid (Own wq w.heap.size v (repK d j o)) ∧ Hid (Below w.heap.size w wq)) (fun _ t _ => m - (intOf t).toNat)
        case atStart => exact ⟨0, by omega, rfl, HO.out, HB.out⟩
        case round =>
          obtain ⟨j, hj, rfl, HOj, HBj⟩ := hrel
          have hrj := repK_length d j o
          have hwj := HBj.out.size
          by_cases hjm : j < m
          · have HSU := Lib.hid (show repK d (j + 1) o = repK d j o ++ [rdI (repK d j o) ((repK d j o).length - d)] from rfl)
            obtain ⟨cur, hcur⟩ : ∃ cur, cur = repK d j o := ⟨_, rfl⟩
            rw [← hcur] at HSU HOj hrj
            have hcl : cur.length ≤ 70000 := by omega
            have hcd : d ≤ cur.length := by omega
            rcases own_cases HOj.out with ⟨_, h⟩ | ⟨g, cap, rfl⟩
            · rw [h] at hcd; simp at hcd; omega
            obtain ⟨hx, _⟩ := own_cell HOj.out ((cur.length - d : Nat) : Int) (by omega) (by omega)
            rw [Int.toNat_natCast] at hx
            generalize rdI cur (cur.length - d) = x at hx HSU
            have hix : ((cur.length : Int) - (d : Int)).toNat = cur.length - d := by omega
            have hk9 := rd_cell (HR.out.below HBj.out) (at_ + 1) (by omega)
            rw [HDL.out] at hk9
            have hk9' := hk9
            rw [show ad.add (at_ + 1) = ⟨ad.block, ad.off + (at_ + 1), none⟩ from by unfold Addr.add; rw [if_neg (by omega)]] at hk9'
            clear hrj hcur
            go_wp2_with ((with_reducible refine gate_builtin (b := .append) (xs := #[.tmp 101, .tmp 114]) rfl ?_); refine app1 w.heap.size rfl _ _ rfl (.slice (some ⟨g, 0, none⟩) cur.length cap) cur x rfl rfl HOj.out hwj (by omega) ?_; intro v5 w5 h5 g5; have H5 := Lib.hid h5; have HB5 := Lib.hid (HBj.out.grown g5 hwj (fun k e => own_base HOj.out k e)); clear h5 g5)
            go_roundw
            case rel => exact ⟨j + 1, by omega, by push_cast; rfl, by rw [HSU.out]; exact H5.out, HB5.out⟩
            case measure => simp [intOf]; omega
          · have hje : j = m := by omega
            subst hje
            have hop := HOj.out
            obtain ⟨A7, c7, rfl, _⟩ := own_reads hop
            rw [HREP.out] at HOj ⊢
            clear hop hrj
            by_cases hov : most < ((o.length + j : Nat) : Int)
            · have HU2 := Lib.hid (HOV.out hov)
              go_wp2_with fail
              go_ret2
              exact up_nil HU2.out HBj.out rfl rfl
            · have HE2 := Lib.hid (HON.out (by omega))
              go_wp2_with fail
              go_roundw
              case rel => exact ⟨repK d j o, at_ + 2, by push_cast; rfl, by omega, by rw [HREP.out]; omega, HOj.out, HBj.out, HE2.out⟩
              case measure => simp [intOf]; omega
    · have hae : at_ = l.length := by omega
      have HE' := HE.out
      have hdn : l.drop at_ = [] := List.drop_of_length_le (by omega)
      rw [hdn] at HE'
      have HU2 := Lib.hid (HU.out.trans (HE'.trans (unW_end most o)))
      clear HE' hae hdn
      go_wp2_with fail
      go_ret2
      exact ⟨_, by rw [HU2.out]; rfl, by rw [HU2.out]; exact HO.out, HB.out⟩
end Go.Proofs.Ytdfpikimeihefaa
