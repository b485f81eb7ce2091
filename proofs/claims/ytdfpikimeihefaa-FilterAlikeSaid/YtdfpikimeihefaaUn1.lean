/-
  match.Unpack. No premise.
-/
import Derived.Test.YtdfpikimeihefaaUnP
import Derived.Test.YtdfpikimeihefaaMat4
import Derived.WalkMore
import Derived.ScopeJumps
import Derived.Test.YtdfpikimeihefaaShf2
namespace Go.Proofs.Ytdfpikimeihefaa
open Go.RowKit Go.Proofs.YtdfpikimeihefaaW.PrintWords

def UpPost (w : World) (l : List Int) (most : Int) (e : Ending) (w' : World) : Prop :=
  ∃ v, e = .returned (.tuple #[v, .int .i64 (upk l most).2]) ∧ Own w' w.heap.size v (upk l most).1 ∧ Below w.heap.size w w'
theorem up_nil {w : World} {l : List Int} {most x : Int} (h : upk l most = ([], x)) {w' : World} (hb : Below w.heap.size w w') {a : Value} {y : Int} (ha : a = .slice none 0 0) (hy : y = x) : UpPost w l most (.returned (.tuple #[a, .int .i64 y])) w' := by
  subst ha hy
  exact ⟨.slice none 0 0, by rw [h], by rw [h]; exact World.ownsRow_nil _ _ _ _, hb⟩
def lenOf : Value → Nat
  | .slice _ n _ => n
  | _ => 0
set_option maxRecDepth 100000 in
set_option maxHeartbeats 3200000 in
theorem unpack_any (A : Option Addr) (c : Nat) (l : List Int) (most : Int) (w : World) (hr : Rd w A l) (hb : Bts l) (hc : l.length ≤ c) (hl : l.length ≤ 149000000000000) :
    Calls Try.prog 40 #[.slice A l.length c, .int .i64 most] w (UpPost w l most) := by
  have HR := Lib.hid hr
  have HBt := Lib.hid hb
  clear hr hb
  by_cases hm1 : most < 0
  · have HU := Lib.hid (upk_arg (l := l) (.inl hm1))
    go_enter Try.func40, Try.ntmps40
    go_wp2_with fail
    go_step3
    go_wp2_with fail
    try rw [Exit.noGoto_ret]
    go_ret2
    exact up_nil HU.out (Below.refl _ _) rfl rfl
  by_cases hm2 : 65536 < most
  · have HU := Lib.hid (upk_arg (l := l) (.inr hm2))
    go_enter Try.func40, Try.ntmps40
    go_wp2_with fail
    go_step3
    go_wp2_with fail
    try rw [Exit.noGoto_ret]
    go_ret2
    exact up_nil HU.out (Below.refl _ _) rfl rfl
  have hm : ¬ (most < 0 ∨ 65536 < most) := by omega
  by_cases hl0 : l = []
  · subst hl0
    have HU := Lib.hid (upk_cor hm (.inl rfl))
    clear hm
    go_enter Try.func40, Try.ntmps40
    go_wp2_with fail
    go_step3
    go_wp2_with fail
    try rw [Exit.noGoto_ret]
    go_ret2
    exact up_nil HU.out (Below.refl _ _) rfl rfl
  have hlp : 0 < l.length := List.length_pos_iff.2 hl0
  have hlz : ((l.length : Int) == 0) = false := beq_eq_false_iff_ne.2 (by omega)
  obtain ⟨ad, rfl, _⟩ := HR.out.2.2 hlp
  have hc0 := rd_cell HR.out 0 hlp
  have hc0' := hc0
  rw [show ad.add 0 = ad from rfl] at hc0'
  obtain ⟨b0, hb0⟩ := Int.eq_ofNat_of_zero_le (HBt.out.at 0).1
  have hb1 : b0 ≤ 255 := by have := (HBt.out.at 0).2; omega
  rw [hb0] at hc0 hc0'
  have HB0 := Lib.hid hb0
  clear hb0
  by_cases hg1 : 1 < b0
  · have HU := Lib.hid (upk_cor hm (.inr (by rw [HB0.out]; omega)))
    clear hm hl0
    go_enter Try.func40, Try.ntmps40
    go_wp2_with fail
    go_step3
    go_wp2_with fail
    try rw [Exit.noGoto_ret]
    go_ret2
    exact up_nil HU.out (Below.refl _ _) rfl rfl
  have hn5 : ¬ (l = [] ∨ 1 < rdI l 0) := by rw [HB0.out]; intro h; rcases h with h | h; exact hl0 h; omega
  by_cases hz : b0 = 0
  · have hz0 : rdI l 0 = 0 := by rw [HB0.out, hz]; rfl
    by_cases hlb : most < (l.length : Int) - 1
    · have HU := Lib.hid (upk_big hm hn5 hz0 hlb)
      subst hz
      clear hm hl0 hz0 hn5
      go_enter Try.func40, Try.ntmps40
      go_wp2_with fail
      go_step3
      go_wp2_with fail
      try rw [Exit.noGoto_ret]
      go_ret2
      exact up_nil HU.out (Below.refl _ _) rfl rfl
    · have HU := Lib.hid (upk_plain hm hn5 hz0 hlb)
      obtain ⟨A', hcut, hcr, hlc⟩ := cut_suf (some ad) l c 1 (by omega) (by omega) hc
      rw [show (1 : Int).toNat = 1 from rfl] at hcut hcr hlc
      obtain ⟨r, hr⟩ : ∃ r, r = l.drop 1 := ⟨_, rfl⟩
      rw [← hr] at hcut hcr hlc HU
      have hrl : r.length ≤ l.length := by rw [hr, List.length_drop]; omega
      have HCL := Lib.hid (clone_any A' (c - 1) r w (hcr _ HR.out) (by omega))
      subst hz
      clear hm hl0 hz0 hn5 hr
      go_enter Try.func40, Try.ntmps40
      go_wp2_with fail
      go_step3
      go_wp2_with fail
      refine HCL.out.mono ?_
      rintro e w1 ⟨v, rfl, ho, hbb⟩
      have HO := Lib.hid ho
      have HBB := Lib.hid hbb
      clear ho hbb
      go_wp2_with fail
      try rw [Exit.noGoto_ret]
      go_ret2
      exact ⟨_, by rw [HU.out]; rfl, by rw [HU.out]; exact HO.out, HBB.out⟩
  have hone : b0 = 1 := by omega
  have HU := Lib.hid (upk_walk hm hn5 (by rw [HB0.out]; omega))
  obtain ⟨A0, hcut, hcr, hlc⟩ := cut_suf (some ad) l c 1 (by omega) (by omega) hc
  rw [show (1 : Int).toNat = 1 from rfl] at hcut hcr hlc
  obtain ⟨r0, hr0⟩ : ∃ r0, r0 = l.drop 1 := ⟨_, rfl⟩
  rw [← hr0] at hcut hcr hlc HU
  have hrl : r0.length ≤ l.length := by rw [hr0, List.length_drop]; omega
  have HRR := Lib.hid (hcr _ HR.out)
  have HBR := Lib.hid (show Bts r0 by rw [hr0]; exact HBt.out.drop 1)
  subst hone
  clear hm hl0 hn5 hr0 hcr hz hg1
  go_enter Try.func40, Try.ntmps40
  go_wp2_with fail
  go_step3
  go_wp2_with fail
  go_step3
  go_wp2_with fail
  clear hcut hc0 hc0'
  go_loopw [6, 7, 8] (fun v t t8 wr => ∃ (o r : List Int) (A' : Option Addr) (c' : Nat), t = .slice A' r.length c' ∧ t8 = .int .i64 0 ∧ r.length ≤ c' ∧ r.length ≤ l.length ∧ (o.length : Int) ≤ most ∧ Hid (Own wr w.heap.size v o) ∧ Hid (Below w.heap.size w wr) ∧ Hid (Rd w A' r) ∧ Hid (Bts r) ∧ Hid (unW most [] r0 = unW most o r)) (fun _ t _ _ => lenOf t)
  case atStart => exact ⟨[], r0, A0, c - 1, rfl, rfl, hlc, hrl, by simp; omega, World.ownsRow_nil _ _ _ _, Below.refl _ _, HRR.out, HBR.out, rfl⟩
  case round =>
    obtain ⟨o, r, A', c', rfl, rfl, hrc, hrl2, hom, HO, HB, HRr, HBr, HE⟩ := hrel
    by_cases hr0 : r = []
    · subst hr0
      have HU2 := Lib.hid (HU.out.trans (HE.out.trans (unW_end most o)))
      go_wp2_with fail
      try rw [Exit.noGoto_ret]
      go_ret2
      exact ⟨_, by rw [HU2.out]; rfl, by rw [HU2.out]; exact HO.out, HB.out⟩
    · have hrp : 0 < r.length := List.length_pos_iff.2 hr0
      obtain ⟨adr, rfl, _⟩ := HRr.out.2.2 hrp
      have hk0 := rd_cell (HRr.out.below HB.out) 0 hrp
      have hk0' := hk0
      rw [show adr.add 0 = adr from rfl] at hk0'
      obtain ⟨kn, hkn⟩ := Int.eq_ofNat_of_zero_le (HBr.out.at 0).1
      have hkn1 : kn ≤ 255 := by have := (HBr.out.at 0).2; omega
      rw [hkn] at hk0 hk0'
      have HKN := Lib.hid hkn
      have hws := HB.out.size
      clear hkn
      by_cases hk1 : kn < 128
      · by_cases hs : r.length < kn + 2
        · have hbt : badTok o r = true := by unfold badTok; rw [HKN.out]; exact decide_eq_true (.inl ⟨by omega, by omega⟩)
          have HU2 := Lib.hid (HU.out.trans (HE.out.trans (unW_bad hr0 hbt)))
          clear hbt hr0
          go_wp2_with fail
          try rw [Exit.noGoto_ret]
          go_ret2
          exact up_nil HU2.out HB.out rfl rfl
        · have hbt : badTok o r = false := by unfold badTok; rw [HKN.out]; exact decide_eq_false (fun h => by rcases h with h | h <;> omega)
          obtain ⟨A2, l2, hl2, hl2n, hcut, hcr, hlc2⟩ := cut_int (some adr) r c' 1 ((kn : Int) + 2) (by omega) (by omega) (by omega) hrc
          rw [show (1 : Int).toNat = 1 from rfl] at hcut hlc2
          obtain ⟨A3, hcut3, hcr3, hlc3⟩ := cut_suf (some adr) r c' ((kn : Int) + 2) (by omega) (by omega) hrc
          rw [show ((kn : Int) + 2).toNat = kn + 2 from by omega] at hcut3 hcr3 hlc3
          have hno : nextOut o r = o ++ l2 := by
            unfold nextOut stepRun
            rw [HKN.out, if_pos (by omega), hl2.out, Int.toNat_natCast, show ((kn : Int) + 2 - 1).toNat = kn + 1 from by omega]
            rfl
          have hnr : nextRest r = r.drop (kn + 2) := by
            unfold nextRest
            rw [HKN.out, if_pos (by omega), Int.toNat_natCast]
          obtain ⟨oo, hoo⟩ : ∃ oo, oo = o ++ l2 := ⟨_, rfl⟩
          obtain ⟨r3, hr3⟩ : ∃ r3, r3 = r.drop (kn + 2) := ⟨_, rfl⟩
          rw [← hoo] at hno
          rw [← hr3] at hnr hcut3 hcr3 hlc3
          have hr3l : r3.length < r.length := by rw [hr3, List.length_drop]; omega
          have hool : oo.length ≤ o.length + 255 := by rw [hoo, List.length_append]; have := hl2n.out; omega
          have HOV := Lib.hid (fun h : most < (oo.length : Int) => HU.out.trans (HE.out.trans (unW_over hr0 hbt (by rw [hno]; exact h))))
          have HON := Lib.hid (fun h : ¬ most < (oo.length : Int) => HE.out.trans (unW_on hr0 hbt (by rw [hno]; exact h)))
          rw [hno, hnr] at HON
          have HOO := Lib.hid hoo
          have HB3 := Lib.hid (show Bts r3 by rw [hr3]; exact HBr.out.drop _)
          have HR3 := Lib.hid (hcr3 _ HRr.out)
          have HR2 := Lib.hid (hcr _ HRr.out)
          have hl2b : l2.length ≤ 255 := by have := hl2n.out; omega
          clear hbt hr0 hno hnr hoo hr3 hcr hcr3
          by_cases hov : most < (oo.length : Int)
          · have HU2 := Lib.hid (HOV.out hov)
            go_wp2_with ((with_reducible refine gate_builtin (b := .append) (xs := #[.tmp 112, .tmp 116]) rfl ?_); refine app w.heap.size rfl _ _ rfl u6 o l2 A2 (c' - 1) rfl rfl HO.out (HR2.out.below HB.out) hws (by omega) ?_)
            intro v4 w4 h4 g4
            rw [← HOO.out] at h4
            have HB4 := Lib.hid (HB.out.grown g4 hws (fun k e => own_base HO.out k e))
            obtain ⟨A4, c4, rfl, _⟩ := own_reads h4
            clear h4 g4
            go_wp2_with fail
            try rw [Exit.noGoto_ret]
            go_ret2
            exact up_nil HU2.out HB4.out rfl rfl
          · have HE2 := Lib.hid (HON.out hov)
            go_wp2_with ((with_reducible refine gate_builtin (b := .append) (xs := #[.tmp 112, .tmp 116]) rfl ?_); refine app w.heap.size rfl _ _ rfl u6 o l2 A2 (c' - 1) rfl rfl HO.out (HR2.out.below HB.out) hws (by omega) ?_)
            intro v4 w4 h4 g4
            rw [← HOO.out] at h4
            have HB4 := Lib.hid (HB.out.grown g4 hws (fun k e => own_base HO.out k e))
            have H4 := Lib.hid h4
            obtain ⟨A4, c4, rfl, _⟩ := own_reads h4
            clear h4 g4
            go_wp2_with fail
            go_roundw
            case rel => exact ⟨oo, r3, A3, c' - (kn + 2), rfl, rfl, hlc3, by omega, by omega, H4.out, HB4.out, HR3.out, HB3.out, HE2.out⟩
            case measure => simp [lenOf]; omega
      · by_cases hs : r.length < 2
        · have hbt : badTok o r = true := by unfold badTok; rw [HKN.out]; exact decide_eq_true (.inr ⟨by omega, .inl (by omega)⟩)
          have HU2 := Lib.hid (HU.out.trans (HE.out.trans (unW_bad hr0 hbt)))
          clear hbt hr0
          go_wp2_with fail
          try rw [Exit.noGoto_ret]
          go_ret2
          exact up_nil HU2.out HB.out rfl rfl
        have hk2 := rd_cell (HRr.out.below HB.out) 1 (by omega)
        obtain ⟨d, hd⟩ := Int.eq_ofNat_of_zero_le (HBr.out.at 1).1
        have hd1 : d ≤ 255 := by have := (HBr.out.at 1).2; omega
        rw [hd] at hk2
        have hk2' := hk2
        rw [show adr.add 1 = ⟨adr.block, adr.off + 1, none⟩ from by unfold Addr.add; rw [if_neg (by omega)]] at hk2'
        have HD := Lib.hid hd
        clear hd
        by_cases hd0 : d = 0
        · have hbt : badTok o r = true := by unfold badTok; rw [HKN.out, HD.out]; exact decide_eq_true (.inr ⟨by omega, .inr (.inl (by omega))⟩)
          have HU2 := Lib.hid (HU.out.trans (HE.out.trans (unW_bad hr0 hbt)))
          subst hd0
          clear hbt hr0
          go_wp2_with fail
          try rw [Exit.noGoto_ret]
          go_ret2
          exact up_nil HU2.out HB.out rfl rfl
        have hdz : ((d : Int) == 0) = false := beq_eq_false_iff_ne.2 (by omega)
        by_cases hdo : o.length < d
        · have hbt : badTok o r = true := by unfold badTok; rw [HKN.out, HD.out]; exact decide_eq_true (.inr ⟨by omega, .inr (.inr (by omega))⟩)
          have HU2 := Lib.hid (HU.out.trans (HE.out.trans (unW_bad hr0 hbt)))
          obtain ⟨A6, c6, rfl, _⟩ := own_reads HO.out
          clear hbt hr0
          go_wp2_with fail
          try rw [Exit.noGoto_ret]
          go_ret2
          exact up_nil HU2.out HB.out rfl rfl
        have hbt : badTok o r = false := by
          unfold badTok
          rw [HKN.out, HD.out]
          refine decide_eq_false (fun h => ?_)
          rcases h with h | ⟨_, h | h | h⟩
          · omega
          · omega
          · omega
          · omega
        obtain ⟨A3, hcut3, hcr3, hlc3⟩ := cut_suf (some adr) r c' 2 (by omega) (by omega) hrc
        rw [show (2 : Int).toNat = 2 from rfl] at hcut3 hcr3 hlc3
        obtain ⟨m, hm⟩ : ∃ m, m = kn - 124 := ⟨_, rfl⟩
        have hmi : (kn : Int) - 128 + 4 = (m : Int) := by omega
        have hm0 : 4 ≤ m := by omega
        have hm1' : m ≤ 131 := by omega
        have hno : nextOut o r = repK d m o := by
          unfold nextOut stepCopy
          rw [HKN.out, HD.out, if_neg (by omega), Int.toNat_natCast, Int.toNat_natCast, hm]
        have hnr : nextRest r = r.drop 2 := by
          unfold nextRest
          rw [HKN.out, if_neg (by omega)]
        obtain ⟨r3, hr3⟩ : ∃ r3, r3 = r.drop 2 := ⟨_, rfl⟩
        rw [← hr3] at hnr hcut3 hcr3 hlc3
        have hr3l : r3.length < r.length := by rw [hr3, List.length_drop]; omega
        have hrep : (repK d m o).length = o.length + m := repK_length d m o
        have HOV := Lib.hid (fun h : most < ((o.length + m : Nat) : Int) => HU.out.trans (HE.out.trans (unW_over hr0 hbt (by rw [hno, hrep]; exact h))))
        have HON := Lib.hid (fun h : ¬ most < ((o.length + m : Nat) : Int) => HE.out.trans (unW_on hr0 hbt (by rw [hno, hrep]; exact h)))
        rw [hno, hnr] at HON
        have HB3 := Lib.hid (show Bts r3 by rw [hr3]; exact HBr.out.drop _)
        have HR3 := Lib.hid (hcr3 _ HRr.out)
        have HREP := Lib.hid hrep
        have HM := Lib.hid hmi
        clear hbt hr0 hno hnr hr3 hcr3 hrep hm hk0
        obtain ⟨wo, rfl⟩ : ∃ wo : World, wo = wr := ⟨_, rfl⟩
        obtain ⟨A6, c6, rfl, _⟩ := own_reads HO.out
        go_wp2_with fail
        go_loopw [6, 59] (fun v t wq => ∃ j : Nat, j ≤ m ∧ t = .int .i64 j ∧ Hid (Own wq w.heap.size v (repK d j o)) ∧ Hid (Below w.heap.size w wq)) (fun _ t _ => m - (intOf t).toNat)
        case atStart => exact ⟨0, by omega, rfl, HO.out, HB.out⟩
        case round =>
          obtain ⟨j, hj, rfl, HOj, HBj⟩ := hrel
          have hrj := repK_length d j o
          have hwj := HBj.out.size
          by_cases hjm : j < m
          · have HSU := Lib.hid (show repK d (j + 1) o = repK d j o ++ [rdI (repK d j o) ((repK d j o).length - d)] from rfl)
            obtain ⟨cur, hcur⟩ : ∃ cur, cur = repK d j o := ⟨_, rfl⟩
            rw [← hcur] at HSU HOj hrj
            have hcl : cur.length ≤ 70000 := by omega
            have hcd : d ≤ cur.length := by omega
            rcases own_cases HOj.out with ⟨_, h⟩ | ⟨g, cap, rfl⟩
            · rw [h] at hcd; simp at hcd; omega
            obtain ⟨hx, _⟩ := own_cell HOj.out ((cur.length - d : Nat) : Int) (by omega) (by omega)
            rw [Int.toNat_natCast] at hx
            generalize rdI cur (cur.length - d) = x at hx HSU
            have hix : ((cur.length : Int) - (d : Int)).toNat = cur.length - d := by omega
            have hk9 := rd_cell (HRr.out.below HBj.out) 1 (by omega)
            rw [HD.out] at hk9
            have hk9' := hk9
            rw [show adr.add 1 = ⟨adr.block, adr.off + 1, none⟩ from by unfold Addr.add; rw [if_neg (by omega)]] at hk9'
            clear hrj hcur
            go_wp2_with ((with_reducible refine gate_builtin (b := .append) (xs := #[.tmp 61, .tmp 72]) rfl ?_); refine app1 w.heap.size rfl _ _ rfl (.slice (some ⟨g, 0, none⟩) cur.length cap) cur x rfl rfl HOj.out hwj (by omega) ?_; intro v5 w5 h5 g5; have H5 := Lib.hid h5; have HB5 := Lib.hid (HBj.out.grown g5 hwj (fun k e => own_base HOj.out k e)); clear h5 g5)
            go_roundw
            case rel => exact ⟨j + 1, by omega, by push_cast; rfl, by rw [HSU.out]; exact H5.out, HB5.out⟩
            case measure => simp [intOf]; omega
          · have hje : j = m := by omega
            subst hje
            have hop := HOj.out
            obtain ⟨A7, c7, rfl, _⟩ := own_reads hop
            rw [HREP.out] at HOj ⊢
            clear hop hrj
            by_cases hov : most < ((o.length + j : Nat) : Int)
            · have HU2 := Lib.hid (HOV.out hov)
              go_wp2_with fail
              try rw [Exit.noGoto_ret]
              go_ret2
              exact up_nil HU2.out HBj.out rfl rfl
            · have HE2 := Lib.hid (HON.out (by omega))
              go_wp2_with fail
              go_roundw
              case rel => exact ⟨repK d j o, r3, A3, c' - 2, rfl, rfl, hlc3, by omega, by rw [HREP.out]; omega, HOj.out, HBj.out, HR3.out, HB3.out, HE2.out⟩
              case measure => simp [lenOf]; omega
end Go.Proofs.Ytdfpikimeihefaa
