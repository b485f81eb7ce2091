/-
  slabvaultref15: Tokens, Pack. No premise.
-/
import Derived.Test.YtdfpikimeihefaaMat5
namespace Go.Proofs.Ytdfpikimeihefaa
open Go.RowKit Go.Proofs.YtdfpikimeihefaaW.PrintWords

set_option maxRecDepth 100000 in
set_option maxHeartbeats 2000000 in
theorem refTokens_any (A : Option Addr) (c : Nat) (l : List Int) (w : World) (hr : Rd w A l) (hc : l.length ≤ c) (hl : l.length ≤ 100000) :
    Calls Try.prog 45 #[.slice A l.length c] w fun e w' => ∃ v, e = .returned v ∧ Own w' w.heap.size v (tkL l) ∧ Below w.heap.size w w' := by
  have HR := Lib.hid hr
  clear hr
  go_enter Try.func45, Try.ntmps45
  go_wp2_with fail
  go_loopw [3, 4, 5] (fun v t4 t wr => ∃ (at_ fr : Nat) (o : List Int), at_ ≤ l.length ∧ fr ≤ at_ ∧ at_ < fr + 128 ∧ t = .int .i64 at_ ∧ t4 = .int .i64 fr ∧ Hid (Own wr w.heap.size v o) ∧ Hid (Below w.heap.size w wr) ∧ Hid (o ++ tkF l at_ fr = tkL l)) (fun _ _ t _ => l.length - (intOf t).toNat)
  case atStart => exact ⟨0, 0, [], Nat.zero_le _, Nat.le_refl _, by omega, rfl, rfl, World.ownsRow_nil _ _ _ _, Below.refl _ _, rfl⟩
  case round =>
    obtain ⟨at_, fr, o, ha, hf, hf2, rfl, rfl, HO, HB, HT⟩ := hrel
    have hob := tok_bound HT.out hl
    have hws := HB.out.size
    by_cases hal : at_ < l.length
    · obtain ⟨ad, rfl, _⟩ := HR.out.2.2 (by omega)
      have HF := Lib.hid (refBest_any ad c l at_ wr (HR.out.below HB.out) hc (by omega) hal)
      have HON := Lib.hid (tkF_on l at_ fr hal)
      have HCO := Lib.hid (tkF_copy l at_ fr hal)
      have hb1 := best_room l at_
      have hb2 := best_by l at_
      obtain ⟨n, hn⟩ : ∃ n, n = (best l at_).1 := ⟨_, rfl⟩
      obtain ⟨d, hd⟩ : ∃ d, d = (best l at_).2 := ⟨_, rfl⟩
      rw [← hn] at hb1 HON HCO
      rw [← hd] at hb2 HCO
      have HN := Lib.hid hn
      have HD := Lib.hid hd
      clear hn hd
      by_cases hn4 : n < 4
      · have H1 := Lib.hid (HON.out hn4)
        clear HON HCO
        by_cases h128 : at_ + 1 = fr + 128
        · have hi128 : (((at_ : Int) + 1 - (fr : Int)) == 128) = true := beq_iff_eq.2 (by omega)
          obtain ⟨A', l', hl', hl'n, hcut, hcr, hlc⟩ := cut_int (some ad) l c (fr : Int) ((at_ : Int) + 1) (by omega) (by omega) (by omega) hc
          have hln : l'.length = 128 := by have := hl'n.out; omega
          have hne : l' ≠ [] := by intro e; rw [e] at hln; simp at hln
          have hrn : rnL l' = 127 :: l' := by rw [rnL_short l' hne (by omega), hln]; rfl
          have hfull := tkF_full l (at_ + 1) fr (by omega) (by omega)
          have hl'' : (l.drop fr).take 128 = l' := by
            have := hl'.out
            rw [Int.toNat_natCast, show ((at_ : Int) + 1 - (fr : Int)).toNat = 128 from by omega] at this
            exact this.symm
          rw [hl''] at hfull
          have HT2 := Lib.hid (show (o ++ rnL l') ++ tkF l (at_ + 1) (at_ + 1) = tkL l by
            rw [← HT.out, H1.out, hfull, hrn, h128]
            simp)
          have HRU := Lib.hid (fun m => run_any A' (c - (fr : Int).toNat) l' (wr.drewN m) (hcr _ (HR.out.below (pw_below_drewN HB.out m))) (by omega))
          rw [show (fr : Int).toNat = fr from rfl] at HRU hcut
          have hrl := rnL_length l'
          have HRL := Lib.hid (show (rnL l').length ≤ 256 by omega)
          obtain ⟨ru, hru⟩ : ∃ ru, ru = rnL l' := ⟨_, rfl⟩
          rw [← hru] at HT2 HRL
          have HRUE := Lib.hid hru
          have HLN := Lib.hid hln
          clear hrn hfull hl'' hrl hne hru hln
          go_wp2_with (go_at_call 59; refine HF.out.mono ?_; rintro e w2 ⟨rfl, m, rfl⟩; rw [← HN.out, ← HD.out])
          refine (HRU.out m).mono ?_
          rintro e w3 ⟨v3, rfl, ho3, hb3⟩
          rw [← HRUE.out] at ho3
          obtain ⟨A3, c3, rfl, hr3⟩ := own_reads ho3
          have HR3 := Lib.hid (show Rd w3 A3 ru from hr3)
          have hb3' : Below (wr.drewN m).heap.size (wr.drewN m) w3 := hb3
          have HO3 := Lib.hid (own_step (show Own (wr.drewN m) w.heap.size u3 o from HO.out) hb3')
          have HB3 := Lib.hid ((pw_below_drewN HB.out m).trans (hb3'.mono hws))
          have hw3 := HB3.out.size
          clear ho3 hb3 hr3 hb3' hcut
          go_wp2_with ((with_reducible refine gate_builtin (b := .append) (xs := #[.tmp 46, .tmp 51]) rfl ?_); refine app w.heap.size rfl _ _ rfl u3 o ru A3 c3 rfl rfl HO3.out HR3.out hw3 (by have := HRL.out; omega) ?_; intro v4 w4 h4 g4; have H4 := Lib.hid h4; have HB4 := Lib.hid (HB3.out.grown g4 hw3 (fun k e => own_base HO3.out k e)); clear h4 g4)
          go_roundw
          case rel => exact ⟨at_ + 1, at_ + 1, o ++ ru, by omega, by omega, by omega, by push_cast; rfl, by push_cast; rfl, H4.out, HB4.out, HT2.out⟩
          case measure => simp [intOf]; omega
        · have hi128 : (((at_ : Int) + 1 - (fr : Int)) == 128) = false := beq_eq_false_iff_ne.2 (by omega)
          go_wp2_with (go_at_call 59; refine HF.out.mono ?_; rintro e w2 ⟨rfl, m, rfl⟩; rw [← HN.out, ← HD.out])
          go_roundw
          case rel => exact ⟨at_ + 1, fr, o, by omega, by omega, by omega, by push_cast; rfl, rfl, HO.out, pw_below_drewN HB.out m, by rw [← H1.out]; exact HT.out⟩
          case measure => simp [intOf]; omega
      · have H1 := Lib.hid (HCO.out hn4)
        clear HON HCO
        obtain ⟨A', l', hl', hl'n, hcut, hcr, hlc⟩ := cut_int (some ad) l c (fr : Int) (at_ : Int) (by omega) (by omega) (by omega) hc
        have hln : l'.length ≤ 127 := by have := hl'n.out; omega
        have hl'' : (l.take at_).drop fr = l' := by
          have := hl'.out
          rw [Int.toNat_natCast, show ((at_ : Int) - (fr : Int)).toNat = at_ - fr from by omega] at this
          rw [List.drop_take]
          exact this.symm
        have HRU := Lib.hid (fun m => run_any A' (c - (fr : Int).toNat) l' (wr.drewN m) (hcr _ (HR.out.below (pw_below_drewN HB.out m))) (by omega))
        rw [show (fr : Int).toNat = fr from rfl] at HRU hcut
        have hrl := rnL_length l'
        have HRL := Lib.hid (show (rnL l').length ≤ 256 by omega)
        obtain ⟨ru, hru⟩ : ∃ ru, ru = rnL l' := ⟨_, rfl⟩
        have HT2 := Lib.hid (show (o ++ ru) ++ [128 + (n : Int) - 4, (d : Int)] ++ tkF l (at_ + n) (at_ + n) = tkL l by
          rw [show 128 + (n : Int) - 4 = 124 + (n : Int) from by omega]
          have := HT.out
          rw [H1.out, hl'', ← hru] at this
          rw [← this]
          simp)
        rw [← hru] at HRL
        have HRUE := Lib.hid hru
        clear hl'' hrl hru
        go_wp2_with (go_at_call 59; refine HF.out.mono ?_; rintro e w2 ⟨rfl, m, rfl⟩; rw [← HN.out, ← HD.out])
        refine (HRU.out m).mono ?_
        rintro e w3 ⟨v3, rfl, ho3, hb3⟩
        rw [← HRUE.out] at ho3
        obtain ⟨A3, c3, rfl, hr3⟩ := own_reads ho3
        have HR3 := Lib.hid (show Rd w3 A3 ru from hr3)
        have hb3' : Below (wr.drewN m).heap.size (wr.drewN m) w3 := hb3
        have HO3 := Lib.hid (own_step (show Own (wr.drewN m) w.heap.size u3 o from HO.out) hb3')
        have HB3 := Lib.hid ((pw_below_drewN HB.out m).trans (hb3'.mono hws))
        have hw3 := HB3.out.size
        clear ho3 hb3 hr3 hb3' hcut
        go_wp2_with ((with_reducible refine gate_builtin (b := .append) (xs := #[.tmp 20, .tmp 25]) rfl ?_); refine app w.heap.size rfl _ _ rfl u3 o ru A3 c3 rfl rfl HO3.out HR3.out hw3 (by have := HRL.out; omega) ?_)
        intro v4 w4 h4 g4
        obtain ⟨o4, ho4⟩ : ∃ o4, o4 = o ++ ru := ⟨_, rfl⟩
        rw [← ho4] at h4 HT2
        have hol4 : o4.length ≤ 300000 := by rw [ho4, List.length_append]; have := HRL.out; omega
        have H4 := Lib.hid h4
        have HB4 := Lib.hid (HB3.out.grown g4 hw3 (fun k e => own_base HO3.out k e))
        have hw4 := HB4.out.size
        clear h4 g4 ho4
        go_wp2_with ((with_reducible refine gate_builtin (b := .append) (xs := #[.tmp 27, .tmp 34]) rfl ?_); refine app2 w.heap.size rfl _ _ rfl v4 o4 (128 + (n : Int) - 4) d rfl rfl H4.out hw4 (by omega) ?_)
        intro v5 w5 h5 g5
        have H5 := Lib.hid h5
        have HB5 := Lib.hid (HB4.out.grown g5 hw4 (fun k e => own_base H4.out k e))
        clear h5 g5
        go_wp2_with fail
        go_roundw
        case rel => exact ⟨at_ + n, at_ + n, _, by omega, Nat.le_refl _, by omega, by push_cast; rfl, by push_cast; rfl, H5.out, HB5.out, HT2.out⟩
        case measure => simp [intOf]; omega
    · have hae : at_ = l.length := by omega
      have HT' := HT.out
      rw [tkF_end l at_ fr (by omega)] at HT'
      obtain ⟨A', hcut, hcr, hlc⟩ := cut_suf A l c (fr : Int) (by omega) (by omega) hc
      rw [show (fr : Int).toNat = fr from rfl] at hcut hcr hlc
      obtain ⟨l', hl'⟩ : ∃ l', l' = l.drop fr := ⟨_, rfl⟩
      rw [← hl'] at hcut hcr HT'
      have hln : l'.length ≤ 128 := by rw [hl', List.length_drop]; omega
      have HRU := Lib.hid (run_any A' (c - fr) l' wr (hcr _ (HR.out.below HB.out)) hln)
      have hrl := rnL_length l'
      have HRL := Lib.hid (show (rnL l').length ≤ 256 by omega)
      obtain ⟨ru, hru⟩ : ∃ ru, ru = rnL l' := ⟨_, rfl⟩
      rw [← hru] at HT' HRL
      have HT2 := Lib.hid HT'
      have HRUE := Lib.hid hru
      have hfl : fr ≤ l.length := by omega
      clear hrl hru HT' hae hl'
      go_wp2_with fail
      refine HRU.out.mono ?_
      rintro e w3 ⟨v3, rfl, ho3, hb3⟩
      rw [← HRUE.out] at ho3
      obtain ⟨A3, c3, rfl, hr3⟩ := own_reads ho3
      have HR3 := Lib.hid (show Rd w3 A3 ru from hr3)
      have HO3 := Lib.hid (own_step HO.out hb3)
      have HB3 := Lib.hid (HB.out.trans (hb3.mono hws))
      have hw3 := HB3.out.size
      clear ho3 hb3 hr3 hcut
      go_wp2_with ((with_reducible refine gate_builtin (b := .append) (xs := #[.tmp 54, .tmp 58]) rfl ?_); refine app w.heap.size rfl _ _ rfl u3 o ru A3 c3 rfl rfl HO3.out HR3.out hw3 (by have := HRL.out; omega) ?_; intro v4 w4 h4 g4; have H4 := Lib.hid h4; have HB4 := Lib.hid (HB3.out.grown g4 hw3 (fun k e => own_base HO3.out k e)); clear h4 g4)
      go_ret
      exact ⟨_, rfl, by rw [← HT2.out]; exact H4.out, HB4.out⟩
end Go.Proofs.Ytdfpikimeihefaa
