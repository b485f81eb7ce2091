/-
  slabvaultref16.sum, Apply. No premise.
-/
import Derived.Test.YtdfpikimeihefaaFil3
import Derived.Test.YtdfpikimeihefaaDel2
import Derived.Test.YtdfpikimeihefaaMat7
namespace Go.Proofs.Ytdfpikimeihefaa
open Go.RowKit Go.Proofs.YtdfpikimeihefaaW.PrintWords

set_option maxHeartbeats 400000 in
theorem refSum_any (A : Option Addr) (c : Nat) (l : List Int) (w : World) (hr : Rd w A l) (hb : Bts l) (hl : l.length ≤ 149000000000000) :
    Calls Try.prog 25 #[.slice A l.length c] w fun e w' => ∃ v, e = .returned v ∧ Own w' w.heap.size v (dig 4 true (fletS l)) ∧ Below w.heap.size w w' := by
  have HR := Lib.hid hr
  have HBt := Lib.hid hb
  obtain ⟨h0, h1⟩ := fletS_range l
  obtain ⟨m, hm⟩ : ∃ m, m = fletS l := ⟨_, rfl⟩
  rw [← hm] at h0 h1 ⊢
  have HM := Lib.hid hm
  clear hr hb hm
  go_enter Try.func25, Try.ntmps25
  go_wp2_with (first | (go_at_call 47; refine (refFletcher_any A c l w HR.out HBt.out (by omega)).mono ?_; rintro e w1 ⟨rfl, rfl⟩; rw [← HM.out]) | (go_at_call 46; refine (refDigits_any 4 true m _ (by decide) h0 (by omega)).mono ?_; rintro e w2 ⟨v2, rfl, ho, hb⟩; have HO := Lib.hid ho; have HB := Lib.hid hb; clear ho hb))
  go_ret
  exact ⟨_, rfl, HO.out, HB.out⟩
set_option maxRecDepth 100000 in
set_option maxHeartbeats 3200000 in
theorem refApply_any (A : Option Addr) (c : Nat) (l : List Fl) (B : Option Addr) (cb : Nat) (b : List Int) (w : World) (hr : Fls w A l) (hrb : Rd w B b) (hb : Bts b) (hl : b.length ≤ 149000000000000) :
    Calls Try.prog 15 #[.slice A l.length c, .slice B b.length cb] w (ApPost w l b) := by
  have HR := Lib.hid hr
  have HRB := Lib.hid hrb
  have HBt := Lib.hid hb
  clear hr hrb hb
  by_cases hck : fck l = 0
  · by_cases hbig : 4096 < b.length
    · have HE := Lib.hid (show apE l b = 20 by unfold apE; rw [if_neg (by rw [hck]; decide), if_pos hbig])
      have HC := Lib.hid hck
      clear hck
      go_enter Try.func15, Try.ntmps15
      go_wp2_with (go_at_call 11; refine (refCheck_any A c l w HR.out).mono ?_; rintro e w1 ⟨rfl, rfl⟩; rw [HC.out])
      go_ret2
      refine ⟨_, ret2 HE.out.symm, ?_, Below.refl _ _⟩
      unfold apL
      rw [HE.out, if_pos (by decide)]
      exact World.ownsRow_nil _ _ _ _
    · have HE := Lib.hid (show apE l b = 0 by unfold apE; rw [if_neg (by rw [hck]; decide), if_neg hbig])
      have HAL := Lib.hid (show apL l b = doA l b by unfold apL; rw [HE.out, if_neg (by decide)])
      have HOK := Lib.hid (fun k hk => (ok_at hck (k := k) hk).1)
      have hf4 := fck_few hck
      have HC := Lib.hid hck
      clear hck
      have HO0 := Lib.hid (own_empty w w.heap.size (Nat.le_refl _))
      have HB0 := Lib.hid ((Below.refl w.heap.size w).alloc (Nat.le_refl _) (.cells #[] 5))
      go_enter Try.func15, Try.ntmps15
      go_wp2_with (first | (go_at_call 11; refine (refCheck_any A c l w HR.out).mono ?_; rintro e w1 ⟨rfl, rfl⟩; rw [HC.out]) | ((with_reducible refine gate_builtin (b := .append) (xs := #[.tmp 17, .tmp 18]) rfl ?_); refine app w.heap.size rfl _ _ rfl (.slice (some ⟨w.heap.size, 0, none⟩) 0 0) [] b B cb rfl rfl HO0.out (HRB.out.below HB0.out) (by simp) (by simp; omega) ?_; intro v0 w2 h1 h2; have HO := Lib.hid (show Own w2 w.heap.size v0 b from h1); have HB2 := Lib.hid (HB0.out.grown h2 (by simp) (by simp [Value.ownBlock])); clear h1 h2))
      go_loopw [7, 8] (fun y t wr => ∃ (k : Nat) (v : Value), k ≤ l.length ∧ t = .int .i64 k ∧ y = v ∧ Hid (Own wr w.heap.size v (doA (l.take k) b)) ∧ Hid (Below w.heap.size w wr)) (fun _ t _ => l.length - (intOf t).toNat)
      case atStart => exact ⟨0, v0, Nat.zero_le _, rfl, rfl, HO.out, HB2.out⟩
      case round =>
        obtain ⟨k, v, hk, rfl, rfl, HOk, HBk⟩ := hrel
        by_cases hlt : k < l.length
        · obtain ⟨ad, rfl, hc⟩ := (HR.out.below HBk.out).2 (by omega)
          obtain ⟨hc0, hc1⟩ := hc k hlt
          have hfk := HOK.out k hlt
          have htk := doA_take hlt b
          have hxl := doA_length (l.take k) b
          have hxb := doA_bts (l.take k) HBt.out
          obtain ⟨f, hf⟩ : ∃ f, f = l.getD k (0, 0) := ⟨_, rfl⟩
          obtain ⟨x, hx⟩ : ∃ x, x = doA (l.take k) b := ⟨_, rfl⟩
          have hok := HOk.out
          rw [← hf] at hc0 hc1 hfk htk
          rw [← hx] at htk hxl hxb hok
          have hx16 : x.length ≤ 100000 := by have : (l.take k).length ≤ 4 := (by rw [List.length_take]; omega); omega
          obtain ⟨kk, d⟩ := f
          simp only at hc0 hc1
          obtain ⟨hc2, hc3⟩ := snd_cell hc1
          obtain ⟨Ax, cx, rfl, hox, hrx, hcx⟩ := own_split hok
          have HFK := Lib.hid hfk
          have HTK := Lib.hid htk
          have HXB := Lib.hid hxb
          have HX := Lib.hid hrx
          have HOX := Lib.hid hox
          clear hc hf hx hok hox hrx hfk htk hxl hxb HOk
          by_cases h1 : kk = 1
          · subst h1
            have hd : 1 ≤ d ∧ d ≤ 8 := by have := okF_iff.1 HFK.out; simp only at this; omega
            have HS := Lib.hid (show doA (l.take (k + 1)) b = mxL shufL d x by rw [HTK.out]; simp [do1])
            clear HTK
            go_wp2_with fail
            refine (refShuffle_any Ax cx x d _ HX.out hcx (by omega)).mono ?_
            rintro e w4 ⟨v4, rfl, ho4, hb4⟩
            have HO4 := Lib.hid (own_weaken ho4 HBk.out.size)
            have HB4 := Lib.hid (HBk.out.trans (hb4.mono HBk.out.size))
            clear ho4 hb4
            go_wp2_with fail
            go_roundw
            case rel => exact ⟨k + 1, v4, by omega, by push_cast; rfl, rfl, by rw [HS.out]; exact HO4.out, HB4.out⟩
            case measure => simp [intOf]; omega
          by_cases h2 : kk = 2
          · subst h2
            have hd : 1 ≤ d ∧ d ≤ 8 := by have := okF_iff.1 HFK.out; simp only at this; omega
            have HS := Lib.hid (show doA (l.take (k + 1)) b = mxL deltaL d x by rw [HTK.out]; simp [do1])
            clear HTK
            go_wp2_with fail
            refine (refDelta_any Ax cx x d _ HX.out HXB.out hcx (by omega)).mono ?_
            rintro e w4 ⟨v4, rfl, ho4, hb4⟩
            have HO4 := Lib.hid (own_weaken ho4 HBk.out.size)
            have HB4 := Lib.hid (HBk.out.trans (hb4.mono HBk.out.size))
            clear ho4 hb4
            go_wp2_with fail
            go_roundw
            case rel => exact ⟨k + 1, v4, by omega, by push_cast; rfl, rfl, by rw [HS.out]; exact HO4.out, HB4.out⟩
            case measure => simp [intOf]; omega
          by_cases h3 : kk = 3
          · subst h3
            obtain rfl : d = 0 := by have := okF_iff.1 HFK.out; simp only at this; omega
            have HS := Lib.hid (show doA (l.take (k + 1)) b = pkL x by rw [HTK.out]; simp [do1])
            clear HTK
            go_wp2_with fail
            refine (refPack_any Ax cx x _ HX.out hcx (by omega)).mono ?_
            rintro e w4 ⟨v4, rfl, ho4, hb4⟩
            have HO4 := Lib.hid (own_weaken ho4 HBk.out.size)
            have HB4 := Lib.hid (HBk.out.trans (hb4.mono HBk.out.size))
            clear ho4 hb4
            go_wp2_with fail
            go_roundw
            case rel => exact ⟨k + 1, v4, by omega, by push_cast; rfl, rfl, by rw [HS.out]; exact HO4.out, HB4.out⟩
            case measure => simp [intOf]; omega
          have h4 : kk = 4 := by have := okF_iff.1 HFK.out; simp only at this; omega
          subst h4
          obtain rfl : d = 0 := by have := okF_iff.1 HFK.out; simp only at this; omega
          have HS := Lib.hid (show doA (l.take (k + 1)) b = sealF x by rw [HTK.out]; simp [do1])
          clear HTK
          go_wp2_with fail
          refine (refSum_any Ax cx x _ HX.out HXB.out (by omega)).mono ?_
          rintro e w4 ⟨v4, rfl, ho4, hb4⟩
          obtain ⟨A4, c4, rfl, _, hr4, _⟩ := own_split ho4
          have hr4' : Rd w4 A4 (dig 4 true (fletS x)) := hr4
          have HR4 := Lib.hid hr4'
          have HO4 := Lib.hid (own_step HOX.out hb4)
          have HB4 := Lib.hid (HBk.out.trans (hb4.mono HBk.out.size))
          clear ho4 hb4 hr4 hr4'
          go_wp2_with ((with_reducible refine gate_builtin (b := .append) (xs := #[.tmp 64, .tmp 66]) rfl ?_); refine app w.heap.size rfl _ _ rfl (.slice Ax x.length cx) x (dig 4 true (fletS x)) A4 c4 rfl rfl HO4.out HR4.out HB4.out.size (by rw [dig_length]; omega) ?_)
          intro v5 w5 h5 g5
          have HO5 := Lib.hid h5
          have HB5 := Lib.hid (HB4.out.grown g5 HB4.out.size (fun k hk => own_base HO4.out k hk))
          clear h5 g5
          go_wp2_with fail
          go_roundw
          case rel => exact ⟨k + 1, v5, by omega, by push_cast; rfl, rfl, by rw [HS.out]; exact HO5.out, HB5.out⟩
          case measure => simp [intOf]; omega
        · have hkl : k = l.length := by omega
          subst hkl
          have ho := HOk.out
          rw [List.take_length, ← HAL.out] at ho
          have HO' := Lib.hid ho
          clear ho
          go_wp2_with fail
          go_ret2
          exact ⟨_, ret2 HE.out.symm, HO'.out, HBk.out⟩
  · have HE := Lib.hid (show apE l b = fck l by unfold apE; rw [if_pos hck])
    have HL := Lib.hid (show apL l b = [] by unfold apL; rw [HE.out, if_pos hck])
    obtain ⟨ck, hk⟩ : ∃ ck, ck = fck l := ⟨_, rfl⟩
    rw [← hk] at hck HE
    have HK := Lib.hid hk
    clear hk
    go_enter Try.func15, Try.ntmps15
    go_wp2_with (go_at_call 11; refine (refCheck_any A c l w HR.out).mono ?_; rintro e w1 ⟨rfl, rfl⟩; rw [← HK.out])
    go_ret2
    exact ⟨_, ret2 HE.out.symm, by rw [HL.out]; exact World.ownsRow_nil _ _ _ _, Below.refl _ _⟩
end Go.Proofs.Ytdfpikimeihefaa
