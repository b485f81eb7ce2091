/-
  slabvaultref15.Pack. No premise.
-/
import Derived.Test.YtdfpikimeihefaaMat6
namespace Go.Proofs.Ytdfpikimeihefaa
open Go.RowKit Go.Proofs.YtdfpikimeihefaaW.PrintWords

set_option maxRecDepth 100000 in
set_option maxHeartbeats 1600000 in
theorem refPack_any (A : Option Addr) (c : Nat) (l : List Int) (w : World) (hr : Rd w A l) (hc : l.length ≤ c) (hl : l.length ≤ 149000000000000) :
    Calls Try.prog 24 #[.slice A l.length c] w (PkPost w l) := by
  have HR := Lib.hid hr
  clear hr
  by_cases hbig : 65536 < l.length
  · have HP := Lib.hid (pk_big hbig)
    go_enter Try.func24, Try.ntmps24
    go_wp2_with fail
    go_ret2
    exact ⟨.slice none 0 0, pair_ret HP.out.1.symm, by rw [HP.out.2]; exact World.ownsRow_nil _ _ _ _, Below.refl _ _⟩
  have hsm : l.length ≤ 65536 := by omega
  by_cases hsh : (tkL l).length < l.length
  · have HP1 := Lib.hid (fun h => pk_short hbig (l := l) h)
    have HP2 := Lib.hid (fun h => pk_plain hbig (l := l) h)
    obtain ⟨tk, htk⟩ : ∃ tk, tk = tkL l := ⟨_, rfl⟩
    rw [← htk] at hsh HP1 HP2
    have HTK := Lib.hid htk
    clear htk
    go_enter Try.func24, Try.ntmps24
    go_wp2_with fail
    refine (refTokens_any A c l w HR.out hc (by omega)).mono ?_
    rintro e w1 ⟨v1, rfl, ho1, hb1⟩
    rw [← HTK.out] at ho1
    obtain ⟨A1, c1, rfl, hr1⟩ := own_reads ho1
    have HR1 := Lib.hid (show Rd w1 A1 tk from hr1)
    have HB1 := Lib.hid hb1
    clear ho1 hb1 hr1
    have HO0 := Lib.hid (fun x => show Own (w1.alloc (.cells #[.int .u8 x] 5)) w.heap.size (.slice (some ⟨w1.heap.size, 0, none⟩) 1 1) [x] from own_lit w1 w.heap.size 5 .u8 [x] HB1.out.size (by simp))
    have HBa := Lib.hid (fun x => show Below w.heap.size w (w1.alloc (.cells #[.int .u8 x] 5)) from HB1.out.alloc HB1.out.size _)
    have HRb := Lib.hid (fun x => (HR1.out.below ((Below.refl w1.heap.size w1).alloc (Nat.le_refl _) (.cells #[.int .u8 x] 5))))
    go_wp2_with ((with_reducible refine gate_builtin (b := .append) (xs := #[.tmp 15, .tmp 16]) rfl ?_); refine app w.heap.size rfl _ _ rfl (.slice (some ⟨w1.heap.size, 0, none⟩) 1 1) [1] tk A1 c1 rfl rfl (HO0.out 1) (HRb.out 1) (HBa.out 1).size (by simp; omega) ?_; intro v2 w2 h2 g2; have H2 := Lib.hid h2; have HB2 := Lib.hid ((HBa.out 1).grown g2 (HBa.out 1).size (fun k e => own_base (HO0.out 1) k e)); clear h2 g2)
    go_ret2
    exact ⟨_, pair_ret (HP1.out hsh).1.symm, by rw [(HP1.out hsh).2]; exact H2.out, HB2.out⟩
  · have HP1 := Lib.hid (fun h => pk_short hbig (l := l) h)
    have HP2 := Lib.hid (fun h => pk_plain hbig (l := l) h)
    obtain ⟨tk, htk⟩ : ∃ tk, tk = tkL l := ⟨_, rfl⟩
    rw [← htk] at hsh HP1 HP2
    have HTK := Lib.hid htk
    clear htk
    go_enter Try.func24, Try.ntmps24
    go_wp2_with fail
    refine (refTokens_any A c l w HR.out hc (by omega)).mono ?_
    rintro e w1 ⟨v1, rfl, ho1, hb1⟩
    rw [← HTK.out] at ho1
    obtain ⟨A1, c1, rfl, hr1⟩ := own_reads ho1
    have HR1 := Lib.hid (show Rd w1 A1 tk from hr1)
    have HB1 := Lib.hid hb1
    clear ho1 hb1 hr1
    have HO0 := Lib.hid (fun x => show Own (w1.alloc (.cells #[.int .u8 x] 5)) w.heap.size (.slice (some ⟨w1.heap.size, 0, none⟩) 1 1) [x] from own_lit w1 w.heap.size 5 .u8 [x] HB1.out.size (by simp))
    have HBa := Lib.hid (fun x => show Below w.heap.size w (w1.alloc (.cells #[.int .u8 x] 5)) from HB1.out.alloc HB1.out.size _)
    have HRb := Lib.hid (fun x => (HR1.out.below ((Below.refl w1.heap.size w1).alloc (Nat.le_refl _) (.cells #[.int .u8 x] 5))))
    go_wp2_with ((with_reducible refine gate_builtin (b := .append) (xs := #[.tmp 18, .tmp 19]) rfl ?_); refine app w.heap.size rfl _ _ rfl (.slice (some ⟨w1.heap.size, 0, none⟩) 1 1) [0] l A c rfl rfl (HO0.out 0) (HR.out.below (HBa.out 0)) (HBa.out 0).size (by simp; omega) ?_; intro v2 w2 h2 g2; have H2 := Lib.hid h2; have HB2 := Lib.hid ((HBa.out 0).grown g2 (HBa.out 0).size (fun k e => own_base (HO0.out 0) k e)); clear h2 g2)
    go_ret2
    exact ⟨_, pair_ret (HP2.out hsh).1.symm, by rw [(HP2.out hsh).2]; exact H2.out, HB2.out⟩
end Go.Proofs.Ytdfpikimeihefaa
