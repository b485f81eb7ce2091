/-
  FilterBound: the walk. No premise.
-/
import Derived.Test.YtdfpikimeihefaaLive16
namespace Go.Proofs.Ytdfpikimeihefaa
open Go.RowKit Go.Proofs.YtdfpikimeihefaaW.PrintWords

theorem apL_bound (l : List Fl) (b : List Int) : (apL l b).length ≤ b.length + 16 ∧ (apE l b ≠ 0 → apL l b = []) := by
  by_cases h : apE l b = 0
  · refine ⟨?_, fun h2 => absurd h h2⟩
    unfold apL
    rw [if_neg (by rw [h]; decide)]
    have hck : fck l = 0 := by
      unfold apE at h
      split at h
      · next h2 => exact absurd h h2
      · next h2 => exact Decidable.not_not.1 h2
    have h4 := fck_few hck
    have := doA_length l b
    omega
  · unfold apL
    rw [if_pos h]
    exact ⟨Nat.zero_le _, fun _ => rfl⟩
set_option maxHeartbeats 1600000 in
theorem filterBound_walk (A : Option Addr) (c : Nat) (l : List Fl) (B : Option Addr) (cb : Nat) (b : List Int) (w : World) (hr : Fls w A l) (hrb : ReadsInt w .u8 B b.length b) (hw : ∀ x ∈ b, (Lit.int .u8 x).wf = true) (_ : b.length ≤ cb) (hy : b.length * 1 ≤ 140737488351232) :
    Calls Try.prog 7 #[.slice A l.length c, .slice B b.length cb] w fun e w' => e = .returned (.bool true) ∧ Below w.heap.size w w' := by
  have HR := Lib.hid hr
  have HRB := Lib.hid (show Rd w B b from hrb)
  have HBt := Lib.hid (wf_bts' hw)
  obtain ⟨hb1, hb2⟩ := apL_bound l b
  obtain ⟨X, hX⟩ : ∃ X, X = apL l b := ⟨_, rfl⟩
  obtain ⟨ee, hE⟩ : ∃ ee, ee = apE l b := ⟨_, rfl⟩
  rw [← hX] at hb1 hb2
  rw [← hE] at hb2
  have HX := Lib.hid hX
  have HE := Lib.hid hE
  clear hr hrb hw hX hE
  by_cases he : ee = 0
  · subst he
    clear hb2
    go_enter Try.func7, Try.ntmps7
    go_wp2_with fail
    refine (apply_any A c l B cb b w HR.out HRB.out HBt.out (by omega)).mono ?_
    rintro e w1 ⟨v, rfl, ho, hb⟩
    rw [← HE.out]
    rw [← HX.out] at ho
    obtain ⟨A1, c1, rfl, _, _, _⟩ := own_split ho
    have HB1 := Lib.hid hb
    clear ho hb
    go_wp2_with (go_at_call 12; refine (lives16 _).mono ?_; rintro e w2 ⟨rfl, hb2⟩)
    go_ret
    exact ⟨rfl, HB1.out.trans (hb2.mono HB1.out.size)⟩
  · have hx0 := hb2 he
    subst hx0
    clear hb1 hb2
    go_enter Try.func7, Try.ntmps7
    go_wp2_with fail
    refine (apply_any A c l B cb b w HR.out HRB.out HBt.out (by omega)).mono ?_
    rintro e w1 ⟨v, rfl, ho, hb⟩
    rw [← HE.out]
    rw [← HX.out] at ho
    obtain ⟨A1, c1, rfl, _, _, _⟩ := own_split ho
    have HB1 := Lib.hid hb
    clear ho hb
    go_wp2_with (go_at_call 12; refine (lives16 _).mono ?_; rintro e w2 ⟨rfl, hb2⟩)
    go_ret
    exact ⟨rfl, HB1.out.trans (hb2.mono HB1.out.size)⟩
end Go.Proofs.Ytdfpikimeihefaa
