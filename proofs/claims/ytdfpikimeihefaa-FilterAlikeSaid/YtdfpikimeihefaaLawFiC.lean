/-
  FilterBack: the walk. No premise.
-/
import Derived.Test.YtdfpikimeihefaaLawFiB
namespace Go.Proofs.Ytdfpikimeihefaa
open Go.RowKit Go.Proofs.YtdfpikimeihefaaW.PrintWords

theorem apE_zero {l : List Fl} {b : List Int} (h : apE l b = 0) : fck l = 0 ∧ b.length ≤ 4096 ∧ apL l b = doA l b := by
  have h2 : apL l b = doA l b := by unfold apL; rw [if_neg (by rw [h]; decide)]
  unfold apE at h
  split at h
  · next h3 => exact absurd h h3
  · next h3 =>
    split at h
    · cases h
    · exact ⟨Decidable.not_not.1 h3, by omega, h2⟩
theorem fck_all {l : List Fl} (h : fck l = 0) : l.all okF = true := by
  unfold fck at h
  split at h
  · cases h
  split at h
  · next h2 => exact h2
  · cases h
theorem ud_back {l : List Fl} {b : List Int} (h : fck l = 0) (hb : Bts b) (hl : b.length ≤ 4096) (n : Int) (h0 : 0 ≤ n) (h1 : n ≤ 4096) : udR l (doA l b) n = if (b.length : Int) = n then (b, 0) else ([], 5) := by
  have h4 := fck_few h
  unfold udR
  rw [if_neg (by rw [h]; decide), if_neg (by omega), und_doA l b (fck_all h) hb (by omega)]
  unfold fin
  rw [if_pos rfl]
theorem apE_bad {l : List Fl} {b : List Int} (h : apE l b ≠ 0) : apL l b = [] ∧ (4096 < b.length ∨ fck l = apE l b) := by
  refine ⟨by unfold apL; rw [if_pos h], ?_⟩
  unfold apE at h ⊢
  split
  · exact .inr rfl
  · next h3 =>
    rw [if_neg h3] at h
    split at h
    · next h4 => exact .inl h4
    · exact absurd rfl h
set_option maxHeartbeats 3200000 in
theorem filterBack_walk (A : Option Addr) (c : Nat) (l : List Fl) (B : Option Addr) (cb : Nat) (b : List Int) (w : World) (hr : Fls w A l) (hrb : ReadsInt w .u8 B b.length b) (hw : ∀ x ∈ b, (Lit.int .u8 x).wf = true) (_ : b.length ≤ cb) (hy : b.length * 1 ≤ 140737488351232) :
    Calls Try.prog 6 #[.slice A l.length c, .slice B b.length cb] w fun e w' => e = .returned (.bool true) ∧ Below w.heap.size w w' := by
  have HR := Lib.hid hr
  have HRB := Lib.hid (show Rd w B b from hrb)
  have HBt := Lib.hid (wf_bts' hw)
  clear hr hrb hw
  by_cases he : apE l b = 0
  · obtain ⟨hck, hb4, hxl⟩ := apE_zero he
    have HU := Lib.hid (fun n h0 h1 => ud_back hck HBt.out hb4 n h0 h1)
    have hlen := doA_length l b
    have hf4 := fck_few hck
    have hXb := doA_bts l HBt.out
    obtain ⟨X, hX⟩ : ∃ X, X = doA l b := ⟨_, rfl⟩
    rw [← hX] at HU hlen hXb hxl
    have HXB := Lib.hid hXb
    have HXL := Lib.hid hxl
    have HE := Lib.hid he
    have hXl : X.length ≤ 100000 := by omega
    have HU1 := Lib.hid (show udR l X (b.length : Int) = (b, 0) by rw [HU.out _ (by omega) (by omega), if_pos rfl])
    have hz : (strOfNums b).size ≤ 9223372036854775807 := by rw [strOfNums_size]; omega
    clear hX hXb hxl he hlen
    by_cases hb6 : b.length = 4096
    · have HB6 := Lib.hid hb6
      clear hb6
      go_enter Try.func6, Try.ntmps6
      go_wp2_with fail
      refine (apply_any A c l B cb b w HR.out HRB.out HBt.out (by omega)).mono ?_
      rintro e w1 ⟨v, rfl, ho, hb⟩
      rw [HE.out]
      rw [HXL.out] at ho
      obtain ⟨A1, c1, rfl, _, hr1, _⟩ := own_split ho
      have hr1' : Rd w1 A1 X := hr1
      have HR1 := Lib.hid hr1'
      have HB1 := Lib.hid hb
      clear ho hb hr1 hr1'
      go_wp2_with fail
      refine (undo_any A c l A1 c1 X (b.length : Int) w1 (HR.out.below HB1.out) HR1.out HXB.out hXl).mono ?_
      rintro e w2 ⟨v2, rfl, ho2, hb2⟩
      rw [HU1.out]
      rw [HU1.out] at ho2
      have hcy := own_str (show Own w2 w1.heap.size v2 b from ho2)
      have hcl : (convert 28 9 (.slice B b.length cb)).run Try.prog w2 = .ok (.string (strOfNums b)) w2 := string_of_reads Try.underlying28 Try.underlying5 Try.underlying9 (show ReadsInt w2 .u8 B b.length b from HRB.out.below (HB1.out.trans (hb2.mono HB1.out.size)))
      have HB2 := Lib.hid (HB1.out.trans (hb2.mono HB1.out.size))
      have HR2 := Lib.hid (show Rd w2 A1 X from HR1.out.below hb2)
      clear ho2 hb2
      have hb7 : decide ((b.length : Int) = 4096) = true := decide_eq_true (by have := HB6.out; omega)
      have hb8 : ((b.length : Int) == 4096) = true := by simp; have := HB6.out; omega
      go_wp2_with (go_at_call 12; refine (lives16 _).mono ?_; rintro e w4 ⟨rfl, hb4⟩)
      go_ret
      exact ⟨rfl, HB2.out.trans (hb4.mono HB2.out.size)⟩
    · have HU2 := Lib.hid (show udR l X ((b.length : Int) + 1) = ([], 5) by rw [HU.out _ (by omega) (by omega), if_neg (by omega)])
      go_enter Try.func6, Try.ntmps6
      go_wp2_with fail
      refine (apply_any A c l B cb b w HR.out HRB.out HBt.out (by omega)).mono ?_
      rintro e w1 ⟨v, rfl, ho, hb⟩
      rw [HE.out]
      rw [HXL.out] at ho
      obtain ⟨A1, c1, rfl, _, hr1, _⟩ := own_split ho
      have hr1' : Rd w1 A1 X := hr1
      have HR1 := Lib.hid hr1'
      have HB1 := Lib.hid hb
      clear ho hb hr1 hr1'
      go_wp2_with fail
      refine (undo_any A c l A1 c1 X (b.length : Int) w1 (HR.out.below HB1.out) HR1.out HXB.out hXl).mono ?_
      rintro e w2 ⟨v2, rfl, ho2, hb2⟩
      rw [HU1.out]
      rw [HU1.out] at ho2
      have hcy := own_str (show Own w2 w1.heap.size v2 b from ho2)
      have hcl : (convert 28 9 (.slice B b.length cb)).run Try.prog w2 = .ok (.string (strOfNums b)) w2 := string_of_reads Try.underlying28 Try.underlying5 Try.underlying9 (show ReadsInt w2 .u8 B b.length b from HRB.out.below (HB1.out.trans (hb2.mono HB1.out.size)))
      have HB2 := Lib.hid (HB1.out.trans (hb2.mono HB1.out.size))
      have HR2 := Lib.hid (show Rd w2 A1 X from HR1.out.below hb2)
      clear ho2 hb2
      go_wp2_with fail
      refine (undo_any A c l A1 c1 X ((b.length : Int) + 1) w2 (HR.out.below HB2.out) HR2.out HXB.out hXl).mono ?_
      rintro e w3 ⟨v3, rfl, ho3, hb3⟩
      rw [HU2.out]
      rw [HU2.out] at ho3
      obtain ⟨A3, c3, rfl, _, _, _⟩ := own_split ho3
      have HB3 := Lib.hid (HB2.out.trans (hb3.mono HB2.out.size))
      clear ho3 hb3 hcy hcl
      go_wp2_with (go_at_call 12; refine (lives16 _).mono ?_; rintro e w4 ⟨rfl, hb4⟩)
      go_ret
      exact ⟨rfl, HB3.out.trans (hb4.mono HB3.out.size)⟩
  · obtain ⟨hx, hor⟩ := apE_bad he
    obtain ⟨ee, hE⟩ : ∃ ee, ee = apE l b := ⟨_, rfl⟩
    rw [← hE] at he hor
    have HX := Lib.hid hx
    have HE := Lib.hid hE
    clear hx hE
    by_cases hbig : 4096 < b.length
    · clear hor
      go_enter Try.func6, Try.ntmps6
      go_wp2_with fail
      refine (apply_any A c l B cb b w HR.out HRB.out HBt.out (by omega)).mono ?_
      rintro e w1 ⟨v, rfl, ho, hb⟩
      rw [← HE.out]
      rw [HX.out] at ho
      obtain ⟨A1, c1, rfl, _, _, _⟩ := own_split ho
      have HB1 := Lib.hid hb
      clear ho hb
      go_wp2_with (go_at_call 12; refine (lives16 _).mono ?_; rintro e w2 ⟨rfl, hb2⟩)
      go_ret
      exact ⟨rfl, HB1.out.trans (hb2.mono HB1.out.size)⟩
    · have HCK := Lib.hid (show fck l = ee from hor.resolve_left hbig)
      clear hor
      go_enter Try.func6, Try.ntmps6
      go_wp2_with fail
      refine (apply_any A c l B cb b w HR.out HRB.out HBt.out (by omega)).mono ?_
      rintro e w1 ⟨v, rfl, ho, hb⟩
      rw [← HE.out]
      rw [HX.out] at ho
      obtain ⟨A1, c1, rfl, _, _, _⟩ := own_split ho
      have HB1 := Lib.hid hb
      clear ho hb
      go_wp2_with (first | (go_at_call 10; refine (check_any A c l w1 (HR.out.below HB1.out)).mono ?_; rintro e w5 ⟨rfl, hb5⟩; rw [HCK.out]; have HB5 := Lib.hid (HB1.out.trans (hb5.mono HB1.out.size)); clear hb5) | (go_at_call 12; refine (lives16 _).mono ?_; rintro e w2 ⟨rfl, hb2⟩))
      go_ret
      exact ⟨rfl, HB5.out.trans (hb2.mono HB5.out.size)⟩
end Go.Proofs.Ytdfpikimeihefaa
