/-
  FilterChecks: the walk. No premise.
-/
import Derived.Test.YtdfpikimeihefaaLive16
namespace Go.Proofs.Ytdfpikimeihefaa
open Go.RowKit Go.Proofs.YtdfpikimeihefaaW.PrintWords

set_option maxHeartbeats 800000 in
theorem filterChecks_walk (A : Option Addr) (c : Nat) (l : List Fl) (w : World) (hr : Fls w A l) :
    Calls Try.prog 3 #[.slice A l.length c] w fun e w' => e = .returned (.bool true) ∧ Below w.heap.size w w' := by
  have HR := Lib.hid hr
  obtain ⟨ck, hck⟩ : ∃ ck, ck = fck l := ⟨_, rfl⟩
  have HCK := Lib.hid hck
  clear hr hck
  go_enter Try.func3, Try.ntmps3
  go_wp2_with (first | (go_at_call 10; refine (check_any A c l _ HR.out).mono ?_; rintro e w1 ⟨rfl, hb1⟩; rw [← HCK.out]; have HB1 := Lib.hid hb1; clear hb1) | (go_at_call 11; refine (refCheck_any A c l _ (HR.out.below HB1.out)).mono ?_; rintro e w2 ⟨rfl, rfl⟩; rw [← HCK.out]) | (go_at_call 12; refine (lives16 _).mono ?_; rintro e w3 ⟨rfl, hb3⟩; have HB3 := Lib.hid (HB1.out.trans (hb3.mono HB1.out.size)); clear hb3))
  go_ret
  exact ⟨rfl, HB3.out⟩
end Go.Proofs.Ytdfpikimeihefaa
