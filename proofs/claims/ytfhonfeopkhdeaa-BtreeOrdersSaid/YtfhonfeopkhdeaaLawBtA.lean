/-
  BtreeOrders: the walk. No premise.
-/
import Derived.Test.YtfhonfeopkhdeaaBtC1
import Derived.Test.YtfhonfeopkhdeaaBtL7
namespace Go.Proofs.Ytfhonfeopkhdeaa
open Go.RowKit Go.Proofs.YtfhonfeopkhdeaaW.PrintWords

set_option maxHeartbeats 1600000 in
theorem btreeOrders_walk (a b : ByteArray) (A : Option Addr) (ca : Nat) (x : List Int) (B : Option Addr) (cb : Nat) (y : List Int) (w : World) (ha : a.size ≤ 140737488351232) (hb : b.size ≤ 140737488351232)
    (hx : ReadsInt w .i64 A x.length x) (_wx : ∀ n ∈ x, (Lit.int .i64 n).wf = true) (_hcx : x.length ≤ ca) (lx : x.length * 8 ≤ 140737488351232) (hy : ReadsInt w .i64 B y.length y) (_wy : ∀ n ∈ y, (Lit.int .i64 n).wf = true) (_hcy : y.length ≤ cb) (ly : y.length * 8 ≤ 140737488351232) :
    Calls Try.prog 3 #[.string a, .string b, .slice A x.length ca, .slice B y.length cb] w fun e w' => e = .returned (.bool true) ∧ Below w.heap.size w w' := by
  clear _wx _wy _hcx _hcy
  have H1 := Lib.hid (refCmpNames_any a b w (by omega) (by omega))
  have H2 := fun m => Lib.hid (cmpCoords_any A B ca cb x y (w.drewN m) hx hy)
  have H3 := fun m => Lib.hid (refCmpCoords_any A B ca cb x y (w.drewN m) hx hy (by omega) (by omega))
  clear hx hy lx ly ha hb
  go_enter Try.func3, Try.ntmps3
  go_wp2_with fail
  refine (cmpNames_any a b _).mono ?_
  rintro e w1 ⟨rfl, e2⟩
  rw [e2]
  clear e2 w1
  go_wp2_with fail
  refine H1.out.mono ?_
  rintro e w1 ⟨rfl, m1, rfl⟩
  go_wp2_with fail
  refine (H2 _).out.mono ?_
  rintro e w1 ⟨rfl, e2⟩
  rw [e2]
  clear e2 w1
  go_wp2_with fail
  refine (H3 _).out.mono ?_
  rintro e w1 ⟨rfl, m2, e2⟩
  rw [e2, World.drewN_drewN]
  clear e2 w1
  go_wp2_with fail
  refine (BS.lives07 _).mono ?_
  rintro e w3 ⟨rfl, hb⟩
  go_wp2_with fail
  go_ret
  exact ⟨by simp, (BS.below_drewN w _).trans hb⟩
end Go.Proofs.Ytfhonfeopkhdeaa
