/-
  slabvaultref14.Shuffle, slabvaultref14.Unshuffle. No premise.
-/
import Derived.Test.YtadmpjikkpnjnaaDoorShf1
namespace Go.Proofs.YtadmpjikkpnjnaaDoor
open Go.RowKit Go.Proofs.YtadmpjikkpnjnaaDoorW.PrintWords

theorem cut_suf (A : Option Addr) (l : List Int) (c : Nat) (lo : Int) (h1 : 0 ≤ lo) (h2 : lo ≤ l.length) (hc : l.length ≤ c) :
    ∃ A', (∀ W : World, (Instr.slice 25 (.slice A l.length c) (some (.int .i64 lo)) none none).run Tryd.prog W = .ok (.slice A' (l.drop lo.toNat).length (c - lo.toNat)) W) ∧
      (∀ w, Rd w A l → Rd w A' (l.drop lo.toNat)) ∧ (l.drop lo.toNat).length ≤ c - lo.toNat := by
  obtain ⟨i0, hi', hz0, hz1, hz2⟩ := info_parts infoB
  obtain ⟨A', g1, g2, g3⟩ := print_drop_of (P := Tryd.prog) (Value.int .u8) (0 : Int) 25 5 .i64 Tryd.underlying25 hi' hz1 A c l lo h1 h2 hc
  exact ⟨A', g1, g2, g3⟩

end Go.Proofs.YtadmpjikkpnjnaaDoor
