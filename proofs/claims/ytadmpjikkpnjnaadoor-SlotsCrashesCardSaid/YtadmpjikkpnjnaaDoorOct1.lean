/-
  octet.digits, with the two functions that are handed to it. No premise.
-/
import Derived.Test.YtadmpjikkpnjnaaDoorOct0
namespace Go.Proofs.YtadmpjikkpnjnaaDoor
open Go.RowKit Go.Proofs.YtadmpjikkpnjnaaDoorW.PrintWords

def putk (cs : Array Value) (n width : Nat) (big : Bool) (u : Int) : Nat → Array Value
  | 0 => cs
  | k + 1 => (putk cs n width big u k).setIfInBounds (n + if big then width - 1 - k else k) (.int .u8 (u / 2 ^ (8 * k) % 256))
theorem putk_size (cs : Array Value) (n width : Nat) (big : Bool) (u : Int) (k : Nat) : (putk cs n width big u k).size = cs.size := by
  induction k with
  | zero => rfl
  | succ k ih => simp [putk, ih]

theorem set_grown (w : World) (g i : Nat) (u : Value) : w.grownBy (w.setCell ⟨g, i, none⟩ u) (some g) :=
  ⟨rfl, rfl, rfl, by simp [World.setCell], fun k _ hne => Below.heap_setCell _ _ _ _ (fun e => hne (by rw [e]))⟩

set_option maxHeartbeats 800000 in
theorem digits_put_ (b0 big : Bool) (hb0 : Hid (b0 = big)) (u : Int) (g n width c : Nat) (p : Addr) (cs : Array Value) (w : World) (hw : width ≤ 8) (hg : w.heap[g]? = some (.cells cs 5 (0, 0))) (hs : n + width ≤ cs.size) (hc : width ≤ c)
    (hp : w.cell? p = some (.int .u64 u)) (hpg : some p.block ≠ some g) :
    Calls Tryd.prog 44 #[.slice (some ⟨g, n, none⟩) width c, .bool big, .func (.func 45) #[] #[.pointer (some p)]] w fun e w' =>
      e = .returned (.tuple #[]) ∧ w'.heap[g]? = some (.cells (putk cs n width b0 u width) 5 (0, 0)) ∧ w.grownBy w' (some g) := by
  have HG := Lib.hid hg
  have HP := Lib.hid hp
  clear hg hp
  cases big
  all_goals
    go_enter Tryd.func44, Tryd.ntmps44
    go_wp2_with fail
    go_loopw [10] (fun i wr => ∃ k : Nat, k ≤ width ∧ i = .int .i64 k ∧ Hid (wr.heap[g]? = some (.cells (putk cs n width b0 u k) 5 (0, 0))) ∧ Hid (w.grownBy wr (some g))) (fun i _ => width - (intOf i).toNat)
    case atStart => exact ⟨0, by omega, rfl, HG.out, World.grownBy.refl _ _⟩
    case round =>
      obtain ⟨k, hk, rfl, HB, HGR⟩ := hrel
      by_cases hlt : k < width
      · go_wp2_with fail
        refine (put1_any u (8 * k) _ p wr (by omega) (by omega) (HGR.out.cell HP.out hpg) (cell_in HB.out (by rw [putk_size]; omega)) (blk_frozen HB.out _)).mono ?_
        rintro e w' ⟨rfl, rfl⟩
        go_wp2_with fail
        go_roundw
        case rel =>
          refine ⟨k + 1, by omega, by go_num, ?_, ?_⟩
          · have h := blk_set HB.out
            have hb := hb0.out
            show _ = _
            rw [h]
            subst hb
            rfl
          · exact HGR.out.trans (set_grown _ _ _ _)
        case measure => simp [intOf]; omega
      · go_wp2_with fail
        go_end0
        have : k = width := by omega
        subst this
        exact ⟨rfl, HB.out, HGR.out⟩
theorem digits_put (big : Bool) (u : Int) (g n width c : Nat) (p : Addr) (cs : Array Value) (w : World) (hw : width ≤ 8) (hg : w.heap[g]? = some (.cells cs 5 (0, 0))) (hs : n + width ≤ cs.size) (hc : width ≤ c)
    (hp : w.cell? p = some (.int .u64 u)) (hpg : some p.block ≠ some g) :
    Calls Tryd.prog 44 #[.slice (some ⟨g, n, none⟩) width c, .bool big, .func (.func 45) #[] #[.pointer (some p)]] w fun e w' =>
      e = .returned (.tuple #[]) ∧ w'.heap[g]? = some (.cells (putk cs n width big u width) 5 (0, 0)) ∧ w.grownBy w' (some g) :=
  digits_put_ big big rfl u g n width c p cs w hw hg hs hc hp hpg
end Go.Proofs.YtadmpjikkpnjnaaDoor
