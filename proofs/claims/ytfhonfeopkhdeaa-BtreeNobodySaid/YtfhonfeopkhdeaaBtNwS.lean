/-
  A new tree. No premise.
-/
import Derived.Test.YtfhonfeopkhdeaaBtPtS
namespace Go.Proofs.Ytfhonfeopkhdeaa.BS
open Go.RowKit Go.Proofs.YtfhonfeopkhdeaaW.PrintWords

theorem Put_any (base p m h : Nat) (t : BT Ky h) (k : Ky) (v : Int) (w : World) (o : Nat → Nat) (M : Nat → Option (Nf Ky)) (b : Bm base w o p m h t M) (hm : 3 ≤ m ∧ m ≤ 64) (hk : KRd w k) (hlen : (toL h t).length ≤ 65536) :
    Calls Try.prog 22 #[nv p, kv k, .int .u64 v] w (PutTop base w o p m h t k v) := by
  by_cases hg : getL kct k (toL h t) = none ∧ (toL h t).length = 65536
  · exact Put_full base p m h t k v w o M b hm hk hg.1 hg.2
  · exact Put_go base p m h t k v w o M b hm hk _ rfl (fun e hl => hg ⟨e, hl⟩) hlen
set_option maxHeartbeats 1000000 in
theorem made_bad (m : Int) (w : World) (h : ¬ (3 ≤ m ∧ m ≤ 64)) : Calls Try.prog 21 #[.int .i64 m] w fun e w' => e = .returned (.pointer none) ∧ w' = w := by
  have hmade : Calls Try.prog 50 #[.int .i64 m, .func (.func 11) #[] #[], .func (.func 51) #[] #[]] w fun e w' => e = .returned (.pointer none) ∧ w' = w := by
    by_cases h3 : m < 3
    · go_enter Try.func50, Try.ntmps50
      go_wp2_with fail
      go_ret
      exact ⟨rfl, rfl⟩
    · have h4 : 64 < m := by omega
      go_enter Try.func50, Try.ntmps50
      go_wp2_with fail
      go_ret
      exact ⟨rfl, rfl⟩
  go_enter Try.func21, Try.ntmps21
  go_wp2_with (go_at_call 50; refine hmade.mono ?_; rintro e w' ⟨rfl, e2⟩; rw [e2]; clear e2 w')
  go_ret
  exact ⟨rfl, rfl⟩
/-- The world behind a new tree. -/
def newW (w : World) (m : Nat) : World := (w.alloc (.cells #[.slice none 0 0, .slice none 0 0, .slice none 0 0] 89)).alloc (.cells #[.int .i64 m, .int .i64 0, .func (.func 11) #[] #[], .func (.func 51) #[] #[], .pointer (some ⟨w.heap.size, 0, none⟩)] 63)
set_option maxHeartbeats 1000000 in
theorem made_ok (m : Nat) (w : World) (h : 3 ≤ m ∧ m ≤ 64) : Calls Try.prog 21 #[.int .i64 m] w fun e w' => e = .returned (.pointer (some ⟨w.heap.size + 1, 0, none⟩)) ∧ w' = newW w m := by
  have h1 : ¬ (m : Int) < 3 := by omega
  have h2 : ¬ 64 < (m : Int) := by omega
  have hmade : Calls Try.prog 50 #[.int .i64 m, .func (.func 11) #[] #[], .func (.func 51) #[] #[]] w fun e w' => e = .returned (.pointer (some ⟨w.heap.size + 1, 0, none⟩)) ∧ w' = newW w m := by
    go_enter Try.func50, Try.ntmps50
    go_wp2_with fail
    go_ret
    exact ⟨rfl, rfl⟩
  go_enter Try.func21, Try.ntmps21
  go_wp2_with (go_at_call 50; refine hmade.mono ?_; rintro e w' ⟨rfl, e2⟩; rw [e2]; clear e2 w')
  go_ret
  exact ⟨rfl, rfl⟩
/-- The tags, a tree having been made. -/
def tgm (o : Nat → Nat) (n : Nat) : Nat → Nat := fun b => if b = n then n + 2 else if b = n + 1 then n + 3 else o b
theorem new_bm {w : World} {o : Nat → Nat} {m : Nat} (hf : Fb o w) (hm : 3 ≤ m ∧ m ≤ 64) :
    Bm w.heap.size (newW w m) (tgm o w.heap.size) (w.heap.size + 1) m 0 (⟨w.heap.size, [], []⟩ : BT Ky 0) (setM (fun _ => none) w.heap.size ⟨[], [], []⟩) ∧ UpB w.heap.size o (tgm o w.heap.size) w (newW w m) := by
  have hs1 : (w.alloc (.cells #[.slice none 0 0, .slice none 0 0, .slice none 0 0] 89)).heap.size = w.heap.size + 1 := by simp
  have hs2 : (newW w m).heap.size = w.heap.size + 2 := by unfold newW; simp
  have hB : Below w.heap.size w (newW w m) := ((Below.refl _ _).alloc (Nat.le_refl _) _).alloc (by omega) _
  have hn : (newW w m).heap[w.heap.size]? = some (.cells #[.slice none 0 0, .slice none 0 0, .slice none 0 0] 89 (0, 0)) := by
    unfold newW
    rw [Below.heap_alloc _ _ _ (by omega)]
    exact top_blk w _ _
  have hp : (newW w m).heap[w.heap.size + 1]? = some (.cells #[.int .i64 m, .int .i64 (0 : Nat), .func (.func 11) #[] #[], .func (.func 51) #[] #[], nv w.heap.size] 63 (0, 0)) := by
    have h := top_blk (w.alloc (.cells #[.slice none 0 0, .slice none 0 0, .slice none 0 0] 89)) #[.int .i64 m, .int .i64 0, .func (.func 11) #[] #[], .func (.func 51) #[] #[], .pointer (some ⟨w.heap.size, 0, none⟩)] 63
    rw [hs1] at h
    exact h
  have t1 : tgm o w.heap.size w.heap.size = w.heap.size + 2 := if_pos rfl
  have t2 : tgm o w.heap.size (w.heap.size + 1) = w.heap.size + 1 + 2 := by unfold tgm; rw [if_neg (by omega), if_pos rfl]
  have t3 : ∀ b, b ≠ w.heap.size → b ≠ w.heap.size + 1 → tgm o w.heap.size b = o b := fun b h1 h2 => by unfold tgm; rw [if_neg h1, if_neg h2]
  have hfb : Fb (tgm o w.heap.size) (newW w m) := ⟨fun b hb => by
    rw [hs2] at hb
    rw [t3 b (by omega) (by omega)]
    exact hf.end_ b (by omega), fun b => by
    rw [hs2]
    have := hf.le b
    by_cases h1 : b = w.heap.size
    · rw [h1, t1]; omega
    · by_cases h2 : b = w.heap.size + 1
      · rw [h2, t2]; omega
      · rw [t3 b h1 h2]; omega⟩
  refine ⟨⟨⟨hp, t2⟩, hfb, ⟨fun n F hF => ?_, setM_same _ _ _, ⟨Nat.zero_le _, Nat.zero_le _⟩, by omega, List.Pairwise.nil⟩, List.pairwise_singleton _ _, by omega, fun n hn => ?_⟩, ⟨hB.os, hB.tape, hB.output, hB.size, fun b hb _ => hB.block b hb, fun b hb => t3 b (by omega) (by omega), hfb⟩⟩
  · by_cases e : n = w.heap.size
    · subst e
      rw [setM_same] at hF
      cases hF
      exact ⟨_, _, _, ⟨hn, t1, Rw.nil _ _, Rw.nil _ _, Rw.nil _ _, (fun g e => by cases e), (fun g e => by cases e), (fun g e => by cases e), fun k hk => by cases hk⟩⟩
    · rw [setM_other _ _ e] at hF
      cases hF
  · rw [List.mem_singleton.1 hn]
    exact Nat.le_refl _
end Go.Proofs.Ytfhonfeopkhdeaa.BS
