/-
  find, Get. No premise.
-/
import Derived.Test.YtfhonfeopkhdeaaBtMS
namespace Go.Proofs.Ytfhonfeopkhdeaa.BS
open Go.RowKit Go.Proofs.YtfhonfeopkhdeaaW.PrintWords

theorem TrAt.cells {w : World} {o : Nat → Nat} {p m sz q : Nat} (h : TrAt w o p m sz q) : w.cell? ⟨p, 0, none⟩ = some (.int .i64 m) ∧ w.cell? ⟨p, 1, none⟩ = some (.int .i64 sz) ∧ w.cell? ⟨p, 2, none⟩ = some (.func (.func 11) #[] #[]) ∧ w.cell? ⟨p, 3, none⟩ = some (.func (.func 51) #[] #[]) ∧ w.cell? ⟨p, 4, none⟩ = some (nv q) := by
  refine ⟨?_, ?_, ?_, ?_, ?_⟩ <;> rw [blk_cell h.blk] <;> rfl
theorem NdAt.cells {w : World} {o : Nat → Nat} {n : Nat} {vk vv vc : Value} {F : Nf Ky} (h : NdAt w o n vk vv vc F) : w.cell? ⟨n, 0, none⟩ = some vk ∧ w.cell? ⟨n, 1, none⟩ = some vv ∧ w.cell? ⟨n, 2, none⟩ = some vc := by
  refine ⟨?_, ?_, ?_⟩ <;> rw [blk_cell h.blk] <;> rfl
theorem search_at (A : Option Addr) (c : Nat) (l : List (Ky × Int)) (k : Ky) (w : World) (hr : Rw w 9 (.slice A l.length c) (ksV l)) (hl : l.length ≤ 1000000) (hs : SortedL kct l) (hk : KRd w k) (hkl : ∀ a ∈ l, KRd w a.1) {i : Nat} {is : Bool} (ha : At kct l k i is) :
    Calls Try.prog 75 #[.slice A l.length c, kv k, .func (.func 11) #[] #[]] w fun e w' => e = .returned (.tuple #[.int .i64 i, .bool is]) ∧ ∃ m, w' = w.drewN m := by
  refine (search_any A c l k w hr hl hs hk hkl).mono ?_
  rintro e w' ⟨i', is', rfl, ha', hw⟩
  obtain ⟨rfl, rfl⟩ := at_unique ha' ha
  exact ⟨rfl, hw⟩
set_option maxRecDepth 100000 in
set_option maxHeartbeats 1000000 in
theorem find_at (p m sz q n : Nat) (vk vv vc : Value) (its : List (Ky × Int)) (cs : List Nat) (k : Ky) (w : World) (o : Nat → Nat) (ht : TrAt w o p m sz q) (hn : NdAt w o n vk vv vc (nf its cs)) (hl : its.length ≤ 1000000) (hs : SortedL kct its) (hk : KRd w k) {i : Nat} {is : Bool} (ha : At kct its k i is) :
    Calls Try.prog 49 #[nv p, nv n, kv k] w fun e w' => e = .returned (.tuple #[.int .i64 i, .bool is]) ∧ ∃ m, w' = w.drewN m := by
  obtain ⟨_, _, c2, _, _⟩ := ht.cells
  obtain ⟨d0, _, _⟩ := hn.cells
  have hr := hn.rk
  rw [show (nf its cs).ks = its.map (·.1) from rfl, ksR_its] at hr
  have hkl : ∀ a ∈ its, KRd w a.1 := fun a ha => (hn.ok a.1 (List.mem_map_of_mem ha)).rd
  obtain ⟨A, c, rfl, _⟩ := hr.form
  rw [ksV_length] at d0 hr
  have HC := Lib.hid (fun m => search_at A c its k (w.drewN m) (show Rw (w.drewN m) _ _ _ from hr.keep fun _ _ _ => rfl) hl hs (hk.drewN m) (fun a ha => (hkl a ha).drewN m) ha)
  clear hr hn hs hkl ht
  unfold nv
  go_enter Try.func49, Try.ntmps49
  go_wp2_with fail
  go_quiet ((go_at_call 75; exact Calls.quiet_of (HC.out _)))
  go_wp2_with fail
  go_ret2
  exact ⟨rfl, _, rfl⟩
end Go.Proofs.Ytfhonfeopkhdeaa.BS
