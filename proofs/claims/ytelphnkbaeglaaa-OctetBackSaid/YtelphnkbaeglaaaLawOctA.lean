/-
  OctetSigns: the walk. No premise.
-/
import Derived.Test.YtelphnkbaeglaaaRef3
import Derived.Test.YtelphnkbaeglaaaLive01
namespace Go.Proofs.Ytelphnkbaeglaaa
open Go.RowKit Go.Proofs.YtelphnkbaeglaaaW.PrintWords

theorem sgn_eq (u width : Int) (hu : 0 ≤ u) (hu2 : u < 18446744073709551616) : sgnG u width = sgnR u width := by
  unfold sgnG sgnR
  by_cases h : 1 ≤ width ∧ width ≤ 8 ∧ fitsB u width = true
  · rw [if_pos h, if_pos h]
    obtain ⟨h1, h2, h3⟩ := h
    have hc : width = 8 ∨ width = 7 ∨ width = 6 ∨ width = 5 ∨ width = 4 ∨ width = 3 ∨ width = 2 ∨ width = 1 := by omega
    have hlt : ∀ n : Nat, n ≤ 7 → width = n → u < 2 ^ (8 * n) := fun n hn e => by subst e; exact fits_lt u n hn h3
    rcases hc with rfl | rfl | rfl | rfl | rfl | rfl | rfl | rfl
    · simp [wrap64, IntKind.wrap_u64]
      try omega
    · have := hlt 7 (by omega) rfl
      simp [wrap64, IntKind.wrap_u64] at this ⊢; omega
    · have := hlt 6 (by omega) rfl
      simp [wrap64, IntKind.wrap_u64] at this ⊢; omega
    · have := hlt 5 (by omega) rfl
      simp [wrap64, IntKind.wrap_u64] at this ⊢; omega
    · have := hlt 4 (by omega) rfl
      simp [wrap64, IntKind.wrap_u64] at this ⊢; omega
    · have := hlt 3 (by omega) rfl
      simp [wrap64, IntKind.wrap_u64] at this ⊢; omega
    · have := hlt 2 (by omega) rfl
      simp [wrap64, IntKind.wrap_u64] at this ⊢; omega
    · have := hlt 1 (by omega) rfl
      simp [wrap64, IntKind.wrap_u64] at this ⊢; omega
  · rw [if_neg h, if_neg h]

theorem wf_u64 {a : Int} (h : (Lit.int .u64 a).wf = true) : 0 ≤ a ∧ a < 18446744073709551616 := by
  simp [Lit.wf, IntKind.min, IntKind.max, IntKind.signed, IntKind.bits] at h
  omega
theorem wf_i64 {a : Int} (h : (Lit.int .i64 a).wf = true) : -9223372036854775808 ≤ a ∧ a ≤ 9223372036854775807 := by
  simp [Lit.wf, IntKind.min, IntKind.max, IntKind.signed, IntKind.bits] at h
  omega
theorem wf_bts {l : List Int} (h : ∀ x ∈ l, (Lit.int .u8 x).wf = true) : Bts l := fun x hx => by
  have := h x hx
  simp [Lit.wf, IntKind.min, IntKind.max, IntKind.signed, IntKind.bits] at this
  omega

set_option maxHeartbeats 800000 in
theorem octetSigns_walk (u width : Int) (w : World) (hwu : (Lit.int .u64 u).wf = true) (_hww : (Lit.int .i64 width).wf = true) :
    Calls Try.prog 4 #[.int .u64 u, .int .i64 width] w fun e w' => e = .returned (.bool true) ∧ Below w.heap.size w w' := by
  obtain ⟨hu, hu2⟩ := wf_u64 hwu
  clear hwu _hww
  have HE := Lib.hid (sgn_eq u width hu hu2)
  go_enter Try.func4, Try.ntmps4
  go_wp2_with (first | (go_at_call 16; refine (signed_any u width _ hu hu2).mono ?_; rintro e w2 ⟨rfl, rfl⟩; rw [HE.out]) | (go_at_call 17; refine (refSigned_any u width _ hu hu2).mono ?_; rintro e w2 ⟨rfl, rfl⟩) | (go_at_call 15; refine (lives01 _).mono ?_; rintro e w3 ⟨rfl, hb⟩))
  go_ret
  exact ⟨rfl, hb⟩
end Go.Proofs.Ytelphnkbaeglaaa
