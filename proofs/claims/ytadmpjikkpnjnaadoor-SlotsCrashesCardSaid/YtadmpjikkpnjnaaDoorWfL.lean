/-
  Numbers within their kind; a lent row's capacity. No premise.
-/
import Derived.Test.YtadmpjikkpnjnaaDoorOct5
namespace Go.Proofs.YtadmpjikkpnjnaaDoor
open Go.RowKit Go.Proofs.YtadmpjikkpnjnaaDoorW.PrintWords

theorem wf_i64' {a : Int} (h : (Lit.int .i64 a).wf = true) : -9223372036854775808 ≤ a ∧ a ≤ 9223372036854775807 := by
  simp [Lit.wf, IntKind.min, IntKind.max, IntKind.signed, IntKind.bits] at h
  omega
theorem wf_u64' {a : Int} (h : (Lit.int .u64 a).wf = true) : 0 ≤ a ∧ a < 18446744073709551616 := by
  simp [Lit.wf, IntKind.min, IntKind.max, IntKind.signed, IntKind.bits] at h
  omega
theorem wf_u8' {a : Int} (h : (Lit.int .u8 a).wf = true) : 0 ≤ a ∧ a ≤ 255 := by
  simp [Lit.wf, IntKind.min, IntKind.max, IntKind.signed, IntKind.bits] at h
  omega
theorem wf_bts' {l : List Int} (h : ∀ x ∈ l, (Lit.int .u8 x).wf = true) : Bts l := fun x hx => wf_u8' (h x hx)
theorem lent_cap {w : World} {base g cap n : Nat} {l : List Int} (h : Own w base (.slice (some ⟨g, 0, none⟩) (n + 1) cap) l) : n ≤ cap := by have := (own_open h).2.2.1; omega
/-- One's own row, told as a slice that is read. -/
theorem own_split {w : World} {base : Nat} {v : Value} {l : List Int} (h : Own w base v l) : ∃ A c, v = .slice A l.length c ∧ Own w base (.slice A l.length c) l ∧ Rd w A l ∧ l.length ≤ c := by
  obtain ⟨A, c, rfl, hr⟩ := own_reads h
  exact ⟨A, c, rfl, h, hr, own_le h⟩
theorem own_slice_ne {w : World} {base c : Nat} {A : Option Addr} {l : List Int} (h : Own w base (.slice A l.length c) l) (hl : 0 < l.length) : ∃ g, A = some ⟨g, 0, none⟩ := by
  rcases own_cases h with ⟨_, e⟩ | ⟨g, cap, e⟩
  · rw [e] at hl; simp at hl
  · injection e with e1 e2 e3
    exact ⟨g, e1⟩
end Go.Proofs.YtadmpjikkpnjnaaDoor
