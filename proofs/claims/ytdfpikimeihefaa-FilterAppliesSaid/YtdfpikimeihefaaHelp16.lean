/-
  What the statements of a package call beside the program: lent, kept, spoil. No premise.
-/
import Derived.Test.YtdfpikimeihefaaRef1
import Derived.Test.YtdfpikimeihefaaAddK
namespace Go.Proofs.Ytdfpikimeihefaa
open Go.RowKit Go.Proofs.YtdfpikimeihefaaW.PrintWords

set_option maxHeartbeats 800000 in
theorem lent_any (A : Option Addr) (c : Nat) (l : List Int) (w : World) (hr : Rd w A l) (hl : l.length + 1 ≤ 150000000000000) :
    Calls Try.prog 13 #[.slice A l.length c] w fun e w' => ∃ g cap, e = .returned (.slice (some ⟨g, 0, none⟩) l.length cap) ∧ Own w' w.heap.size (.slice (some ⟨g, 0, none⟩) (l.length + 1) cap) (l ++ [90]) ∧ Below w.heap.size w w' := by
  have HR := Lib.hid hr
  clear hr
  have HO0 := Lib.hid (own_empty w w.heap.size (Nat.le_refl _))
  have HB0 := Lib.hid ((Below.refl w.heap.size w).alloc (Nat.le_refl _) (.cells #[] 5))
  go_enter Try.func13, Try.ntmps13
  go_wp2_with (first | ((with_reducible refine gate_builtin (b := .append) (xs := #[.tmp 3, .tmp 4]) rfl ?_); refine app w.heap.size rfl _ _ rfl (.slice (some ⟨w.heap.size, 0, none⟩) 0 0) [] l A c rfl rfl HO0.out (HR.out.below HB0.out) (by simp) (by simp; omega) ?_; intro v1 w1 h1 h2; have H1 := Lib.hid h1; have H2 := Lib.hid (HB0.out.grown h2 (by simp) (by simp [Value.ownBlock])); clear h1 h2) | ((with_reducible refine gate_builtin (b := .append) (xs := #[.tmp 5, .tmp 6]) rfl ?_); refine app1 w.heap.size rfl _ _ rfl v1 ([] ++ l) 90 rfl rfl H1.out H2.out.size (by simp; omega) ?_))
  intro v2 w2 h4 h5
  rcases own_cases h4 with ⟨_, h⟩ | ⟨g, cap, rfl⟩
  · simp at h
  have H4 := Lib.hid h4
  have H5 := Lib.hid (H2.out.grown h5 H2.out.size (fun k hk => own_base H1.out k hk))
  have hcap : l.length + 1 ≤ cap := by have := (own_open h4).2.2.1; simpa using this
  clear h4 h5
  go_wp2_with fail
  go_ret
  refine ⟨g, cap, rfl, ?_, H5.out⟩
  have := H4.out
  simp only [List.length_append, List.length_singleton] at this
  exact this

theorem str_snoc (l : List Int) : strOfNums (l ++ [90]) = strOfNums l ++ (⟨#[90]⟩ : ByteArray) := by
  apply ByteArray.ext
  simp [strOfNums, ByteArray.data_append]

set_option maxHeartbeats 800000 in
theorem kept_any (A : Option Addr) (base g c cap : Nat) (l : List Int) (w : World) (hr : Rd w A l) (ho : Own w base (.slice (some ⟨g, 0, none⟩) (l.length + 1) cap) (l ++ [90])) (hl : l.length + 1 ≤ 150000000000000) :
    Calls Try.prog 16 #[.slice (some ⟨g, 0, none⟩) l.length cap, .slice A l.length c] w fun e w' => e = .returned (.bool true) ∧ ∃ m, w' = w.drewN m := by
  have hcap : l.length + 1 ≤ cap := by have := (own_open ho).2.2.1; simpa using this
  obtain ⟨A', c', hv, hrd⟩ := own_reads ho
  have hs1 : ∀ m, (convert 28 9 (.slice (some ⟨g, 0, none⟩) (l.length + 1) cap)).run Try.prog (w.drewN m) = .ok (.string (strOfNums l ++ (⟨#[90]⟩ : ByteArray))) (w.drewN m) := fun m => by
    rw [← str_snoc]
    injection hv with e1 e2 e3
    subst e1 e3
    have h : ReadsInt (w.drewN m) .u8 (some ⟨g, 0, none⟩) (l ++ [90]).length (l ++ [90]) := hrd
    rw [List.length_append, List.length_singleton] at h
    exact string_of_reads Try.underlying28 Try.underlying5 Try.underlying9 h
  have hs2 : ∀ m, (convert 28 9 (.slice A l.length c)).run Try.prog (w.drewN m) = .ok (.string (strOfNums l)) (w.drewN m) := fun m =>
    string_of_reads Try.underlying28 Try.underlying5 Try.underlying9 (show ReadsInt (w.drewN m) .u8 A l.length l from hr)
  have hz : (strOfNums l).size + 1 ≤ 9223372036854775807 := by rw [strOfNums_size]; omega
  clear hr ho hrd hv
  go_enter Try.func16, Try.ntmps16
  go_wp2_with fail
  go_quiet (fail)
  go_wp2_with fail
  go_ret
  exact ⟨retB (by simp), nq, rfl⟩

theorem kept_b (A : Option Addr) (base g c cap : Nat) (l : List Int) (w : World) (hr : Rd w A l) (ho : Own w base (.slice (some ⟨g, 0, none⟩) (l.length + 1) cap) (l ++ [90])) (hl : l.length + 1 ≤ 150000000000000) :
    Calls Try.prog 16 #[.slice (some ⟨g, 0, none⟩) l.length cap, .slice A l.length c] w fun e w' => e = .returned (.bool true) ∧ Below w.heap.size w w' :=
  (kept_any A base g c cap l w hr ho hl).mono fun _ _ ⟨h1, _, h2⟩ => ⟨h1, by rw [h2]; exact pw_below_drewN (Below.refl _ _) _⟩

theorem lent_rd {w : World} {base g cap : Nat} {l : List Int} (h : Own w base (.slice (some ⟨g, 0, none⟩) (l.length + 1) cap) (l ++ [90])) : Rd w (some ⟨g, 0, none⟩) l := by
  obtain ⟨A', c', hv, hrd⟩ := own_reads h
  injection hv with e1 e2 e3
  subst e1
  have := hrd.take_ l.length (by simp)
  rwa [List.take_left] at this
end Go.Proofs.Ytdfpikimeihefaa
