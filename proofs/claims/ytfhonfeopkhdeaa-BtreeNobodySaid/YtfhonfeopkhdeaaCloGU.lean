/-
  slices.Clone of a part of a row that holds some. No premise.
-/
import Derived.Test.YtfhonfeopkhdeaaInsGU
namespace Go.Proofs.Ytfhonfeopkhdeaa
open Go.RowKit Go.Proofs.YtfhonfeopkhdeaaW.PrintWords

set_option maxRecDepth 100000 in
set_option maxHeartbeats 1000000 in
theorem cloU_any (ad : Addr) (c : Nat) (ys : List Value) (w : World) (hc : ∀ j u, ys[j]? = some u → w.cell? (ad.add j) = some u) (h0 : 0 < ys.length) (hl : ys.length ≤ 1000000) :
    Calls Try.prog 79 #[.slice (some ad) ys.length c] w fun e w' => ∃ v, e = .returned v ∧ Rw w' 38 v ys ∧ Below w.heap.size w w' ∧ ∀ g, v.ownBlock = some g → w.heap.size ≤ g := by
  obtain ⟨i0, hi', hz0, hz1, hz2⟩ := info_parts infoBU
  have hB0 : Below w.heap.size w (w.alloc (.cells #[] 38)) := (Below.refl _ _).alloc (Nat.le_refl _) _
  have happ := fun ty => run_append_arg_grows (P := Try.prog) (w.alloc (.cells #[] 38)) 51 ty 38 i0 (.int .u64 0) 1 8 Try.underlying51 hi' hz0 hz1 hz2 (by rfl) (by decide) ⟨w.heap.size, 0, none⟩ 0 0 [] rfl (fun j u hj => by simp at hj) ad ys.length c ys (by omega) (fun j u hj => by
    have h1 := hc j u hj
    rw [World.cell?_of_block (w := w)]
    · exact h1
    · refine hB0.block _ ?_
      by_cases hlt : (ad.add j).block < w.heap.size
      · exact hlt
      · rw [World.cell?, Array.getElem?_eq_none (by omega)] at h1
        cases h1) (by omega) (by unfold maxLen; omega) (by omega)
  obtain ⟨v', w', h1, h2, h3⟩ := happ 51
  have hB : Below w.heap.size w w' := hB0.grown h3 hB0.size (fun k e => by cases e)
  have hown : ∀ g, v'.ownBlock = some g → w.heap.size ≤ g := fun g hg => by
    have := (World.ownsRow.lt h2 g hg).1
    have h4 := hB0.size
    omega
  have hrw : Rw w' 38 v' ys := Rw.of_own h2
  have H1 := Lib.hid h1
  have HF := Lib.hid (show ∃ v, (Ending.returned v') = .returned v ∧ Rw w' 38 v ys ∧ Below w.heap.size w w' ∧ ∀ g, v.ownBlock = some g → w.heap.size ≤ g from ⟨_, rfl, hrw, hB, hown⟩)
  clear happ h1 h2 h3 hB hown hrw hc hB0
  have hn := fun W => Lib.run_eql_slice_nil (P := Try.prog) W 51 38 (some ad) ys.length c 0 0 Try.underlying51
  go_enter Try.func79, Try.ntmps79
  go_wp2_with (at_builtin; refine Lib.wpList_append_run _ rfl _ _ _ _ rfl _ _ rfl rfl _ _ H1.out ?_)
  go_ret
  exact HF.out
end Go.Proofs.Ytfhonfeopkhdeaa
