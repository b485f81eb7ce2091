/-
  The references of layer 1 (slabvaultref01). No premise.
-/
import Derived.Test.YtadmpjikkpnjnaaDoorOct5
namespace Go.Proofs.YtadmpjikkpnjnaaDoor
open Go.RowKit Go.Proofs.YtadmpjikkpnjnaaDoorW.PrintWords

theorem retB {a b : Bool} (h : a = b) : Ending.returned (.bool a) = .returned (.bool b) := by rw [h]
theorem u64_div (x : Int) (h : 0 ≤ x) (h2 : x < 18446744073709551616) : IntKind.u64.wrap (x.tdiv 256) = x / 256 := by
  rw [IntKind.wrap_u64, Int.tdiv_eq_ediv_of_nonneg h]
  omega
set_option maxHeartbeats 800000 in
theorem refSwap_any (A : Option Addr) (c : Nat) (l : List Int) (w : World) (hr : Rd w A l) (hl : l.length ≤ 150000000000000) :
    Calls Tryd.prog 47 #[.slice A l.length c] w fun e w' => ∃ v, e = .returned v ∧ Own w' w.heap.size v l.reverse ∧ Below w.heap.size w w' := by
  have HR := Lib.hid hr
  clear hr
  go_enter Tryd.func47, Tryd.ntmps47
  go_wp2_with fail
  go_loopw [3, 4] (fun v i wr => ∃ k : Nat, k ≤ l.length ∧ i = .int .i64 ((l.length : Int) - 1 - k) ∧ Hid (Own wr w.heap.size v (l.reverse.take k)) ∧ Hid (Below w.heap.size w wr)) (fun _ i _ => ((intOf i) + 1).toNat)
  case atStart => exact ⟨0, by omega, by simp, World.ownsRow_nil _ _ _ _, Below.refl _ _⟩
  case round =>
    obtain ⟨k, hk, rfl, HO, HB⟩ := hrel
    by_cases hlt : k < l.length
    · obtain ⟨ad, rfl, hcc⟩ := HR.out.2.2 (by omega)
      have hc := pw_cell_below HB.out (hcc (l.length - 1 - k) (by omega))
      have hy : l.reverse.take (k + 1) = l.reverse.take k ++ [l.getD (l.length - 1 - k) 0] := by
        rw [List.take_add_one, List.getElem?_reverse hlt, List.getD_eq_getElem?_getD, List.getElem?_eq_getElem (show l.length - 1 - k < l.length by omega)]
        rfl
      generalize l.getD (l.length - 1 - k) 0 = y at hc hy
      have HY := Lib.hid hy
      clear hcc hy
      go_wp2_with (at_builtin; refine app1 w.heap.size rfl _ _ rfl u3 (l.reverse.take k) y rfl rfl HO.out HB.out.size ?_ ?_)
      · simp; omega
      intro v1 w1 h1 h2
      have H1 := Lib.hid h1
      have H2 := Lib.hid (HB.out.grown h2 HB.out.size (fun k hk => own_base HO.out k hk))
      clear h1 h2
      go_wp2_with fail
      go_roundw
      case rel => exact ⟨k + 1, by omega, by go_num, by rw [HY.out]; exact H1.out, H2.out⟩
      case measure => simp [intOf]; omega
    · go_wp2_with fail
      go_ret
      have h1 := HO.out
      rw [List.take_of_length_le (by simp; omega)] at h1
      exact ⟨_, rfl, h1, HB.out⟩
end Go.Proofs.YtadmpjikkpnjnaaDoor
