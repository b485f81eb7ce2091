/-
  OctetRows: for every input the law returns true and each argument reads as it did. No premise.
-/
import Derived.Test.YtelphnkbaeglaaaRows
import Derived.Test.YtelphnkbaeglaaaLawOctF
import Derived.Test.YtelphnkbaeglaaaUp2
import Derived.WalkKit
import Derived.ProofKit
import Derived.OpenShut
import Derived.ShutString
import Derived.ChangeOld
import Derived.Below
import Derived.SizedLaws
import Derived.JoinedCond
import Derived.Deep.CondSized
import Derived.Test.YtelphnkbaeglaaaWSized
namespace Go.Proofs.Ytelphnkbaeglaaa.RowOctetRows
open Go.ChangeShapes Go.WideShapes Go.ChangeAt Go.RowKit Go.Proofs.Ytelphnkbaeglaaa
open Go.ChangeMaps (open_string shut_string)
theorem own : ownKnob Try.prog.godebug = none := by kernel_rfl
theorem laidOut : laidOutB Try.prog = true := by kernel_rfl
def IsRow (k : IntKind) (w : World) (a : Option Addr) (len cap : Nat) (zs : List Int) : Prop :=
  (a = none ∧ len = 0 ∧ cap = 0 ∧ zs = []) ∨
  ∃ x, a = some x ∧ len ≤ cap ∧ cap ≤ maxLen ∧ zs.length = cap ∧ (∀ i, i < zs.length → w.cell? (x.add i) = some (.int k (zs.getD i 0))) ∧ ∀ n ∈ zs, (Lit.int k n).wf = true
set_option maxRecDepth 100000 in
theorem lifted (os : Os) (started : os.Started) (H : Type) (enc : TypeId × Value → H) (F : Stop.Interp) :
    ReturnsInHanded {} Try.checked os 9 .any ((Rows.OpenSpec.upto Rows.octetRowsSpec).pre6 enc Try.prog Try.f9 Rows.octetRowsUptoRow.domain false) (((Rows.OpenSpec.upto Rows.octetRowsSpec).at F).post enc Try.prog Try.f9 false true false false) := by
  refine returnsInHanded_of_cond_sized (C := Try.checked) (s := (Rows.OpenSpec.upto Rows.octetRowsSpec)) (k := Rows.uptoSmall) rfl own started (by kernel_rfl) Try.func9
    (OpenSpec.witness (enc := enc) (C := Try.checked) (s := (Rows.OpenSpec.upto Rows.octetRowsSpec)) (k := Rows.uptoSmall) rfl false ⟨#[], #[.slice none 0 0], []⟩ 8 (by kernel_rfl) (by kernel_rfl) (by kernel_rfl) (x := ([.nil], [], [])) (by kernel_rfl) rfl (by kernel_rfl)) ?_
  intro W base args ds gs before hval0 hW hcnd hk hsz0 _
  have hcond : ∀ k, some Rows.uptoSmall = some k → k H (ds ++ gs) = true := fun k e => by injection e with e; subst e; exact hk
  have hsz : (DataW.weightsEach Try.prog (Try.f9.params.toList ++ Rows.octetRowsSpec.plain.varTypes Try.prog) (ds ++ gs)).all (· ≤ reachBytes) = true := hsz0
  have hval : ∀ (j : Nat) t v, Try.f9.params[j]? = some t → args[j]? = some v → Value.okWide Try.prog W .any base t v := hval0
  have hW' := hW
  obtain ⟨p, q, hA0, hV, rfl, hfz, hnd⟩ := hW
  have hA : DataW.TrodAll enc Try.prog W 0 (fun _ => true) true Try.f9.params.toList args.toList ds p := hA0
  rw [Try.params9] at hA hval hsz
  obtain ⟨v0, vs0, d0, ds0, p0, q0, hargs, rfl, rfl, h0, r0⟩ := trodAll_cons hA
  obtain ⟨rfl, rfl, rfl⟩ := trodAll_nil r0
  obtain rfl : args = #[v0] := by cases args; simp_all
  obtain ⟨rfl, rfl⟩ := trodVars_none hV
  obtain ⟨a0, len0, cap0, rfl⟩ := okWide_slice Try.underlying53 (hval 0 53 v0 rfl rfl)
  have k0 := h0
  have lt0 : ∀ x ∈ p0, x.block < W.heap.size := by obtain ⟨m, hm⟩ := k0; exact DataW.trod_lt m _ _ _ hm
  obtain ⟨ls0, ptr0, cp0, rfl, hr0, hn0, ht0⟩ : ∃ (ls : List (List Int)) (ptr : Nat → Option Addr) (cp : Nat → Nat), len0 = ls.length ∧ RowsAt W a0 ls ptr cp ∧ ls.length ≤ 1048576 ∧ ls.flatten.length ≤ 1048576 := by
    obtain ⟨fuel, hf⟩ := h0
    obtain ⟨ls, ptr, cp, e1, e2, e3, e4⟩ := open_rows2 (by simpa [Value.cells] using hf)
    have hu := hcond _ rfl
    simp only [Rows.uptoSmall, decide_eq_true_eq, List.cons_append, List.nil_append, List.append_nil, Rows.uptoBulkAll] at hu
    exact ⟨ls, ptr, cp, e1, e2, by omega, by omega⟩
  clear hA0 hval0 hsz0 hsz
  refine (octetRows_walk a0 cap0 ls0 ptr0 cp0 W hr0 hn0 ht0).mono fun e W' ⟨he, bel⟩ => ?_
  subst he
  exact ⟨_, rfl, _, _, _, [], _, [], hW', trodAll_mk1 (shut_bool Try.underlying4 _), (trodAll_cons_mk (Below.trod laidOut (by kernel_rfl) (of_decide_eq_true (by kernel_rfl)) k0 bel lt0) trodAll_mk0), rfl, bel.frame _, fun h => by cases h⟩
theorem over : Rows.octetRowsUptoRow.holds Try.pinned (Rows.OpenSpec.upto Rows.octetRowsSpec) :=
  OpenClaim.holds_of_cond 9 Try.f9 rfl rfl rfl rfl rfl rfl rfl ⟨rfl, rfl, rfl, rfl, rfl⟩ rfl rfl rfl rfl rfl (by kernel_rfl) Try.func9 (by kernel_rfl)
    (of_decide_eq_true (by kernel_rfl)) (by unfold Func.isWrapper; first | (rw [if_pos (by decide +kernel)]; kernel_rfl) | (rw [if_neg (by decide +kernel)]; exact ⟨rfl, rfl⟩))
    (fun os started H enc _ F => lifted os started H enc F)
theorem proved : Rows.OctetRowsUptoSaid := over
end Go.Proofs.Ytelphnkbaeglaaa.RowOctetRows
namespace Go.Proofs.Ytelphnkbaeglaaa
theorem octetRows_holds : Rows.OctetRowsUptoSaid := RowOctetRows.proved
#print axioms octetRows_holds
end Go.Proofs.Ytelphnkbaeglaaa
