/-
  An argument that is a root, or a row of roots, opened. No premise.
-/
import Derived.Test.YtadmpjikkpnjnaaDoorSl1
import Derived.Test.YtadmpjikkpnjnaaDoorWfL
import Derived.Deep.Slices
import Derived.Deep.Strs
import Derived.ChangeArms
namespace Go.Proofs.YtadmpjikkpnjnaaDoor
open Go.ChangeShapes Go.WideShapes Go.Deep Go.RowKit Go.Proofs.YtadmpjikkpnjnaaDoorW.PrintWords

theorem list3 {α : Type} {cs : List α} (h : cs.length = 3) : ∃ c0 c1 c2, cs = [c0, c1, c2] := by
  match cs, h with
  | [c0, c1, c2], _ => exact ⟨c0, c1, c2, rfl⟩
theorem open_rt {H : Type} {enc : TypeId × Value → H} {W : World} {base : Nat} {held : Bool} {fuel : Nat} {cs : List Value} {x : DataW H × List MemPlace}
    (h : DataW.trod enc Tryd.prog W base (fun _ => true) held fuel 24 cs = some x) : ∃ r : Rt, cs = [.int .u64 r.g, .int .i64 r.pl, .int .i64 r.sz] ∧ RtK r := by
  obtain ⟨y0, y1, y2, n, _, hl, t0, t1, t2⟩ := trod_struct3 Tryd.underlying24 h
  have c3 : Tryd.prog.cellsOf 24 = 3 := by kernel_rfl
  have ci : Tryd.prog.cellsOf 3 = 1 := by kernel_rfl
  have cu : Tryd.prog.cellsOf 22 = 1 := by kernel_rfl
  rw [c3] at hl
  obtain ⟨v0, v1, v2, rfl⟩ := list3 hl
  simp only [ci, cu, List.drop_zero, List.drop_succ_cons, List.take_succ_cons, List.take_zero] at t0 t1 t2
  obtain ⟨n0, e0, _, w0⟩ := DataW.trod_int Tryd.underlying22 t0
  obtain ⟨n1, e1, _, w1⟩ := DataW.trod_int Tryd.underlying3 t1
  obtain ⟨n2, e2, _, w2⟩ := DataW.trod_int Tryd.underlying3 t2
  have e0' : v0 = .int .u64 n0 := by simpa using e0
  have e1' : v1 = .int .i64 n1 := by simpa using e1
  have e2' : v2 = .int .i64 n2 := by simpa using e2
  subst e0' e1' e2'
  exact ⟨⟨n0, n1, n2⟩, rfl, ⟨wf_u64' w0, (wf_i64' w1).1, (wf_i64' w1).2, (wf_i64' w2).1, (wf_i64' w2).2⟩⟩
theorem open_rt1 {H : Type} {enc : TypeId × Value → H} {W : World} {base : Nat} {held : Bool} {cs : Array Value} {d : DataW H} {ps : List MemPlace}
    (h : DataW.Trod enc Tryd.prog W base (fun _ => true) held 24 (.agg cs) d ps) : ∃ r : Rt, cs = #[.int .u64 r.g, .int .i64 r.pl, .int .i64 r.sz] ∧ RtK r := by
  obtain ⟨fuel, hf⟩ := h
  obtain ⟨r, e, hr⟩ := open_rt hf
  refine ⟨r, ?_, hr⟩
  have e' : cs.toList = [.int .u64 r.g, .int .i64 r.pl, .int .i64 r.sz] := e
  exact Array.toList_inj.1 (by simpa using e')
/-- Roots that are read. -/
def Rts (w : World) (A : Option Addr) (l : List Rt) : Prop :=
  l.length ≤ 9223372036854775807 ∧ (∀ r ∈ l, RtK r) ∧ (0 < l.length → ∃ ad, A = some ad ∧ ∀ i (hi : i < l.length), w.cell? (ad.add (i * 3)) = some (.int .u64 l[i].g) ∧ w.cell? (ad.add (i * 3 + 1)) = some (.int .i64 l[i].pl) ∧ w.cell? (ad.add (i * 3 + 2)) = some (.int .i64 l[i].sz))
theorem Rts.below {w w' : World} {A : Option Addr} {l : List Rt} (h : Rts w A l) (hb : Below w.heap.size w w') : Rts w' A l := by
  refine ⟨h.1, h.2.1, fun h0 => ?_⟩
  obtain ⟨ad, e, hc⟩ := h.2.2 h0
  refine ⟨ad, e, fun i hi => ?_⟩
  obtain ⟨h1, h2, h3⟩ := hc i hi
  exact ⟨pw_cell_below hb h1, pw_cell_below hb h2, pw_cell_below hb h3⟩
instance : Inhabited Rt := ⟨Rt.zero⟩
theorem open_rts {H : Type} {enc : TypeId × Value → H} {W : World} {base : Nat} {held : Bool} {fuel : Nat} {x : DataW H × List MemPlace} {a : Option Addr} {len cap : Nat}
    (h : DataW.trod enc Tryd.prog W base (fun _ => true) held fuel 63 [.slice a len cap] = some x) : ∃ l : List Rt, len = l.length ∧ Rts W a l := by
  have c3 : Tryd.prog.cellsOf 24 = 3 := by kernel_rfl
  rcases open_slice Tryd.underlying63 h with ⟨hcs, _⟩ | ⟨b, n, c, m, f, D, Pl, hcs, _, hl, hm, hmm, _, hx⟩
  · simp at hcs
    obtain ⟨rfl, rfl, rfl⟩ := hcs
    exact ⟨[], rfl, by simp, (fun r hr => (by cases hr)), fun h => absurd h (by simp)⟩
  · simp at hcs
    obtain ⟨rfl, rfl, rfl⟩ := hcs
    have hlm : len ≤ m := by rw [hmm]; split <;> omega
    have each : ∀ i, i < len → ∃ r : Rt, RtK r ∧ W.cell? (b.add (i * 3)) = some (.int .u64 r.g) ∧ W.cell? (b.add (i * 3 + 1)) = some (.int .i64 r.pl) ∧ W.cell? (b.add (i * 3 + 2)) = some (.int .i64 r.sz) := fun i hi => by
      obtain ⟨cs', h1, h2⟩ := hx i (by omega)
      obtain ⟨r, rfl, hr⟩ := open_rt h2
      rw [c3] at h1
      obtain ⟨_, _, hcell⟩ := World.cells?_some h1
      have g0 := hcell 0 (by simp)
      have g1 := hcell 1 (by simp)
      have g2 := hcell 2 (by simp)
      rw [Deep.add_add] at g0 g1 g2
      exact ⟨r, hr, by simpa using g0, by simpa using g1, by simpa using g2⟩
    obtain ⟨q, hq⟩ := choose_lt each
    refine ⟨(List.range len).map q, by simp, by simp only [List.length_map, List.length_range]; simp only [maxLen] at hm; omega, fun r hr => ?_, fun _ => ⟨b, rfl, fun i hi => ?_⟩⟩
    · obtain ⟨i, hi, rfl⟩ := List.mem_map.1 hr
      exact (hq i (List.mem_range.1 hi)).1
    · have hi2 : i < len := by simpa using hi
      have e : ((List.range len).map q)[i] = q i := by simp
      rw [e]
      exact (hq i hi2).2
end Go.Proofs.YtadmpjikkpnjnaaDoor
