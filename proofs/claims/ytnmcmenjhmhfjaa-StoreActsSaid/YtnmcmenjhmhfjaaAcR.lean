/-
  An argument that is a row of acts, or one act, opened. No premise.
-/
import Derived.Test.YtnmcmenjhmhfjaaSt2
import Derived.Test.YtnmcmenjhmhfjaaWfL
import Derived.Deep.Slices
import Derived.ChangeArms
import Derived.Lib.SmallJoins
namespace Go.Proofs.Ytnmcmenjhmhfjaa
open Go.ChangeShapes Go.WideShapes Go.Deep Go.RowKit Go.Joins Go.Proofs.YtnmcmenjhmhfjaaW.PrintWords

structure Ac where
  kd : Int
  pl : Int
  n : Int
  A : Option Addr
  b : List Int
  c : Nat
deriving Inhabited
def i64B (a : Int) : Prop := -9223372036854775808 ≤ a ∧ a ≤ 9223372036854775807
theorem wf_i64B {a : Int} (h : (Lit.int .i64 a).wf = true) : i64B a := by
  simp [Lit.wf, IntKind.min, IntKind.max, IntKind.signed, IntKind.bits] at h
  unfold i64B
  omega
structure AcOk (w : World) (r : Ac) : Prop where
  rd : Rd w r.A r.b
  bts : Bts r.b
  cap : r.b.length ≤ r.c
  kd : i64B r.kd
  pl : i64B r.pl
  n : i64B r.n
theorem AcOk.below {w w' : World} {r : Ac} (h : AcOk w r) (hb : Below w.heap.size w w') : AcOk w' r := ⟨h.rd.below hb, h.bts, h.cap, h.kd, h.pl, h.n⟩
theorem list4 {α : Type} {cs : List α} (h : cs.length = 4) : ∃ c0 c1 c2 c3, cs = [c0, c1, c2, c3] := by
  match cs, h with
  | [c0, c1, c2, c3], _ => exact ⟨c0, c1, c2, c3, rfl⟩
theorem open_act {H : Type} {enc : TypeId × Value → H} {W : World} {base : Nat} {held : Bool} {fuel : Nat} {cs : List Value} {x : DataW H × List MemPlace}
    (h : DataW.trod enc Try.prog W base (fun _ => true) held fuel 28 cs = some x) : ∃ r : Ac, cs = [.int .i64 r.kd, .int .i64 r.pl, .int .i64 r.n, .slice r.A r.b.length r.c] ∧ AcOk W r := by
  obtain ⟨y0, y1, y2, y3, n, _, hl, t0, t1, t2, t3⟩ := trod_struct4 Try.underlying28 h
  have c4 : Try.prog.cellsOf 28 = 4 := by kernel_rfl
  have ci : Try.prog.cellsOf 3 = 1 := by kernel_rfl
  have cb : Try.prog.cellsOf 22 = 1 := by kernel_rfl
  rw [c4] at hl
  obtain ⟨v0, v1, v2, v3, rfl⟩ := list4 hl
  simp only [ci, cb, List.drop_zero, List.drop_succ_cons, List.take_succ_cons, List.take_zero] at t0 t1 t2 t3
  obtain ⟨n0, e0, _, w0⟩ := DataW.trod_int Try.underlying3 t0
  obtain ⟨n1, e1, _, w1⟩ := DataW.trod_int Try.underlying3 t1
  obtain ⟨n2, e2, _, w2⟩ := DataW.trod_int Try.underlying3 t2
  have e0' : v0 = .int .i64 n0 := by simpa using e0
  have e1' : v1 = .int .i64 n1 := by simpa using e1
  have e2' : v2 = .int .i64 n2 := by simpa using e2
  subst e0' e1' e2'
  rcases open_ints Try.underlying22 Try.underlying5 (by kernel_rfl) t3 with ⟨hcs, _⟩ | ⟨a, l, c, zs, hcs, _, h1, h2, h3, _, hcell, hwz⟩
  · have e3 : v3 = .slice none 0 0 := by simpa using hcs
    subst e3
    exact ⟨⟨n0, n1, n2, none, [], 0⟩, rfl, ⟨⟨rfl, by simp, fun h => absurd h (by simp)⟩, (fun x hx => (by cases hx)), Nat.le_refl _, wf_i64B w0, wf_i64B w1, wf_i64B w2⟩⟩
  · have e3 : v3 = .slice (some a) l c := by simpa using hcs
    subst e3
    obtain ⟨ls, rfl, hr, _, hw, hc⟩ := ReadsInt.ofRowC (k := .u8) (w := W) (a := some a) (len := l) (cap := c) (zs := zs) (.inr ⟨a, rfl, h1, h2, by simpa using h3, hcell, hwz⟩)
    exact ⟨⟨n0, n1, n2, some a, ls, c⟩, rfl, ⟨hr, wf_bts' hw, hc, wf_i64B w0, wf_i64B w1, wf_i64B w2⟩⟩
/-- Acts that are read. -/
def Acs (w : World) (A : Option Addr) (l : List Ac) : Prop :=
  l.length ≤ 9223372036854775807 ∧ (∀ r ∈ l, AcOk w r) ∧ (0 < l.length → ∃ ad, A = some ad ∧ ∀ i (hi : i < l.length), w.cell? (ad.add (i * 4)) = some (.int .i64 l[i].kd) ∧ w.cell? (ad.add (i * 4 + 1)) = some (.int .i64 l[i].pl) ∧
    w.cell? (ad.add (i * 4 + 2)) = some (.int .i64 l[i].n) ∧ w.cell? (ad.add (i * 4 + 3)) = some (.slice l[i].A l[i].b.length l[i].c))
theorem Acs.below {w w' : World} {A : Option Addr} {l : List Ac} (h : Acs w A l) (hb : Below w.heap.size w w') : Acs w' A l := by
  refine ⟨h.1, fun r hr => (h.2.1 r hr).below hb, fun h0 => ?_⟩
  obtain ⟨ad, e, hc⟩ := h.2.2 h0
  refine ⟨ad, e, fun i hi => ?_⟩
  obtain ⟨h1, h2, h3, h4⟩ := hc i hi
  exact ⟨pw_cell_below hb h1, pw_cell_below hb h2, pw_cell_below hb h3, pw_cell_below hb h4⟩
theorem open_acs {H : Type} {enc : TypeId × Value → H} {W : World} {base : Nat} {held : Bool} {fuel : Nat} {x : DataW H × List MemPlace} {a : Option Addr} {len cap : Nat}
    (h : DataW.trod enc Try.prog W base (fun _ => true) held fuel 23 [.slice a len cap] = some x) : ∃ l : List Ac, len = l.length ∧ Acs W a l := by
  have c4 : Try.prog.cellsOf 28 = 4 := by kernel_rfl
  rcases open_slice Try.underlying23 h with ⟨hcs, _⟩ | ⟨b, n, c, m, f, D, Pl, hcs, _, hl, hm, hmm, _, hx⟩
  · simp at hcs
    obtain ⟨rfl, rfl, rfl⟩ := hcs
    exact ⟨[], rfl, by simp, (fun r hr => (by cases hr)), fun h => absurd h (by simp)⟩
  · simp at hcs
    obtain ⟨rfl, rfl, rfl⟩ := hcs
    have hlm : len ≤ m := by rw [hmm]; split <;> omega
    have each : ∀ i, i < len → ∃ r : Ac, AcOk W r ∧ W.cell? (b.add (i * 4)) = some (.int .i64 r.kd) ∧ W.cell? (b.add (i * 4 + 1)) = some (.int .i64 r.pl) ∧ W.cell? (b.add (i * 4 + 2)) = some (.int .i64 r.n) ∧ W.cell? (b.add (i * 4 + 3)) = some (.slice r.A r.b.length r.c) := fun i hi => by
      obtain ⟨cs', h1, h2⟩ := hx i (by omega)
      obtain ⟨r, rfl, hr⟩ := open_act h2
      rw [c4] at h1
      obtain ⟨_, _, hcell⟩ := World.cells?_some h1
      have g0 := hcell 0 (by simp)
      have g1 := hcell 1 (by simp)
      have g2 := hcell 2 (by simp)
      have g3 := hcell 3 (by simp)
      rw [Deep.add_add] at g0 g1 g2 g3
      exact ⟨r, hr, by simpa using g0, by simpa using g1, by simpa using g2, by simpa using g3⟩
    obtain ⟨q, hq⟩ := choose_lt each
    refine ⟨(List.range len).map q, by simp, by simp only [List.length_map, List.length_range]; simp only [maxLen] at hm; omega, fun r hr => ?_, fun _ => ⟨b, rfl, fun i hi => ?_⟩⟩
    · obtain ⟨i, hi, rfl⟩ := List.mem_map.1 hr
      exact (hq i (List.mem_range.1 hi)).1
    · have hi2 : i < len := by simpa using hi
      have e : ((List.range len).map q)[i] = q i := by simp
      rw [e]
      exact (hq i hi2).2
end Go.Proofs.Ytnmcmenjhmhfjaa
