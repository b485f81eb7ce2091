/-
  Arguments that are rows of acts, opened. No premise.
-/
import Derived.Test.YtfhonfeopkhdeaaBtRw
import Derived.Test.YtfhonfeopkhdeaaProg
import Derived.Deep.Slices
import Derived.ChangeArms
import Derived.ChangeSame
import Derived.SliceStrings
import Derived.Lib.SmallJoins
namespace Go.Proofs.Ytfhonfeopkhdeaa
open Go.ChangeShapes Go.WideShapes Go.Deep Go.RowKit Go.Joins Go.Proofs.YtfhonfeopkhdeaaW.PrintWords

structure A7 where
  kd : Int
  nm : ByteArray
  v : Int
deriving Inhabited
structure A7Ok (r : A7) : Prop where
  nm : r.nm.size ≤ 9223372036854775807
  kd : -9223372036854775808 ≤ r.kd ∧ r.kd ≤ 9223372036854775807
  v : 0 ≤ r.v ∧ r.v < 18446744073709551616
theorem wf_i7 {a : Int} (h : (Lit.int .i64 a).wf = true) : -9223372036854775808 ≤ a ∧ a ≤ 9223372036854775807 := by
  simp [Lit.wf, IntKind.min, IntKind.max, IntKind.signed, IntKind.bits] at h
  omega
theorem wf_u7 {a : Int} (h : (Lit.int .u64 a).wf = true) : 0 ≤ a ∧ a < 18446744073709551616 := by
  simp [Lit.wf, IntKind.min, IntKind.max, IntKind.signed, IntKind.bits] at h
  omega
theorem list3 {α : Type} {cs : List α} (h : cs.length = 3) : ∃ c0 c1 c2, cs = [c0, c1, c2] := by
  match cs, h with
  | [c0, c1, c2], _ => exact ⟨c0, c1, c2, rfl⟩
theorem trod_struct3' {H : Type} {enc : TypeId × Value → H} {P : Program} {w : World} {base : Nat} {spare : Nat → Bool} {held : Bool} {t : TypeId} {f0 f1 f2 : Field} {fuel : Nat} {cs : List Value} {x : DataW H × List MemPlace} (ht : P.underlying t = some (.struct #[f0, f1, f2])) (h : DataW.trod enc P w base spare held fuel t cs = some x) :
    ∃ y0 y1 y2 n, x = (.agg [y0.1, y1.1, y2.1], y0.2 ++ (y1.2 ++ y2.2)) ∧ cs.length = P.cellsOf t ∧ DataW.trod enc P w base spare held n f0.type ((cs.drop f0.offset).take (P.cellsOf f0.type)) = some y0 ∧
      DataW.trod enc P w base spare held n f1.type ((cs.drop f1.offset).take (P.cellsOf f1.type)) = some y1 ∧ DataW.trod enc P w base spare held n f2.type ((cs.drop f2.offset).take (P.cellsOf f2.type)) = some y2 := by
  obtain ⟨xs, n, _, rfl, hl, hlen, hf⟩ := DataW.trod_struct ht h
  match xs, hlen with
  | [y0, y1, y2], _ => exact ⟨y0, y1, y2, n, by simp, hl, by simpa using hf 0 f0 rfl, by simpa using hf 1 f1 rfl, by simpa using hf 2 f2 rfl⟩
theorem open_act7 {H : Type} {enc : TypeId × Value → H} {W : World} {base : Nat} {held : Bool} {fuel : Nat} {cs : List Value} {x : DataW H × List MemPlace}
    (h : DataW.trod enc Try.prog W base (fun _ => true) held fuel 55 cs = some x) : ∃ r : A7, cs = [.int .i64 r.kd, .string r.nm, .int .u64 r.v] ∧ A7Ok r := by
  obtain ⟨y0, y1, y2, n, _, hl, t0, t1, t2⟩ := trod_struct3' Try.underlying55 h
  have c3 : Try.prog.cellsOf 55 = 3 := by kernel_rfl
  have ci : Try.prog.cellsOf 3 = 1 := by kernel_rfl
  have cs' : Try.prog.cellsOf 9 = 1 := by kernel_rfl
  have cu : Try.prog.cellsOf 38 = 1 := by kernel_rfl
  rw [c3] at hl
  obtain ⟨v0, v1, v2, rfl⟩ := list3 hl
  simp only [ci, cs', cu, List.drop_zero, List.drop_succ_cons, List.take_succ_cons, List.take_zero] at t0 t1 t2
  obtain ⟨n0, e0, _, w0⟩ := DataW.trod_int Try.underlying3 t0
  obtain ⟨s1, e1, _, w1⟩ := DataW.trod_string Try.underlying9 t1
  obtain ⟨n2, e2, _, w2⟩ := DataW.trod_int Try.underlying38 t2
  have e0' : v0 = .int .i64 n0 := by simpa using e0
  have e1' : v1 = .string s1 := by simpa using e1
  have e2' : v2 = .int .u64 n2 := by simpa using e2
  subst e0' e1' e2'
  exact ⟨⟨n0, s1, n2⟩, rfl, ⟨by simpa only [maxLen] using w1, wf_i7 w0, wf_u7 w2⟩⟩
/-- Acts that are read. -/
def Acs7 (w : World) (A : Option Addr) (l : List A7) : Prop :=
  l.length ≤ 9223372036854775807 ∧ (∀ r ∈ l, A7Ok r) ∧ (0 < l.length → ∃ ad, A = some ad ∧ ∀ i (hi : i < l.length), w.cell? (ad.add (i * 3)) = some (.int .i64 l[i].kd) ∧ w.cell? (ad.add (i * 3 + 1)) = some (.string l[i].nm) ∧ w.cell? (ad.add (i * 3 + 2)) = some (.int .u64 l[i].v))
theorem Acs7.below {w w' : World} {A : Option Addr} {l : List A7} (h : Acs7 w A l) (hb : Below w.heap.size w w') : Acs7 w' A l := by
  refine ⟨h.1, h.2.1, fun h0 => ?_⟩
  obtain ⟨ad, e, hc⟩ := h.2.2 h0
  refine ⟨ad, e, fun i hi => ?_⟩
  obtain ⟨h1, h2, h3⟩ := hc i hi
  exact ⟨pw_cell_below hb h1, pw_cell_below hb h2, pw_cell_below hb h3⟩
/-- A field of an element, as a walk spells its place. -/
theorem fld_cell {w : World} {a : Addr} {j d : Nat} {v : Value} (hd : d ≠ 0) (h : w.cell? (a.add (j + d)) = some v) : w.cell? ⟨(a.add j).block, (a.add j).off + d, none⟩ = some v := by
  have e : (⟨(a.add j).block, (a.add j).off + d, none⟩ : Addr) = a.add (j + d) := by
    unfold Addr.add
    by_cases hj : j = 0
    · subst hj; simp [hd]
    · simp [hj, hd, Nat.add_assoc]
  rw [e]
  exact h
theorem open_acs7 {H : Type} {enc : TypeId × Value → H} {W : World} {base : Nat} {held : Bool} {fuel : Nat} {x : DataW H × List MemPlace} {a : Option Addr} {len cap : Nat}
    (h : DataW.trod enc Try.prog W base (fun _ => true) held fuel 28 [.slice a len cap] = some x) : ∃ l : List A7, len = l.length ∧ Acs7 W a l := by
  have c3 : Try.prog.cellsOf 55 = 3 := by kernel_rfl
  rcases open_slice Try.underlying28 h with ⟨hcs, _⟩ | ⟨b, n, c, m, f, D, Pl, hcs, _, hl, hm, hmm, _, hx⟩
  · simp at hcs
    obtain ⟨rfl, rfl, rfl⟩ := hcs
    exact ⟨[], rfl, by simp, (fun r hr => (by cases hr)), fun h => absurd h (by simp)⟩
  · simp at hcs
    obtain ⟨rfl, rfl, rfl⟩ := hcs
    have hlm : len ≤ m := by rw [hmm]; split <;> omega
    have each : ∀ i, i < len → ∃ r : A7, A7Ok r ∧ W.cell? (b.add (i * 3)) = some (.int .i64 r.kd) ∧ W.cell? (b.add (i * 3 + 1)) = some (.string r.nm) ∧ W.cell? (b.add (i * 3 + 2)) = some (.int .u64 r.v) := fun i hi => by
      obtain ⟨cs', h1, h2⟩ := hx i (by omega)
      obtain ⟨r, rfl, hr⟩ := open_act7 h2
      rw [c3] at h1
      obtain ⟨_, _, hcell⟩ := World.cells?_some h1
      have g0 := hcell 0 (by simp)
      have g1 := hcell 1 (by simp)
      have g2 := hcell 2 (by simp)
      rw [Deep.add_add] at g0 g1 g2
      exact ⟨r, hr, by simpa using g0, by simpa using g1, by simpa using g2⟩
    obtain ⟨q, hq⟩ := choose_lt each
    refine ⟨(List.range len).map q, by simp, by simp only [List.length_map, List.length_range]; simp only [maxLen] at hm; omega, fun r hr => ?_, fun _ => ⟨b, rfl, fun i hi => ?_⟩⟩
    · obtain ⟨i, hi, rfl⟩ := List.mem_map.1 hr
      exact (hq i (List.mem_range.1 hi)).1
    · have hi2 : i < len := by simpa using hi
      have e : ((List.range len).map q)[i] = q i := by simp
      rw [e]
      exact (hq i hi2).2
end Go.Proofs.Ytfhonfeopkhdeaa
