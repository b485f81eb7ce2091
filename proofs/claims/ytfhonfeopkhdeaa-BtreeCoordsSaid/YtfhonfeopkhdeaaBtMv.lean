/-
  Arguments that are rows of moves, opened. No premise.
-/
import Derived.Test.YtfhonfeopkhdeaaBtKC
import Derived.Deep.Slices
import Derived.ChangeArms
import Derived.ChangeSame
import Derived.SizedLaws
import Derived.Lib.SmallJoins
namespace Go.Proofs.Ytfhonfeopkhdeaa
open Go.ChangeShapes Go.WideShapes Go.Deep Go.RowKit Go.Joins Go.Proofs.YtfhonfeopkhdeaaW.PrintWords

structure Mv where
  kd : Int
  k : BC.Ck
  v : Int
instance : Inhabited Mv := ⟨⟨0, ⟨none, [], 0⟩, 0⟩⟩
theorem mv3 {α : Type} {cs : List α} (h : cs.length = 3) : ∃ c0 c1 c2, cs = [c0, c1, c2] := by
  match cs, h with
  | [c0, c1, c2], _ => exact ⟨c0, c1, c2, rfl⟩
theorem trod_mv3 {H : Type} {enc : TypeId × Value → H} {P : Program} {w : World} {base : Nat} {spare : Nat → Bool} {held : Bool} {t : TypeId} {f0 f1 f2 : Field} {fuel : Nat} {cs : List Value} {x : DataW H × List MemPlace} (ht : P.underlying t = some (.struct #[f0, f1, f2])) (h : DataW.trod enc P w base spare held fuel t cs = some x) :
    ∃ y0 y1 y2 n, x = (.agg [y0.1, y1.1, y2.1], y0.2 ++ (y1.2 ++ y2.2)) ∧ cs.length = P.cellsOf t ∧ DataW.trod enc P w base spare held n f0.type ((cs.drop f0.offset).take (P.cellsOf f0.type)) = some y0 ∧
      DataW.trod enc P w base spare held n f1.type ((cs.drop f1.offset).take (P.cellsOf f1.type)) = some y1 ∧ DataW.trod enc P w base spare held n f2.type ((cs.drop f2.offset).take (P.cellsOf f2.type)) = some y2 := by
  obtain ⟨xs, n, _, rfl, hl, hlen, hf⟩ := DataW.trod_struct ht h
  match xs, hlen with
  | [y0, y1, y2], _ => exact ⟨y0, y1, y2, n, by simp, hl, by simpa using hf 0 f0 rfl, by simpa using hf 1 f1 rfl, by simpa using hf 2 f2 rfl⟩
theorem mem_all {H : Type} {P : Program} {e : TypeId} : ∀ {l : List (DataW H)} {d : DataW H}, d ∈ l → ∀ n ∈ d.weights P e, n ∈ DataW.weightsAll P e l
  | a :: l, d, hd, n, hn => by
    rw [DataW.weightsAll]
    rcases List.mem_cons.1 hd with rfl | hd
    · exact List.mem_append_left _ hn
    · exact List.mem_append_right _ (mem_all hd n hn)
theorem open_mv {H : Type} {enc : TypeId × Value → H} {W : World} {base : Nat} {held : Bool} {fuel : Nat} {cs : List Value} {x : DataW H × List MemPlace}
    (h : DataW.trod enc Try.prog W base (fun _ => true) held fuel 73 cs = some x) (hw : ∀ n ∈ x.1.weights Try.prog 73, n ≤ reachBytes) : ∃ r : Mv, cs = [.int .i64 r.kd, .slice r.k.A r.k.l.length r.k.c, .int .u64 r.v] ∧ BC.KRd W r.k := by
  obtain ⟨y0, y1, y2, n, rfl, hl, t0, t1, t2⟩ := trod_mv3 Try.underlying73 h
  have c3 : Try.prog.cellsOf 73 = 3 := by kernel_rfl
  have ci : Try.prog.cellsOf 3 = 1 := by kernel_rfl
  have cs' : Try.prog.cellsOf 22 = 1 := by kernel_rfl
  have cu : Try.prog.cellsOf 38 = 1 := by kernel_rfl
  rw [c3] at hl
  obtain ⟨v0, v1, v2, rfl⟩ := mv3 hl
  simp only [ci, cs', cu, List.drop_zero, List.drop_succ_cons, List.take_succ_cons, List.take_zero] at t0 t1 t2
  obtain ⟨n0, e0, _, w0⟩ := DataW.trod_int Try.underlying3 t0
  obtain ⟨n2, e2, _, w2⟩ := DataW.trod_int Try.underlying38 t2
  have e0' : v0 = .int .i64 n0 := by simpa using e0
  have e2' : v2 = .int .u64 n2 := by simpa using e2
  subst e0' e2'
  have hw1 : ∀ m ∈ y1.1.weights Try.prog 22, m ≤ reachBytes := fun m hm => hw m (by
    show m ∈ DataW.weights Try.prog 73 (.agg [y0.1, y1.1, y2.1])
    rw [DataW.weights, Try.underlying73]
    exact DataW.weights_mem_each (j := 1) rfl rfl m hm)
  rcases open_ints Try.underlying22 Try.underlying3 (by kernel_rfl) t1 with ⟨hcs, _⟩ | ⟨a, l, c, zs, hcs, _, h1, h2, h3, hy, hcell, hwz⟩
  · have e1 : v1 = .slice none 0 0 := by simpa using hcs
    subst e1
    exact ⟨⟨n0, ⟨none, [], 0⟩, n2⟩, rfl, ⟨rfl, by simp, fun h => absurd h (by simp)⟩, by simp⟩
  · have e1 : v1 = .slice (some a) l c := by simpa using hcs
    subst e1
    have hb : zs.length * 8 ≤ reachBytes := by
      have hB : Try.prog.bytesOf 3 = 8 := by kernel_rfl
      refine hw1 _ ?_
      rw [hy, DataW.weights, Try.underlying22]
      have : (lits .i64 (zs.take l) : List (DataW H)).length + (lits .i64 (zs.drop l) : List (DataW H)).length = zs.length := by
        simp only [lits, List.length_map, List.length_take, List.length_drop]
        omega
      show zs.length * 8 ∈ ((lits .i64 (zs.take l) : List (DataW H)).length + (lits .i64 (zs.drop l) : List (DataW H)).length) * Try.prog.bytesOf 3 :: _
      rw [this, hB]
      exact List.mem_cons_self
    have hz : zs.length = c := by simpa using h3
    obtain ⟨ls, rfl, hr, _, hw, hc⟩ := ReadsInt.ofRowC (k := .i64) (w := W) (a := some a) (len := l) (cap := c) (zs := zs) (.inr ⟨a, rfl, h1, h2, hz, hcell, hwz⟩)
    refine ⟨⟨n0, ⟨some a, ls, c⟩, n2⟩, rfl, hr, ?_⟩
    have : reachBytes ≤ 140737488351232 := by decide
    show ls.length ≤ 17592186044000
    omega
/-- Moves that are read. -/
def Mvs (w : World) (A : Option Addr) (l : List Mv) : Prop :=
  l.length ≤ 9223372036854775807 ∧ (∀ r ∈ l, BC.KRd w r.k) ∧ (0 < l.length → ∃ ad, A = some ad ∧ ∀ i (hi : i < l.length), w.cell? (ad.add (i * 3)) = some (.int .i64 l[i].kd) ∧ w.cell? (ad.add (i * 3 + 1)) = some (.slice l[i].k.A l[i].k.l.length l[i].k.c) ∧ w.cell? (ad.add (i * 3 + 2)) = some (.int .u64 l[i].v))
theorem Mvs.below {w w' : World} {A : Option Addr} {l : List Mv} (h : Mvs w A l) (hb : Below w.heap.size w w') : Mvs w' A l := by
  refine ⟨h.1, fun r hr => (h.2.1 r hr).below hb (Nat.le_refl _), fun h0 => ?_⟩
  obtain ⟨ad, e, hc⟩ := h.2.2 h0
  refine ⟨ad, e, fun i hi => ?_⟩
  obtain ⟨h1, h2, h3⟩ := hc i hi
  exact ⟨pw_cell_below hb h1, pw_cell_below hb h2, pw_cell_below hb h3⟩
/-- A field of an element, as a walk spells its place. -/
theorem mv_cell {w : World} {a : Addr} {j d : Nat} {v : Value} (hd : d ≠ 0) (h : w.cell? (a.add (j + d)) = some v) : w.cell? ⟨(a.add j).block, (a.add j).off + d, none⟩ = some v := by
  have e : (⟨(a.add j).block, (a.add j).off + d, none⟩ : Addr) = a.add (j + d) := by
    unfold Addr.add
    by_cases hj : j = 0
    · subst hj; simp [hd]
    · simp [hj, hd, Nat.add_assoc]
  rw [e]
  exact h
theorem open_mvs {H : Type} {enc : TypeId × Value → H} {W : World} {base : Nat} {held : Bool} {a : Option Addr} {len cap : Nat} {d : DataW H} {ps : List MemPlace} {ts : List TypeId} {ds : List (DataW H)} {j : Nat}
    (hsz : (DataW.weightsEach Try.prog ts ds).all (· ≤ reachBytes) = true) (ht : ts[j]? = some 65) (hd : ds[j]? = some d)
    (h : DataW.Trod enc Try.prog W base (fun _ => true) held 65 (.slice a len cap) d ps) : ∃ l : List Mv, len = l.length ∧ Mvs W a l := by
  obtain ⟨fuel, hf⟩ := h
  have hf' : DataW.trod enc Try.prog W base (fun _ => true) held fuel 65 [.slice a len cap] = some (d, ps) := by simpa [Value.cells] using hf
  have hwd : ∀ n ∈ d.weights Try.prog 65, n ≤ reachBytes := fun n hn => by
    have := List.all_eq_true.1 hsz n (DataW.weights_mem_each ht hd n hn)
    simpa using this
  have c3 : Try.prog.cellsOf 73 = 3 := by kernel_rfl
  rcases open_slice Try.underlying65 hf' with ⟨hcs, _⟩ | ⟨b, n, c, m, f, D, Pl, hcs, _, hl, hm, hmm, hxx, hx⟩
  · simp at hcs
    obtain ⟨rfl, rfl, rfl⟩ := hcs
    exact ⟨[], rfl, by simp, (fun r hr => (by cases hr)), fun h => absurd h (by simp)⟩
  · simp at hcs
    obtain ⟨rfl, rfl, rfl⟩ := hcs
    obtain ⟨hxd, _⟩ := Prod.mk.inj hxx
    have hlm : len ≤ m := by rw [hmm]; split <;> omega
    have hwi : ∀ i, i < len → ∀ z ∈ (D i).weights Try.prog 73, z ≤ reachBytes := fun i hi z hz => hwd z (by
      rw [hxd, DataW.weights, Try.underlying65]
      exact List.mem_cons_of_mem _ (List.mem_append_left _ (mem_all (List.mem_map.2 ⟨i, List.mem_range.2 hi, rfl⟩) z hz)))
    have each : ∀ i, i < len → ∃ r : Mv, BC.KRd W r.k ∧ W.cell? (b.add (i * 3)) = some (.int .i64 r.kd) ∧ W.cell? (b.add (i * 3 + 1)) = some (.slice r.k.A r.k.l.length r.k.c) ∧ W.cell? (b.add (i * 3 + 2)) = some (.int .u64 r.v) := fun i hi => by
      obtain ⟨cs', h1, h2⟩ := hx i (by omega)
      obtain ⟨r, rfl, hr⟩ := open_mv h2 (hwi i hi)
      rw [c3] at h1
      obtain ⟨_, _, hcell⟩ := World.cells?_some h1
      have g0 := hcell 0 (by simp)
      have g1 := hcell 1 (by simp)
      have g2 := hcell 2 (by simp)
      rw [Deep.add_add] at g0 g1 g2
      exact ⟨r, hr, by simpa using g0, by simpa using g1, by simpa using g2⟩
    obtain ⟨q, hq⟩ := choose_lt each
    refine ⟨(List.range len).map q, by simp, by simp only [List.length_map, List.length_range]; simp only [maxLen] at hm; omega, fun r hr => ?_, fun _ => ⟨b, rfl, fun i hi => ?_⟩⟩
    · obtain ⟨i, hi, rfl⟩ := List.mem_map.1 hr
      exact (hq i (List.mem_range.1 hi)).1
    · have hi2 : i < len := by simpa using hi
      have e : ((List.range len).map q)[i] = q i := by simp
      rw [e]
      exact (hq i hi2).2
end Go.Proofs.Ytfhonfeopkhdeaa
