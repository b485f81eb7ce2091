/-
  Rows of cells, whose block may be longer than what the slice may hold; append onto them. No premise.
-/
import Derived.Test.YtfhonfeopkhdeaaWWords
import Derived.WalkKit
import Derived.WalkSpells
import Derived.WalkLawsBesides
import Derived.Lib.Hide
import Derived.ArgAppend
import Derived.Maps.AppendAt
import Derived.Laws.CopyOwn
namespace Go.Proofs.Ytfhonfeopkhdeaa
open Go.RowKit Go.Proofs.YtfhonfeopkhdeaaW.PrintWords

def One (xs : List Value) : Prop := ∀ u ∈ xs, u.oneCell' = true
/-- A row of elements of one cell each. -/
def Rw (w : World) (e : TypeId) (v : Value) (xs : List Value) : Prop :=
  (v = .slice none 0 0 ∧ xs = []) ∨ ∃ (g cap : Nat) (cur : Array Value), v = .slice (some ⟨g, 0, none⟩) xs.length cap ∧ w.heap[g]? = some (.cells cur e (0, 0)) ∧ xs.length ≤ cap ∧ cap ≤ cur.size ∧ cap ≤ maxLen ∧ cur.toList.take xs.length = xs
theorem Rw.nil (w : World) (e : TypeId) : Rw w e (.slice none 0 0) [] := .inl ⟨rfl, rfl⟩
theorem Rw.form {w : World} {e : TypeId} {v : Value} {xs : List Value} (h : Rw w e v xs) : ∃ A c, v = .slice A xs.length c ∧ xs.length ≤ c := by
  rcases h with ⟨rfl, rfl⟩ | ⟨g, cap, cur, rfl, _, h2, _⟩
  · exact ⟨none, 0, rfl, Nat.le_refl _⟩
  · exact ⟨_, cap, rfl, h2⟩
theorem Rw.blk {w : World} {e : TypeId} {v : Value} {xs : List Value} (h : Rw w e v xs) {g : Nat} (hg : v.ownBlock = some g) : ∃ cur, w.heap[g]? = some (.cells cur e (0, 0)) := by
  rcases h with ⟨rfl, rfl⟩ | ⟨g', cap, cur, rfl, h1, _⟩
  · cases hg
  · cases hg
    exact ⟨cur, h1⟩
theorem Rw.lt {w : World} {e : TypeId} {v : Value} {xs : List Value} (h : Rw w e v xs) {g : Nat} (hg : v.ownBlock = some g) : g < w.heap.size := by
  obtain ⟨cur, h1⟩ := h.blk hg
  exact (Array.getElem?_eq_some_iff.1 h1).1
theorem Rw.keep {w w' : World} {e : TypeId} {v : Value} {xs : List Value} (h : Rw w e v xs) (hk : ∀ g, v.ownBlock = some g → g < w.heap.size → w'.heap[g]? = w.heap[g]?) : Rw w' e v xs := by
  rcases h with h | ⟨g, cap, cur, rfl, h1, h2⟩
  · exact .inl h
  · exact .inr ⟨g, cap, cur, rfl, (hk g rfl (Array.getElem?_eq_some_iff.1 h1).1).trans h1, h2⟩
theorem Rw.of_own {w : World} {base e n : Nat} {v : Value} {xs : List Value} (h : w.ownsRow base e 1 v n xs) : Rw w e v xs := by
  have hl : xs.length = n := by have := h.1; omega
  subst hl
  rcases h.2 with ⟨h1, h2⟩ | ⟨g, cap, cur, h1, _, hg, hn, hm, hs, ht⟩
  · exact .inl ⟨h1, List.eq_nil_of_length_eq_zero h2⟩
  · exact .inr ⟨g, cap, cur, h1, hg, hn, by omega, hm, by simpa using ht⟩
/-- The cells, where there are any. -/
theorem Rw.cells {w : World} {e n c : Nat} {A : Option Addr} {xs : List Value} (h : Rw w e (.slice A n c) xs) (h0 : 0 < xs.length) : ∃ g, A = some ⟨g, 0, none⟩ ∧ ∀ j u, xs[j]? = some u → w.cell? ⟨g, j, none⟩ = some u := by
  rcases h with ⟨_, rfl⟩ | ⟨g, cap, cur, e1, hg, _, _, _, ht⟩
  · simp at h0
  · injection e1 with e1
    refine ⟨g, e1, fun j u hj => ?_⟩
    have hjl := (List.getElem?_eq_some_iff.1 hj).1
    rw [blk_cell hg, ← hj, ← ht, List.getElem?_take, if_pos hjl, Array.getElem?_toList]
theorem Rw.cell {w : World} {e n c g : Nat} {xs : List Value} (h : Rw w e (.slice (some ⟨g, 0, none⟩) n c) xs) {j : Nat} (hj : j < xs.length) : w.cell? ⟨g, j, none⟩ = some xs[j] ∧ w.frozen? ⟨g, j, none⟩ = false := by
  obtain ⟨g', e1, h1⟩ := h.cells (by omega)
  cases e1
  refine ⟨h1 j _ (List.getElem?_eq_getElem hj), ?_⟩
  obtain ⟨cur, hb⟩ := h.blk (g := g) rfl
  exact blk_frozen hb j
theorem Rw.set {w : World} {e n c g : Nat} {xs : List Value} (h : Rw w e (.slice (some ⟨g, 0, none⟩) n c) xs) (j : Nat) (u : Value) : Rw (w.setCell ⟨g, j, none⟩ u) e (.slice (some ⟨g, 0, none⟩) n c) (xs.set j u) := by
  rcases h with ⟨h1, _⟩ | ⟨g', cap, cur, e1, hg, h2, h3, h4, ht⟩
  · cases h1
  · injection e1 with e1 e2 e3
    injection e1 with e1
    injection e1 with e1
    subst e1 e2 e3
    refine .inr ⟨g, c, cur.setIfInBounds j u, by rw [List.length_set], blk_set hg j u, by rw [List.length_set]; exact h2, by rw [Array.size_setIfInBounds]; exact h3, h4, ?_⟩
    rw [List.length_set, Array.toList_setIfInBounds, List.take_set, ht]
/-- A shorter slice of the row. -/
theorem Rw.short {w : World} {e n c g : Nat} {xs : List Value} (h : Rw w e (.slice (some ⟨g, 0, none⟩) n c) xs) {m c' : Nat} (hm : m ≤ xs.length) (hc : m ≤ c') (hc2 : c' ≤ c) : Rw w e (.slice (some ⟨g, 0, none⟩) m c') (xs.take m) := by
  rcases h with ⟨h1, _⟩ | ⟨g', cap, cur, e1, hg, h2, h3, h4, ht⟩
  · cases h1
  · injection e1 with e1 e2 e3
    injection e1 with e1
    injection e1 with e1
    subst e1 e2 e3
    have hl : (xs.take m).length = m := by rw [List.length_take]; omega
    refine .inr ⟨g, c', cur, by rw [hl], hg, by rw [hl]; exact hc, by omega, by omega, ?_⟩
    rw [hl, ← ht, List.take_take, Nat.min_eq_left hm]
/-- A block that is longer is told by its head. -/
theorem Rw.mk {w : World} {e g cap : Nat} {xs : List Value} {cur : Array Value} (hg : w.heap[g]? = some (.cells cur e (0, 0))) (h1 : xs.length ≤ cap) (h2 : cap ≤ cur.size) (h3 : cap ≤ maxLen) (ht : cur.toList.take xs.length = xs) : Rw w e (.slice (some ⟨g, 0, none⟩) xs.length cap) xs :=
  .inr ⟨g, cap, cur, rfl, hg, h1, h2, h3, ht⟩
/-- The row's own block, or one that is made now. -/
def Nw (W : World) (v v' : Value) : Prop := v'.ownBlock = v.ownBlock ∨ ∃ g, v'.ownBlock = some g ∧ W.heap.size ≤ g
/-- append(v, ys...): v a row. -/
theorem run_apR {P : Program} {W : World} {e : TypeId} {v : Value} {xs ys : List Value} (h : Rw W e v xs) (t ty : TypeId) (i : TypeInfo) (z : Value) (bytes : Nat) (ht : P.underlying t = some (.slice e)) (hi : P.info? e = some i) (hz : i.zero = some z)
    (hsize : i.size = 1) (hby : i.bytes = bytes) (hzs : z.cells.size = 1) (ad : Addr) (m c : Nat) (hl : ys.length = m) (hnews : ∀ j u, ys[j]? = some u → W.cell? (ad.add j) = some u) (h1 : One ys) (hx : One xs) (hm : 0 < m) (h63 : xs.length + m ≤ maxLen) (hbytes : (xs.length + m) * bytes ≤ 140737488355328) :
    ∃ v' w', (Builtin.append_ #[t, t] ty #[v, .slice (some ad) m c]).run P W = .ok v' w' ∧ Rw w' e v' (xs ++ ys) ∧ W.grownBy w' v.ownBlock ∧ Nw W v v' := by
  rcases h with ⟨rfl, rfl⟩ | ⟨g, cap, cur, rfl, hg, hn, hcs, hmx, htk⟩
  · obtain ⟨v', w', hr, h2, h3, _, h5⟩ := run_append_own_at (P := P) W W.heap.size t ty e i z 1 bytes ht hi hz hsize hby hzs (by decide) (.slice none 0 0) 0 [] (World.ownsRow_nil W _ e 1) ad m c ys (by omega) hnews h1 (by simpa using h63) (by simpa using hbytes) (Nat.le_refl _)
    exact ⟨v', w', hr, Rw.of_own h2, h3, h5.imp id (fun e => ⟨_, e, Nat.le_refl _⟩)⟩
  · by_cases hr : xs.length + m ≤ cap
    · have hrun := run_append_room_cells (P := P) W t ty e i ht hi g 0 xs.length cap ad m c ys (by rw [hsize]; omega) hnews h1 hr (fun j hj => by
          rw [blk_cell hg, hsize]
          rw [Array.getElem?_eq_getElem (by omega)]
          rfl) (fun j hj => blk_frozen hg _)
      rw [hsize, Nat.mul_one, Nat.zero_add] at hrun
      obtain ⟨cur', k1, k2, k3⟩ := setCells_row ys xs.length W cur hg (by omega)
      refine ⟨_, _, hrun, ?_, ?_, .inl rfl⟩
      · have hla : (xs ++ ys).length = xs.length + m := by rw [List.length_append, hl]
        rw [← hla]
        refine Rw.mk k1 (by omega) (by omega) hmx ?_
        rw [k3, htk, hla, List.take_append_of_le_length (by rw [List.length_append]; omega)]
        exact List.take_of_length_le (by rw [List.length_append]; omega)
      · obtain ⟨a1, a2, a3, a4⟩ := setCells_same g ys xs.length W
        exact ⟨a1, a2, a3, by rw [a4]; exact Nat.le_refl _, fun k _ hk => setCells_far ys _ k (fun e => hk (by rw [e]; rfl))⟩
    · have hold : ∀ j u, xs[j]? = some u → W.cell? ((⟨g, 0, none⟩ : Addr).add j) = some u := fun j u hj => by
        have hjl := (List.getElem?_eq_some_iff.1 hj).1
        rw [add_plain, blk_cell hg, ← hj]
        conv => rhs; rw [← htk]
        rw [List.getElem?_take, if_pos hjl, Array.getElem?_toList]
      obtain ⟨v', w', hrun, r1, r2⟩ := run_append_arg_grows (P := P) W t ty e i z 1 bytes ht hi hz hsize hby hzs (by decide) ⟨g, 0, none⟩ xs.length cap xs (by omega) hold ad m c ys (by omega) hnews (by omega) h63 hbytes
      refine ⟨v', w', hrun, Rw.of_own r1, ⟨r2.os, r2.tape, r2.output, r2.size, fun k hk _ => r2.block k hk (by simp)⟩, ?_⟩
      right
      rcases r1.2 with ⟨_, h0⟩ | ⟨g', cap', cur', e1, hb, _⟩
      · omega
      · exact ⟨g', by rw [e1]; rfl, hb⟩
end Go.Proofs.Ytfhonfeopkhdeaa
