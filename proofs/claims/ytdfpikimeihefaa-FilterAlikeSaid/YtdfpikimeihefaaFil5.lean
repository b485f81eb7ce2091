/-
  filter.Undo: what it holds; its ends. No premise.
-/
import Derived.Test.YtdfpikimeihefaaFil3
import Derived.Test.YtdfpikimeihefaaBkI
import Derived.Test.YtdfpikimeihefaaMat2
namespace Go.Proofs.Ytdfpikimeihefaa
open Go.RowKit Go.Shelf Go.Proofs.YtdfpikimeihefaaW.PrintWords
attribute [local go_sem] Oper.semAt_some

theorem un1_len (f : Fl) (x : List Int) (hx : x.length ≤ 100000) : (un1 f x).1.length ≤ 100000 := by
  unfold un1
  split
  · exact Nat.le_trans (mxL_length unshL_length _ _) hx
  split
  · exact Nat.le_trans (mxL_length undelL_length _ _) hx
  split
  · have := (upk_most x 65536 (by decide)).1
    omega
  split
  · exact Nat.le_trans (usF_length x) hx
  · exact Nat.zero_le _
theorem un1_bts' (f : Fl) {x : List Int} (h : Bts x) : Bts (un1 f x).1 := un1_bts f h (upk_bts h _)
theorem rev_drop {l : List Fl} {k : Nat} (hk : k < l.length) : l.reverse.drop k = bkF l k :: l.reverse.drop (k + 1) := by
  have h1 : k < l.reverse.length := by rw [List.length_reverse]; exact hk
  rw [List.drop_eq_getElem_cons h1, List.getElem_reverse, bkF, List.getD_eq_getElem?_getD, List.getElem?_eq_getElem (by omega)]
  rfl
theorem und_on {l : List Fl} {k : Nat} (hk : k < l.length) {x b : List Int} (h : und (l.reverse.drop k) x = und l.reverse b) (hf : (un1 (bkF l k) x).2 = 0) : und (l.reverse.drop (k + 1)) (un1 (bkF l k) x).1 = und l.reverse b := by
  rw [rev_drop hk, und, if_pos hf] at h
  exact h
theorem und_off {l : List Fl} {k : Nat} (hk : k < l.length) {x b : List Int} (h : und (l.reverse.drop k) x = und l.reverse b) (hf : ¬ (un1 (bkF l k) x).2 = 0) : und l.reverse b = ([], 5) := by
  rw [rev_drop hk, und, if_neg hf] at h
  exact h.symm
theorem und_fin {l : List Fl} {x b : List Int} (h : und (l.reverse.drop l.length) x = und l.reverse b) : und l.reverse b = (x, 0) := by
  rw [← List.length_reverse, List.drop_length] at h
  exact h.symm

def UdPost (w : World) (l : List Fl) (b : List Int) (n : Int) (e : Ending) (w' : World) : Prop :=
  ∃ v, e = .returned (.tuple #[v, .int .i64 (udR l b n).2]) ∧ Own w' w.heap.size v (udR l b n).1 ∧ Below w.heap.size w w'
/-- What Undo holds. -/
structure UnSt (w0 : World) (bx bs : Nat) (A : Option Addr) (c : Nat) (l : List Fl) (v : Value) (x : List Int) (W : World) : Prop where
  r6 : W.heap[w0.heap.size]? = some (.cells #[.slice none 0 0] 28 (0, 0))
  r7 : W.heap[w0.heap.size + 1]? = some (.cells #[.int .i64 0] 23 (0, 0))
  bx : W.heap[bx]? = some (.cells #[v] 28 (0, 0))
  bs : W.heap[bs]? = some (.cells #[.slice A l.length c] 22 (0, 0))
  own : Own W w0.heap.size v x
  low : Below w0.heap.size w0 W
theorem UnSt.turn {w0 : World} {bx bs : Nat} {A : Option Addr} {c : Nat} {l : List Fl} {x : List Int} {v : Value} {w w' : World} (h : UnSt w0 bx bs A c l v x w) {row : Option Nat} (hg : w.grownBy w' row) (hr : ∀ r, row = some r → w0.heap.size ≤ r ∧ ∃ ob : Obj, w.heap[r]? = some ob ∧ ob.isCells = false) : UnSt w0 bx bs A c l v x w' := by
  have hc : ∀ {i : Nat} {cs : Array Value} {t : TypeId}, w.heap[i]? = some (.cells cs t (0, 0)) → w'.heap[i]? = some (.cells cs t (0, 0)) := fun hi => (grownBy_keeps_cells hg (fun r e => (hr r e).2) hi rfl).trans hi
  refine ⟨hc h.r6, hc h.r7, hc h.bx, hc h.bs, own_other h.own hg ?_, h.low.grown hg h.low.size (fun k e => (hr k e).1)⟩
  rcases h.own.2 with ⟨e, _⟩ | ⟨g, cap, cur, e, _, hgb, _⟩
  · exact .inl (by rw [e]; rfl)
  · refine .inr fun e' => ?_
    rw [e] at e'
    obtain ⟨_, ob, ho, hno⟩ := hr g e'.symm
    rw [hgb] at ho
    cases ho
    cases hno
theorem UnSt.keep {w0 : World} {bx bs : Nat} {A : Option Addr} {c : Nat} {l : List Fl} {x : List Int} {v : Value} {w w' : World} (h : UnSt w0 bx bs A c l v x w) (hb : Below w.heap.size w w') : UnSt w0 bx bs A c l v x w' := by
  have hc : ∀ {i : Nat} {cs : Array Value} {t : TypeId}, w.heap[i]? = some (.cells cs t (0, 0)) → w'.heap[i]? = some (.cells cs t (0, 0)) := fun hi => (hb.block _ (Array.getElem?_eq_some_iff.1 hi).1).trans hi
  exact ⟨hc h.r6, hc h.r7, hc h.bx, hc h.bs, own_step h.own hb, h.low.trans (hb.mono h.low.size)⟩
theorem UnSt.step {w0 : World} {bx bs : Nat} {A : Option Addr} {c : Nat} {l : List Fl} {x x' : List Int} {v v' : Value} {w : World} (h : UnSt w0 bx bs A c l v x w) (ho : Own w w0.heap.size v' x') (h1 : w0.heap.size + 1 < bx) (h2 : bx ≠ bs) : UnSt w0 bx bs A c l v' x' (w.setCell ⟨bx, 0, none⟩ v') := by
  refine ⟨?_, ?_, ?_, ?_, own_setCell ho (own_ne ho h.bx (by decide)) _, h.low.setCell (p := ⟨bx, 0, none⟩) (by show w0.heap.size ≤ bx; omega) _⟩
  · exact (Below.heap_setCell _ _ _ _ (by show w0.heap.size ≠ bx; omega)).trans h.r6
  · exact (Below.heap_setCell _ _ _ _ (by show w0.heap.size + 1 ≠ bx; omega)).trans h.r7
  · have := blk_set h.bx 0 v'
    exact this
  · exact (Below.heap_setCell _ _ _ _ (by show bs ≠ bx; omega)).trans h.bs
theorem keeps_below {W W' : World} (h : Below W.heap.size W W') : KeepsOthers W W' := ⟨h.size, fun k _ hk _ => (h.block k (Array.getElem?_eq_some_iff.1 hk).1).trans hk⟩
theorem ud_res {tmps : Array Value} {W : World} {p q : Addr} {v : Value} {x : Int} (h6 : tmps[6]?.getD undef = .pointer (some p)) (h7 : tmps[7]?.getD undef = .pointer (some q)) (c6 : W.cell? p = some v) (c7 : W.cell? q = some (.int .i64 x)) : (results Try.f18 tmps).run Try.prog W = .ok (.tuple #[v, .int .i64 x]) W := by
  simp [results, Try.results18, go_sem, h6, h7, c6, c7]
end Go.Proofs.Ytdfpikimeihefaa
