/-
  A tree of coordinates and the reference's list of coordinates in one world. No premise.
-/
import Derived.Test.YtfhonfeopkhdeaaBtRd
import Derived.Test.YtfhonfeopkhdeaaBtLs
import Derived.Test.YtfhonfeopkhdeaaBtL7
namespace Go.Proofs.Ytfhonfeopkhdeaa.RC
open Go.RowKit Go.Proofs.YtfhonfeopkhdeaaW.PrintWords
open BC (idc kv Ck)

theorem blk_ix {w : World} {b : Nat} {x : Obj} (h : w.heap[b]? = some x) : b < w.heap.size := (Array.getElem?_eq_some_iff.1 h).1
theorem RL.keep {w w' : World} {S : Nat → Prop} {r : Nat} {K : List Kv} (h : RL w S r K) (hlt : ∀ b, S b → b < w.heap.size) (hk : ∀ b, b < w.heap.size → S b → w'.heap[b]? = w.heap[b]?) : RL w' S r K := by
  obtain ⟨J, ej, h⟩ := h
  obtain ⟨kA, kc, vA, vc, h1, h2, h3, h4, h5, h6⟩ := h.box
  exact ⟨J, ej, ⟨kA, kc, vA, vc, (hk r (hlt r h.sr) h.sr).trans h1, h2.keep fun g hg hl => hk g hl (h4 g hg), h3.keep fun g hg hl => hk g hl (h5 g hg), h4, h5, fun k hk2 => (h6 k hk2).keep (fun _ h => h) fun g cur hc hS => hk g (blk_ix hc) hS⟩, h.sr⟩
/-- The tree holds L, the reference's list K; they have no block in common, and none of the world ahead, nor of the boxes bx. -/
structure Nc (w : World) (bx : List (Nat × Obj)) (p m r : Nat) (L K : List Kv) (W : World) : Prop where
  ab : ∃ bt o S, BC.CT bt W o p m L ∧ RL W S r K ∧ (∀ b, S b → o b = 0 ∧ b < W.heap.size) ∧ (∀ b, b < w.heap.size → o b = 0 ∧ ¬ S b) ∧ ∀ q ∈ bx, o q.1 = 0 ∧ ¬ S q.1
  bh : ∀ q ∈ bx, W.heap[q.1]? = some q.2 ∧ w.heap.size ≤ q.1
  bl : Below w.heap.size w W
  ss : SortedL idc K
  hm : 3 ≤ m ∧ m ≤ 64
theorem Nc.below {w W W' : World} {bx : List (Nat × Obj)} {p m r : Nat} {L K : List Kv} (h : Nc w bx p m r L K W) (hb : Below W.heap.size W W') : Nc w bx p m r L K W' := by
  obtain ⟨⟨bt, o, S, h1, h2, h3, h4, h9⟩, h10, h5, h7, h8⟩ := h
  exact ⟨⟨bt, o, S, h1.keep hb.size fun b hlt _ => hb.block b hlt, h2.keep (fun b hs => (h3 b hs).2) fun b hlt _ => hb.block b hlt, fun b hs => ⟨(h3 b hs).1, Nat.lt_of_lt_of_le (h3 b hs).2 hb.size⟩, h4, h9⟩, fun q e => ⟨(hb.block q.1 (blk_ix (h10 q e).1)).trans (h10 q e).1, (h10 q e).2⟩, h5.trans (hb.mono h5.size), h7, h8⟩
theorem Nc.drewN {w W : World} {bx : List (Nat × Obj)} {p m r : Nat} {L K : List Kv} (h : Nc w bx p m r L K W) (n : Nat) : Nc w bx p m r L K (W.drewN n) := h.below ⟨rfl, rfl, rfl, Nat.le_refl _, fun _ _ => rfl⟩
theorem Nc.stepT {w W W' : World} {bx : List (Nat × Obj)} {p m r bt : Nat} {L' K : List Kv} {o o' : Nat → Nat} {S : Nat → Prop} (h2 : RL W S r K) (h3 : ∀ b, S b → o b = 0 ∧ b < W.heap.size) (h4 : ∀ b, b < w.heap.size → o b = 0 ∧ ¬ S b) (h9 : ∀ q ∈ bx, o q.1 = 0 ∧ ¬ S q.1) (h10 : ∀ q ∈ bx, W.heap[q.1]? = some q.2 ∧ w.heap.size ≤ q.1) (hb : Below w.heap.size w W) (hs : SortedL idc K) (hm : 3 ≤ m ∧ m ≤ 64) (u : BC.UpB bt o o' W W') (hn : BC.CT bt W' o' p m L') : Nc w bx p m r L' K W' := by
  refine ⟨⟨bt, o', S, hn, h2.keep (fun b hs => (h3 b hs).2) fun b hlt hs => u.blk b hlt (fun e => by rw [(h3 b hs).1] at e; omega), fun b hs => ⟨?_, Nat.lt_of_lt_of_le (h3 b hs).2 u.size⟩, fun b hlt => ⟨?_, (h4 b hlt).2⟩, fun q e => ⟨(u.old q.1 (blk_ix (h10 q e).1)).trans (h9 q e).1, (h9 q e).2⟩⟩, fun q e => ⟨(u.blk q.1 (blk_ix (h10 q e).1) (fun e2 => by rw [(h9 q e).1] at e2; omega)).trans (h10 q e).1, (h10 q e).2⟩, ?_, hs, hm⟩
  · rw [u.old b (h3 b hs).2]; exact (h3 b hs).1
  · rw [u.old b (Nat.lt_of_lt_of_le hlt hb.size)]; exact (h4 b hlt).1
  · exact hb.trans (u.below hb.size fun b hlt e => by rw [(h4 b hlt).1] at e; omega)
theorem Nc.stepR {w W W' : World} {bx : List (Nat × Obj)} {p m r bt : Nat} {L K' : List Kv} {o : Nat → Nat} {S S' : Nat → Prop} (h1 : BC.CT bt W o p m L) (h3 : ∀ b, S b → o b = 0 ∧ b < W.heap.size) (h4 : ∀ b, b < w.heap.size → o b = 0 ∧ ¬ S b) (h9 : ∀ q ∈ bx, o q.1 = 0 ∧ ¬ S q.1) (h10 : ∀ q ∈ bx, W.heap[q.1]? = some q.2 ∧ w.heap.size ≤ q.1) (hb : Below w.heap.size w W) (hs : SortedL idc K') (hm : 3 ≤ m ∧ m ≤ 64) (c : Ch W S W' S') (hr : RL W' S' r K') : Nc w bx p m r L K' W' := by
  refine ⟨⟨bt, o, S', h1.keep c.size fun b hlt hne => c.blk b hlt (fun hs => hne (h3 b hs).1), hr, fun b hs => ?_, fun b hlt => ⟨(h4 b hlt).1, fun hs => ?_⟩, fun q e => ⟨(h9 q e).1, fun hs => (c.s2 q.1 hs).elim (h9 q e).2 fun h => by have := blk_ix (h10 q e).1; omega⟩⟩, fun q e => ⟨(c.blk q.1 (blk_ix (h10 q e).1) (h9 q e).2).trans (h10 q e).1, (h10 q e).2⟩, ?_, hs, hm⟩
  · rcases c.s2 b hs with h | h
    · exact ⟨(h3 b h).1, Nat.lt_of_lt_of_le (h3 b h).2 c.size⟩
    · exact ⟨h1.fb.end_ b h.1, h.2⟩
  · rcases c.s2 b hs with h | h
    · exact (h4 b hlt).2 h
    · have := hb.size; omega
  · exact hb.trans ⟨c.os, c.tape, c.output, c.size, fun b hlt => c.blk b (Nat.lt_of_lt_of_le hlt hb.size) (h4 b hlt).2⟩
theorem Nc.tput {w W : World} {bx : List (Nat × Obj)} {p m r : Nat} {L K : List Kv} (h : Nc w bx p m r L K W) (k : Ck) (hk : BC.KRd W k) (v : Int) (hl : L.length < 65536) :
    Calls Try.prog 32 #[.pointer (some ⟨p, 0, none⟩), .slice k.A k.l.length k.c, .int .u64 v] W fun e w' => e = .returned (.tuple #[.bool (getL idc k.l L).isNone, .int .i64 0]) ∧ Nc w bx p m r (insL idc k.l v L) K w' := by
  obtain ⟨⟨bt, o, S, h1, h2, h3, h4, h9⟩, h10, h5, h7, h8⟩ := h
  refine (h1.put h8 k hk v hl).mono ?_
  rintro e w' ⟨o', hu, hn, rfl⟩
  exact ⟨rfl, Nc.stepT h2 h3 h4 h9 h10 h5 h7 h8 hu hn⟩
theorem Nc.tdrop {w W : World} {bx : List (Nat × Obj)} {p m r : Nat} {L K : List Kv} (h : Nc w bx p m r L K W) (k : Ck) (hk : BC.KRd W k) (hl : L.length ≤ 65536) :
    Calls Try.prog 36 #[.pointer (some ⟨p, 0, none⟩), .slice k.A k.l.length k.c] W fun e w' => e = .returned (.bool (getL idc k.l L).isSome) ∧ Nc w bx p m r (delL idc k.l L) K w' := by
  obtain ⟨⟨bt, o, S, h1, h2, h3, h4, h9⟩, h10, h5, h7, h8⟩ := h
  refine (h1.drop h8 k hk hl).mono ?_
  rintro e w' ⟨o', hu, hn, rfl⟩
  exact ⟨rfl, Nc.stepT h2 h3 h4 h9 h10 h5 h7 h8 hu hn⟩
theorem Nc.tget {w W : World} {bx : List (Nat × Obj)} {p m r : Nat} {L K : List Kv} (h : Nc w bx p m r L K W) (k : Ck) (hk : BC.KRd W k) :
    Calls Try.prog 34 #[.pointer (some ⟨p, 0, none⟩), .slice k.A k.l.length k.c] W (BC.GetP (getL idc k.l L) W) := by
  obtain ⟨⟨bt, o, S, h1, h2, h3, h4, h9⟩, h10, h5, h7, h8⟩ := h
  exact h1.get h8 k hk
theorem Nc.tlen {w W : World} {bx : List (Nat × Obj)} {p m r : Nat} {L K : List Kv} (h : Nc w bx p m r L K W) :
    Calls Try.prog 43 #[.pointer (some ⟨p, 0, none⟩)] W fun e w' => e = .returned (.int .i64 L.length) ∧ w' = W := by
  obtain ⟨⟨bt, o, S, h1, h2, h3, h4, h9⟩, h10, h5, h7, h8⟩ := h
  exact h1.len
theorem Nc.tkeys {w W : World} {bx : List (Nat × Obj)} {p m r : Nat} {L K : List Kv} (h : Nc w bx p m r L K W) (hl : L.length ≤ 65536) :
    Calls Try.prog 39 #[.pointer (some ⟨p, 0, none⟩)] W (BC.KeysP L W) := by
  obtain ⟨⟨bt, o, S, h1, h2, h3, h4, h9⟩, h10, h5, h7, h8⟩ := h
  exact h1.keys h8 hl
theorem Nc.tspan {w W : World} {bx : List (Nat × Obj)} {p m r : Nat} {L K : List Kv} (h : Nc w bx p m r L K W) (hl : L.length ≤ 65536) (low high : Ck) (hlo : BC.KRd W low) (hhi : BC.KRd W high) :
    Calls Try.prog 41 #[.pointer (some ⟨p, 0, none⟩), .slice low.A low.l.length low.c, .slice high.A high.l.length high.c] W (BC.SpanP ((L.map (·.1)).filter fun k => !BC.outC low.l high.l k) W) := by
  obtain ⟨⟨bt, o, S, h1, h2, h3, h4, h9⟩, h10, h5, h7, h8⟩ := h
  exact h1.span h8 hl low high hlo hhi
theorem Nc.rput {w W : World} {bx : List (Nat × Obj)} {p m r : Nat} {L K : List Kv} (h : Nc w bx p m r L K W) (k : Ck) (hk : BC.KRd W k) (v : Int) (hl : K.length < 65536) :
    Calls Try.prog 33 #[.pointer (some ⟨r, 0, none⟩), .slice k.A k.l.length k.c, .int .u64 v] W fun e w' => e = .returned (.tuple #[.bool (getL idc k.l K).isNone, .int .i64 0]) ∧ Nc w bx p m r L (insL idc k.l v K) w' := by
  obtain ⟨⟨bt, o, S, h1, h2, h3, h4, h9⟩, h10, h5, h7, h8⟩ := h
  refine (rPut_any r S K k v W h2 h7 hl hk).mono ?_
  rintro e w' ⟨rfl, S', hr, hc⟩
  exact ⟨rfl, Nc.stepR h1 h3 h4 h9 h10 h5 (insL_sorted h7) h8 hc hr⟩
theorem Nc.rdrop {w W : World} {bx : List (Nat × Obj)} {p m r : Nat} {L K : List Kv} (h : Nc w bx p m r L K W) (k : Ck) (hk : BC.KRd W k) (hl : K.length ≤ 65536) :
    Calls Try.prog 37 #[.pointer (some ⟨r, 0, none⟩), .slice k.A k.l.length k.c] W fun e w' => e = .returned (.bool (getL idc k.l K).isSome) ∧ Nc w bx p m r L (delL idc k.l K) w' := by
  obtain ⟨⟨bt, o, S, h1, h2, h3, h4, h9⟩, h10, h5, h7, h8⟩ := h
  refine (rDrop_any r S K k W h2 h7 (by omega) hk).mono ?_
  rintro e w' ⟨rfl, S', hr, hc⟩
  exact ⟨rfl, Nc.stepR h1 h3 h4 h9 h10 h5 (delL_sorted h7) h8 hc hr⟩
theorem Nc.rget {w W : World} {bx : List (Nat × Obj)} {p m r : Nat} {L K : List Kv} (h : Nc w bx p m r L K W) (k : Ck) (hk : BC.KRd W k) (hl : K.length ≤ 65536) :
    Calls Try.prog 35 #[.pointer (some ⟨r, 0, none⟩), .slice k.A k.l.length k.c] W (BC.GetP (getL idc k.l K) W) := by
  obtain ⟨⟨bt, o, S, h1, h2, h3, h4, h9⟩, h10, h5, h7, h8⟩ := h
  exact rGet_any r S K k W h2 h7 (by omega) hk
theorem Nc.rspan {w W : World} {bx : List (Nat × Obj)} {p m r : Nat} {L K : List Kv} (h : Nc w bx p m r L K W) (low high : Ck) (hlo : BC.KRd W low) (hhi : BC.KRd W high) (hl : K.length ≤ 65536) :
    Calls Try.prog 42 #[.pointer (some ⟨r, 0, none⟩), .slice low.A low.l.length low.c, .slice high.A high.l.length high.c] W (BC.SpanP ((K.map (·.1)).filter fun k => !BC.outC low.l high.l k) W) := by
  obtain ⟨⟨bt, o, S, h1, h2, h3, h4, h9⟩, h10, h5, h7, h8⟩ := h
  exact rSpan_any r S K low high W h2 (by omega) hlo hhi
/-- The row of coordinates in the reference's hands. -/
theorem Nc.row {w W : World} {bx : List (Nat × Obj)} {p m r : Nat} {L K : List Kv} (h : Nc w bx p m r L K W) : ∃ (J : List Ck) (A : Option Addr) (c : Nat), J.map (·.l) = K.map (·.1) ∧ W.cell? ⟨r, 0, none⟩ = some (.slice A K.length c) ∧ Rw W 22 (.slice A K.length c) (BC.ksR J) ∧ ∀ k ∈ J, BC.KRd W k := by
  obtain ⟨⟨bt, o, S, h1, h2, h3, h4, h9⟩, h10, h5, h7, h8⟩ := h
  obtain ⟨J, kA, kc, vA, vc, hc⟩ := h2.open
  exact ⟨J, kA, kc, hc.ek, hc.cell.1, hc.rk, fun k hk => (hc.fs k hk).rd⟩
/-- A box that was made since. -/
theorem Nc.fresh {w W W' : World} {bx : List (Nat × Obj)} {p m r : Nat} {L K : List Kv} (h : Nc w bx p m r L K W) (hb : Below W.heap.size W W') (q : Nat × Obj) (hq : W.heap.size ≤ q.1) (hx : W'.heap[q.1]? = some q.2) : Nc w (q :: bx) p m r L K W' := by
  obtain ⟨⟨bt, o, S, h1, h2, h3, h4, h9⟩, h10, h5, h7, h8⟩ := h
  refine ⟨⟨bt, o, S, h1.keep hb.size fun b hlt _ => hb.block b hlt, h2.keep (fun b hs => (h3 b hs).2) fun b hlt _ => hb.block b hlt, fun b hs => ⟨(h3 b hs).1, Nat.lt_of_lt_of_le (h3 b hs).2 hb.size⟩, h4, fun z hz => ?_⟩, fun z hz => ?_, h5.trans (hb.mono h5.size), h7, h8⟩
  · rcases List.mem_cons.1 hz with rfl | hz
    · exact ⟨h1.fb.end_ _ hq, fun hs => by have := (h3 _ hs).2; omega⟩
    · exact h9 z hz
  · rcases List.mem_cons.1 hz with rfl | hz
    · exact ⟨hx, Nat.le_trans h5.size hq⟩
    · exact ⟨(hb.block z.1 (blk_ix (h10 z hz).1)).trans (h10 z hz).1, (h10 z hz).2⟩
theorem Nc.forget {w W : World} {bx : List (Nat × Obj)} {p m r : Nat} {L K : List Kv} (h : Nc w bx p m r L K W) : Nc w [] p m r L K W := by
  obtain ⟨⟨bt, o, S, h1, h2, h3, h4, h9⟩, h10, h5, h7, h8⟩ := h
  exact ⟨⟨bt, o, S, h1, h2, h3, h4, fun q e => (by cases e)⟩, fun q e => (by cases e), h5, h7, h8⟩
/-- A cell of the first box is turned. -/
theorem Nc.poke {w W : World} {bx : List (Nat × Obj)} {p m r g : Nat} {cur : Array Value} {t : TypeId} {L K : List Kv} (h : Nc w ((g, .cells cur t (0, 0)) :: bx) p m r L K W) (j : Nat) (x : Value) : Nc w [(g, .cells (cur.setIfInBounds j x) t (0, 0))] p m r L K (W.setCell ⟨g, j, none⟩ x) := by
  obtain ⟨⟨bt, o, S, h1, h2, h3, h4, h9⟩, h10, h5, h7, h8⟩ := h
  obtain ⟨b1, b2⟩ := h10 _ List.mem_cons_self
  obtain ⟨t1, t2⟩ := h9 _ List.mem_cons_self
  have hsz : (W.setCell ⟨g, j, none⟩ x).heap.size = W.heap.size := by simp [World.setCell]
  have hne : ∀ b, b ≠ g → (W.setCell ⟨g, j, none⟩ x).heap[b]? = W.heap[b]? := fun b hb => Below.heap_setCell W ⟨g, j, none⟩ x b hb
  refine ⟨⟨bt, o, S, h1.keep (by rw [hsz]; exact Nat.le_refl _) fun b _ ho => hne b (fun e => ho (by rw [e]; exact t1)), h2.keep (fun b hs => (h3 b hs).2) fun b _ hs => hne b (fun e => t2 (by rw [← e]; exact hs)), fun b hs => ⟨(h3 b hs).1, by rw [hsz]; exact (h3 b hs).2⟩, h4, fun z hz => ?_⟩, fun z hz => ?_, h5.trans ⟨rfl, rfl, rfl, by rw [hsz]; exact Nat.le_refl _, fun b hb => hne b (fun e => by rw [e] at hb; exact absurd b2 (by omega))⟩, h7, h8⟩
  · rw [List.mem_singleton.1 hz]
    exact ⟨t1, t2⟩
  · rw [List.mem_singleton.1 hz]
    exact ⟨blk_set b1 j x, b2⟩
theorem Nc.one {w W : World} {q : Nat × Obj} {bx : List (Nat × Obj)} {p m r : Nat} {L K : List Kv} (h : Nc w (q :: bx) p m r L K W) : Nc w [q] p m r L K W := by
  obtain ⟨⟨bt, o, S, h1, h2, h3, h4, h9⟩, h10, h5, h7, h8⟩ := h
  exact ⟨⟨bt, o, S, h1, h2, h3, h4, fun z hz => h9 z (by rw [List.mem_singleton.1 hz]; exact List.mem_cons_self)⟩, fun z hz => h10 z (by rw [List.mem_singleton.1 hz]; exact List.mem_cons_self), h5, h7, h8⟩
def zc : Nat → Nat := fun _ => 0
/-- A new tree and a new list. -/
theorem Nc.new (m : Nat) (hm : 3 ≤ m ∧ m ≤ 64) (w : World) :
    Calls Try.prog 31 #[.int .i64 m] w fun e w1 => ∃ p, e = .returned (.pointer (some ⟨p, 0, none⟩)) ∧ Nc w [] p m w1.heap.size [] [] (w1.alloc (.cells #[.slice none 0 0, .slice none 0 0] 71)) := by
  refine (BC.CT.made m w zc ⟨fun _ _ => rfl, fun _ => by show 0 < _; omega⟩ hm).mono ?_
  rintro e w1 ⟨p, o, rfl, hn, hu⟩
  have hb1 : Below w.heap.size w w1 := hu.below (Nat.le_refl _) (fun b _ e => by rw [show zc b = 0 from rfl] at e; omega)
  have hsz : (w1.alloc (.cells #[.slice none 0 0, .slice none 0 0] 71)).heap.size = w1.heap.size + 1 := by
    show (w1.heap.push _).size = _
    exact Array.size_push _
  have hba : Below w1.heap.size w1 (w1.alloc (.cells #[.slice none 0 0, .slice none 0 0] 71)) := (Below.refl _ _).alloc (Nat.le_refl _) _
  refine ⟨p, rfl, ⟨_, o, fun b => b = w1.heap.size, hn.keep hba.size fun b hlt _ => hba.block b hlt, ⟨[], rfl, ⟨none, 0, none, 0, BS.top_blk w1 _ _, Rw.nil _ _, Rw.nil _ _, fun g hg => (by cases hg), fun g hg => (by cases hg), fun k hk => (by cases hk)⟩, rfl⟩, fun b e => ?_, fun b hlt => ⟨hu.old b hlt, fun e => ?_⟩, fun q e => (by cases e)⟩, fun q e => (by cases e), hb1.trans (hba.mono hb1.size), List.Pairwise.nil, hm⟩
  · rw [e, hsz]
    exact ⟨hn.fb.end_ _ (Nat.le_refl _), Nat.lt_succ_self _⟩
  · have := hb1.size
    omega
/-- Coordinates that may be written over. -/
def Wk (B : Nat) (W : World) (k : Ck) : Prop := 0 < k.l.length → ∃ (g : Nat) (cur : Array Value), k.A = some ⟨g, 0, none⟩ ∧ W.heap[g]? = some (.cells cur 3 (0, 0)) ∧ k.l.length ≤ cur.size ∧ B ≤ g
theorem Wk.of {B : Nat} {W : World} {k : Ck} (h : BC.Fk B W k) : Wk B W k := fun h0 => by
  have hil : (BC.iR k.l).length = k.l.length := List.length_map _
  rcases h.rw_ with ⟨_, e⟩ | ⟨g, cap, cur, e, h1, h2, h3, _⟩
  · rw [← hil, e] at h0; simp at h0
  · have h4 : k.A = some ⟨g, 0, none⟩ := (Value.slice.inj e).1
    exact ⟨g, cur, h4, h1, by rw [hil] at h2; omega, h.fr g (by unfold BC.kv; rw [h4]; rfl)⟩
/-- A row of coordinates while these are written over. -/
structure Sp (wr W : World) (A : Option Addr) (n c : Nat) (K : List Ck) : Prop where
  rw_ : Rw W 22 (.slice A n c) (BC.ksR K)
  wk : ∀ k ∈ K, Wk wr.heap.size W k
  le : ∀ k ∈ K, k.l.length ≤ 17592186044000
  bl : Below wr.heap.size wr W
theorem Sp.at_ {wr W : World} {g n c : Nat} {K : List Ck} (h : Sp wr W (some ⟨g, 0, none⟩) n c K) {j : Nat} (hj : j < K.length) : W.cell? ⟨g, j, none⟩ = some (.slice K[j].A K[j].l.length K[j].c) := by
  obtain ⟨g', e, hc⟩ := h.rw_.cells (by rw [BC.ksR, List.length_map]; omega)
  cases e
  exact hc j _ (by rw [BC.ksR, List.getElem?_map, List.getElem?_eq_getElem hj]; rfl)
theorem Sp.poke {wr W : World} {A : Option Addr} {n c g : Nat} {K : List Ck} {cur : Array Value} (h : Sp wr W A n c K) (hb : W.heap[g]? = some (.cells cur 3 (0, 0))) (hg : wr.heap.size ≤ g) (j : Nat) (x : Value) : Sp wr (W.setCell ⟨g, j, none⟩ x) A n c K := by
  have hne : ∀ b, b ≠ g → (W.setCell ⟨g, j, none⟩ x).heap[b]? = W.heap[b]? := fun b hb => Below.heap_setCell W ⟨g, j, none⟩ x b hb
  refine ⟨h.rw_.keep fun b hb2 _ => ?_, fun k hk h0 => ?_, h.le, h.bl.trans ⟨rfl, rfl, rfl, by simp [World.setCell], fun b hlt => hne b (by omega)⟩⟩
  · obtain ⟨cs, hc⟩ := h.rw_.blk hb2
    exact hne b (blk_ne hc hb (by decide))
  · obtain ⟨g2, cur2, e, h1, h2, h3⟩ := h.wk k hk h0
    by_cases hgg : g2 = g
    · subst hgg
      rw [hb] at h1
      cases h1
      exact ⟨g2, _, e, blk_set hb j x, by rw [Array.size_setIfInBounds]; exact h2, h3⟩
    · exact ⟨g2, cur2, e, (hne g2 hgg).trans h1, h2, h3⟩
end Go.Proofs.Ytfhonfeopkhdeaa.RC
