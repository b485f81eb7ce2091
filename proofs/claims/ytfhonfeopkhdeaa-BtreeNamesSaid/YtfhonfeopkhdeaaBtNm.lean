/-
  A tree of names and the reference's list of names in one world. No premise.
-/
import Derived.Test.YtfhonfeopkhdeaaBtRf
namespace Go.Proofs.Ytfhonfeopkhdeaa
open Go.RowKit Go.Proofs.YtfhonfeopkhdeaaW.PrintWords

theorem blk_ix {w : World} {b : Nat} {x : Obj} (h : w.heap[b]? = some x) : b < w.heap.size := (Array.getElem?_eq_some_iff.1 h).1
/-- The tree holds L, the reference's list K; they have no block in common, and none of the world ahead. -/
structure Nr (w : World) (bx : Option (Nat × Obj)) (p m r : Nat) (L K : List (BS.Ky × Int)) (W : World) : Prop where
  ab : ∃ bt o S, BS.NT bt W o p m L ∧ RL W S r K ∧ (∀ b, S b → o b = 0 ∧ b < W.heap.size) ∧ (∀ b, b < w.heap.size → o b = 0 ∧ ¬ S b) ∧ (∀ b x, bx = some (b, x) → o b = 0 ∧ ¬ S b)
  bh : ∀ b x, bx = some (b, x) → W.heap[b]? = some x
  bl : Below w.heap.size w W
  sz : ∀ a ∈ K, Nm a.1
  ss : SortedL BS.kct K
  hm : 3 ≤ m ∧ m ≤ 64
theorem RL.keep {w w' : World} {S : Nat → Prop} {r : Nat} {K : List (BS.Ky × Int)} (h : RL w S r K) (hlt : ∀ b, S b → b < w.heap.size) (hk : ∀ b, b < w.heap.size → S b → w'.heap[b]? = w.heap[b]?) : RL w' S r K := by
  obtain ⟨kA, kc, vA, vc, h1, h2, h3, h4, h5⟩ := h.box
  exact ⟨⟨kA, kc, vA, vc, (hk r (hlt r h.sr) h.sr).trans h1, h2.keep fun g hg hl => hk g hl (h4 g hg), h3.keep fun g hg hl => hk g hl (h5 g hg), h4, h5⟩, h.sr⟩
theorem Nr.below {w W W' : World} {bx : Option (Nat × Obj)} {p m r : Nat} {L K : List (BS.Ky × Int)} (h : Nr w bx p m r L K W) (hb : Below W.heap.size W W') : Nr w bx p m r L K W' := by
  obtain ⟨⟨bt, o, S, h1, h2, h3, h4, h9⟩, h10, h5, h6, h7, h8⟩ := h
  exact ⟨⟨bt, o, S, h1.keep hb.size fun b hlt _ => hb.block b hlt, h2.keep (fun b hs => (h3 b hs).2) fun b hlt _ => hb.block b hlt, fun b hs => ⟨(h3 b hs).1, Nat.lt_of_lt_of_le (h3 b hs).2 hb.size⟩, h4, h9⟩, fun b x e => (hb.block b (blk_ix (h10 b x e))).trans (h10 b x e), h5.trans (hb.mono h5.size), h6, h7, h8⟩
theorem Nr.drewN {w W : World} {bx : Option (Nat × Obj)} {p m r : Nat} {L K : List (BS.Ky × Int)} (h : Nr w bx p m r L K W) (n : Nat) : Nr w bx p m r L K (W.drewN n) := h.below ⟨rfl, rfl, rfl, Nat.le_refl _, fun _ _ => rfl⟩
theorem Nr.stepT {w W W' : World} {bx : Option (Nat × Obj)} {p m r bt : Nat} {L' K : List (BS.Ky × Int)} {o o' : Nat → Nat} {S : Nat → Prop} (h2 : RL W S r K) (h3 : ∀ b, S b → o b = 0 ∧ b < W.heap.size) (h4 : ∀ b, b < w.heap.size → o b = 0 ∧ ¬ S b) (h9 : ∀ b x, bx = some (b, x) → o b = 0 ∧ ¬ S b) (h10 : ∀ b x, bx = some (b, x) → W.heap[b]? = some x) (hb : Below w.heap.size w W) (hz : ∀ a ∈ K, Nm a.1) (hs : SortedL BS.kct K) (hm : 3 ≤ m ∧ m ≤ 64) (u : BS.UpB bt o o' W W') (hn : BS.NT bt W' o' p m L') : Nr w bx p m r L' K W' := by
  refine ⟨⟨bt, o', S, hn, h2.keep (fun b hs => (h3 b hs).2) fun b hlt hs => u.blk b hlt (fun e => by rw [(h3 b hs).1] at e; omega), fun b hs => ⟨?_, Nat.lt_of_lt_of_le (h3 b hs).2 u.size⟩, fun b hlt => ⟨?_, (h4 b hlt).2⟩, fun b x e => ⟨(u.old b (blk_ix (h10 b x e))).trans (h9 b x e).1, (h9 b x e).2⟩⟩, fun b x e => (u.blk b (blk_ix (h10 b x e)) (fun e2 => by rw [(h9 b x e).1] at e2; omega)).trans (h10 b x e), ?_, hz, hs, hm⟩
  · rw [u.old b (h3 b hs).2]; exact (h3 b hs).1
  · rw [u.old b (Nat.lt_of_lt_of_le hlt hb.size)]; exact (h4 b hlt).1
  · exact hb.trans (u.below hb.size fun b hlt e => by rw [(h4 b hlt).1] at e; omega)
theorem Nr.stepR {w W W' : World} {bx : Option (Nat × Obj)} {p m r bt : Nat} {L K' : List (BS.Ky × Int)} {o : Nat → Nat} {S S' : Nat → Prop} (h1 : BS.NT bt W o p m L) (h3 : ∀ b, S b → o b = 0 ∧ b < W.heap.size) (h4 : ∀ b, b < w.heap.size → o b = 0 ∧ ¬ S b) (h9 : ∀ b x, bx = some (b, x) → o b = 0 ∧ ¬ S b) (h10 : ∀ b x, bx = some (b, x) → W.heap[b]? = some x) (hb : Below w.heap.size w W) (hz : ∀ a ∈ K', Nm a.1) (hs : SortedL BS.kct K') (hm : 3 ≤ m ∧ m ≤ 64) (c : Ch W S W' S') (hr : RL W' S' r K') : Nr w bx p m r L K' W' := by
  refine ⟨⟨bt, o, S', h1.keep c.size fun b hlt hne => c.blk b hlt (fun hs => hne (h3 b hs).1), hr, fun b hs => ?_, fun b hlt => ⟨(h4 b hlt).1, fun hs => ?_⟩, fun b x e => ⟨(h9 b x e).1, fun hs => (c.s2 b hs).elim (h9 b x e).2 fun h => by have := blk_ix (h10 b x e); omega⟩⟩, fun b x e => (c.blk b (blk_ix (h10 b x e)) (h9 b x e).2).trans (h10 b x e), ?_, hz, hs, hm⟩
  · rcases c.s2 b hs with h | h
    · exact ⟨(h3 b h).1, Nat.lt_of_lt_of_le (h3 b h).2 c.size⟩
    · exact ⟨h1.fb.end_ b h.1, h.2⟩
  · rcases c.s2 b hs with h | h
    · exact (h4 b hlt).2 h
    · have := hb.size; omega
  · exact hb.trans ⟨c.os, c.tape, c.output, c.size, fun b hlt => c.blk b (Nat.lt_of_lt_of_le hlt hb.size) (h4 b hlt).2⟩
theorem ins_sz {K : List (BS.Ky × Int)} (h : ∀ a ∈ K, Nm a.1) {k : ByteArray} (hk : Nm k) (v : Int) : ∀ a ∈ insL BS.kct k v K, Nm a.1 := fun a ha => by
  rcases insL_mem ha with e | ⟨y, hy, e⟩
  · rw [e]; exact hk
  · rw [← e]; exact h y hy
theorem Nr.tput {w W : World} {bx : Option (Nat × Obj)} {p m r : Nat} {L K : List (BS.Ky × Int)} (h : Nr w bx p m r L K W) (k : ByteArray) (v : Int) (hl : L.length < 65536) :
    Calls Try.prog 22 #[.pointer (some ⟨p, 0, none⟩), .string k, .int .u64 v] W fun e w' => e = .returned (.tuple #[.bool (getL BS.kct k L).isNone, .int .i64 0]) ∧ Nr w bx p m r (insL BS.kct k v L) K w' := by
  obtain ⟨⟨bt, o, S, h1, h2, h3, h4, h9⟩, h10, h5, h6, h7, h8⟩ := h
  refine (h1.put h8 k v hl).mono ?_
  rintro e w' ⟨o', hu, hn, rfl⟩
  exact ⟨rfl, Nr.stepT h2 h3 h4 h9 h10 h5 h6 h7 h8 hu hn⟩
theorem Nr.tdrop {w W : World} {bx : Option (Nat × Obj)} {p m r : Nat} {L K : List (BS.Ky × Int)} (h : Nr w bx p m r L K W) (k : ByteArray) (hl : L.length ≤ 65536) :
    Calls Try.prog 23 #[.pointer (some ⟨p, 0, none⟩), .string k] W fun e w' => e = .returned (.bool (getL BS.kct k L).isSome) ∧ Nr w bx p m r (delL BS.kct k L) K w' := by
  obtain ⟨⟨bt, o, S, h1, h2, h3, h4, h9⟩, h10, h5, h6, h7, h8⟩ := h
  refine (h1.drop h8 k hl).mono ?_
  rintro e w' ⟨o', hu, hn, rfl⟩
  exact ⟨rfl, Nr.stepT h2 h3 h4 h9 h10 h5 h6 h7 h8 hu hn⟩
theorem Nr.tget {w W : World} {bx : Option (Nat × Obj)} {p m r : Nat} {L K : List (BS.Ky × Int)} (h : Nr w bx p m r L K W) (k : ByteArray) :
    Calls Try.prog 19 #[.pointer (some ⟨p, 0, none⟩), .string k] W (BS.GetP (getL BS.kct k L) W) := by
  obtain ⟨⟨bt, o, S, h1, h2, h3, h4, h9⟩, h10, h5, h6, h7, h8⟩ := h
  exact h1.get h8 k
theorem Nr.tlen {w W : World} {bx : Option (Nat × Obj)} {p m r : Nat} {L K : List (BS.Ky × Int)} (h : Nr w bx p m r L K W) :
    Calls Try.prog 20 #[.pointer (some ⟨p, 0, none⟩)] W fun e w' => e = .returned (.int .i64 L.length) ∧ w' = W := by
  obtain ⟨⟨bt, o, S, h1, h2, h3, h4, h9⟩, h10, h5, h6, h7, h8⟩ := h
  exact h1.len
theorem Nr.tkeys {w W : World} {bx : Option (Nat × Obj)} {p m r : Nat} {L K : List (BS.Ky × Int)} (h : Nr w bx p m r L K W) (hl : L.length ≤ 65536) :
    Calls Try.prog 24 #[.pointer (some ⟨p, 0, none⟩)] W fun e w' => ∃ v, e = .returned v ∧ w'.ownsRow W.heap.size 9 1 v L.length (BS.ksR (L.map (·.1))) ∧ Below W.heap.size W w' := by
  obtain ⟨⟨bt, o, S, h1, h2, h3, h4, h9⟩, h10, h5, h6, h7, h8⟩ := h
  exact h1.keys h8 hl
theorem Nr.tspan {w W : World} {bx : Option (Nat × Obj)} {p m r : Nat} {L K : List (BS.Ky × Int)} (h : Nr w bx p m r L K W) (hl : L.length ≤ 65536) (low high : ByteArray) :
    Calls Try.prog 29 #[.pointer (some ⟨p, 0, none⟩), .string low, .string high] W fun e w' => ∃ v, e = .returned v ∧ Rw w' 9 v (BS.ksR ((L.map (·.1)).filter fun k => !BS.outS low high k)) ∧ Below W.heap.size W w' := by
  obtain ⟨⟨bt, o, S, h1, h2, h3, h4, h9⟩, h10, h5, h6, h7, h8⟩ := h
  exact h1.span h8 hl low high
theorem Nr.rput {w W : World} {bx : Option (Nat × Obj)} {p m r : Nat} {L K : List (BS.Ky × Int)} (h : Nr w bx p m r L K W) (k : ByteArray) (hk : Nm k) (v : Int) (hl : K.length < 65536) :
    Calls Try.prog 26 #[.pointer (some ⟨r, 0, none⟩), .string k, .int .u64 v] W fun e w' => e = .returned (.tuple #[.bool (getL BS.kct k K).isNone, .int .i64 0]) ∧ Nr w bx p m r L (insL BS.kct k v K) w' := by
  obtain ⟨⟨bt, o, S, h1, h2, h3, h4, h9⟩, h10, h5, h6, h7, h8⟩ := h
  refine (rPut_any r S K k v W h2 h7 hl h6 hk).mono ?_
  rintro e w' ⟨rfl, S', hr, hc⟩
  exact ⟨rfl, Nr.stepR h1 h3 h4 h9 h10 h5 (ins_sz h6 hk v) (insL_sorted h7) h8 hc hr⟩
theorem Nr.rdrop {w W : World} {bx : Option (Nat × Obj)} {p m r : Nat} {L K : List (BS.Ky × Int)} (h : Nr w bx p m r L K W) (k : ByteArray) (hk : Nm k) (hl : K.length ≤ 65536) :
    Calls Try.prog 28 #[.pointer (some ⟨r, 0, none⟩), .string k] W fun e w' => e = .returned (.bool (getL BS.kct k K).isSome) ∧ Nr w bx p m r L (delL BS.kct k K) w' := by
  obtain ⟨⟨bt, o, S, h1, h2, h3, h4, h9⟩, h10, h5, h6, h7, h8⟩ := h
  refine (rDrop_any r S K k W h2 h7 (by omega) h6 hk).mono ?_
  rintro e w' ⟨rfl, S', hr, hc⟩
  exact ⟨rfl, Nr.stepR h1 h3 h4 h9 h10 h5 (fun a ha => h6 a (delL_mem ha)) (delL_sorted h7) h8 hc hr⟩
theorem Nr.rget {w W : World} {bx : Option (Nat × Obj)} {p m r : Nat} {L K : List (BS.Ky × Int)} (h : Nr w bx p m r L K W) (k : ByteArray) (hk : Nm k) (hl : K.length ≤ 65536) :
    Calls Try.prog 27 #[.pointer (some ⟨r, 0, none⟩), .string k] W (BS.GetP (getL BS.kct k K) W) := by
  obtain ⟨⟨bt, o, S, h1, h2, h3, h4, h9⟩, h10, h5, h6, h7, h8⟩ := h
  exact rGet_any r S K k W h2 h7 (by omega) h6 hk
theorem Nr.rspan {w W : World} {bx : Option (Nat × Obj)} {p m r : Nat} {L K : List (BS.Ky × Int)} (h : Nr w bx p m r L K W) (low high : ByteArray) (hlo : Nm low) (hhi : Nm high) (hl : K.length ≤ 65536) :
    Calls Try.prog 30 #[.pointer (some ⟨r, 0, none⟩), .string low, .string high] W fun e w' => ∃ v, e = .returned v ∧ Rw w' 9 v (BS.ksR ((K.map (·.1)).filter fun k => !BS.outS low high k)) ∧ Below W.heap.size W w' := by
  obtain ⟨⟨bt, o, S, h1, h2, h3, h4, h9⟩, h10, h5, h6, h7, h8⟩ := h
  exact rSpan_any r S K low high W h2 (by omega) h6 hlo hhi
/-- The row of names in the reference's hands. -/
theorem Nr.row {w W : World} {bx : Option (Nat × Obj)} {p m r : Nat} {L K : List (BS.Ky × Int)} (h : Nr w bx p m r L K W) : ∃ A c, W.cell? ⟨r, 0, none⟩ = some (.slice A K.length c) ∧ Rw W 9 (.slice A K.length c) (BS.ksR (K.map (·.1))) := by
  obtain ⟨⟨bt, o, S, h1, h2, h3, h4, h9⟩, h10, h5, h6, h7, h8⟩ := h
  obtain ⟨kA, kc, vA, vc, hc⟩ := h2.open
  exact ⟨kA, kc, hc.cell.1, hc.rk⟩
/-- A box that is made now. -/
theorem Nr.box {w W : World} {bx : Option (Nat × Obj)} {p m r : Nat} {L K : List (BS.Ky × Int)} (h : Nr w bx p m r L K W) (cs : Array Value) (t : TypeId) : Nr w (some (W.heap.size, .cells cs t (0, 0))) p m r L K (W.alloc (.cells cs t)) := by
  have hba : Below W.heap.size W (W.alloc (.cells cs t)) := (Below.refl _ _).alloc (Nat.le_refl _) _
  obtain ⟨⟨bt, o, S, h1, h2, h3, h4, h9⟩, h10, h5, h6, h7, h8⟩ := h.below hba
  obtain ⟨⟨bt', o', S', k1, k2, k3, k4, k9⟩, k10, k5, k6, k7, k8⟩ := h
  refine ⟨⟨bt', o', S', k1.keep hba.size fun b hlt _ => hba.block b hlt, k2.keep (fun b hs => (k3 b hs).2) fun b hlt _ => hba.block b hlt, fun b hs => ⟨(k3 b hs).1, Nat.lt_of_lt_of_le (k3 b hs).2 hba.size⟩, k4, fun b x e => ?_⟩, fun b x e => ?_, h5, h6, h7, h8⟩
  · cases e
    exact ⟨k1.fb.end_ _ (Nat.le_refl _), fun hs => by have := (k3 _ hs).2; omega⟩
  · cases e
    exact BS.top_blk W cs t
theorem Nr.forget {w W : World} {bx : Option (Nat × Obj)} {p m r : Nat} {L K : List (BS.Ky × Int)} (h : Nr w bx p m r L K W) : Nr w none p m r L K W := by
  obtain ⟨⟨bt, o, S, h1, h2, h3, h4, h9⟩, h10, h5, h6, h7, h8⟩ := h
  exact ⟨⟨bt, o, S, h1, h2, h3, h4, fun b x e => (by cases e)⟩, fun b x e => (by cases e), h5, h6, h7, h8⟩
/-- A new tree and a new list. -/
theorem Nr.new (m : Nat) (hm : 3 ≤ m ∧ m ≤ 64) (w : World) :
    Calls Try.prog 21 #[.int .i64 m] w fun e w1 => ∃ p, e = .returned (.pointer (some ⟨p, 0, none⟩)) ∧ Nr w none p m w1.heap.size [] [] (w1.alloc (.cells #[.slice none 0 0, .slice none 0 0] 53)) := by
  refine (BS.NT.made m w BS.zo (BS.zo_fb w) hm).mono ?_
  rintro e w1 ⟨p, o, rfl, hn, hu⟩
  have hb1 : Below w.heap.size w w1 := BS.UpB.bel hu (fun _ _ => rfl)
  have hsz : (w1.alloc (.cells #[.slice none 0 0, .slice none 0 0] 53)).heap.size = w1.heap.size + 1 := by
    show (w1.heap.push _).size = _
    exact Array.size_push _
  have hba : Below w1.heap.size w1 (w1.alloc (.cells #[.slice none 0 0, .slice none 0 0] 53)) := (Below.refl _ _).alloc (Nat.le_refl _) _
  refine ⟨p, rfl, ⟨_, o, fun b => b = w1.heap.size, hn.keep hba.size fun b hlt _ => hba.block b hlt, ⟨⟨none, 0, none, 0, BS.top_blk w1 _ _, Rw.nil _ _, Rw.nil _ _, fun g hg => (by cases hg), fun g hg => (by cases hg)⟩, rfl⟩, fun b e => ?_, fun b hlt => ⟨hu.old b hlt, fun e => ?_⟩, fun b x e => (by cases e)⟩, fun b x e => (by cases e), hb1.trans (hba.mono hb1.size), fun a ha => (by cases ha), List.Pairwise.nil, hm⟩
  · rw [e, hsz]
    exact ⟨hn.fb.end_ _ (Nat.le_refl _), Nat.lt_succ_self _⟩
  · have := hb1.size
    omega
end Go.Proofs.Ytfhonfeopkhdeaa
