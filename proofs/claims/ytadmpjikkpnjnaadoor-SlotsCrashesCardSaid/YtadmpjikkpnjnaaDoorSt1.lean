/-
  Layer 3: what a file is in memory; who owns which block; steps that turn one owner's blocks alone. No premise.
-/
import Derived.Test.YtadmpjikkpnjnaaDoorWfL
import Derived.Test.YtadmpjikkpnjnaaDoorChnS
import Derived.Deep.AppendLies
import Derived.Deep.RegionLaw
import Derived.Deep.RegionHeldLaw
namespace Go.Proofs.YtadmpjikkpnjnaaDoor
open Go.RowKit Go.Shelf Go.Proofs.YtadmpjikkpnjnaaDoorW.PrintWords

/-- A raw write as it lies: its place, its bytes' slice, its bytes. -/
structure Rw where
  pl : Int
  A : Option Addr
  c : Nat
  b : List Int
def rwv (L : List Rw) : List Value := L.flatMap fun r => [.int .i64 r.pl, .slice r.A r.b.length r.c]
def rws (L : List Rw) : List (Int × List Int) := L.map fun r => (r.pl, r.b)
theorem rwv_length (L : List Rw) : (rwv L).length = L.length * 2 := by
  induction L with
  | nil => rfl
  | cons r L ih => rw [rwv, List.flatMap_cons, List.length_append]; show 2 + (rwv L).length = _; rw [ih, List.length_cons]; omega
theorem rwv_append (a b : List Rw) : rwv (a ++ b) = rwv a ++ rwv b := by unfold rwv; exact List.flatMap_append
theorem rwv_one {L : List Rw} {u : Value} (h : u ∈ rwv L) : u.oneCell' = true := by
  unfold rwv at h
  obtain ⟨f, _, hu⟩ := List.mem_flatMap.1 h
  simp only [List.mem_cons, List.not_mem_nil, or_false] at hu
  rcases hu with rfl | rfl <;> rfl
theorem rwv_at (L : List Rw) (i : Nat) (h : i < L.length) : (rwv L)[i * 2]? = some (.int .i64 L[i].pl) ∧ (rwv L)[i * 2 + 1]? = some (.slice L[i].A L[i].b.length L[i].c) := by
  induction L generalizing i with
  | nil => simp at h
  | cons f L ih =>
    have e : rwv (f :: L) = .int .i64 f.pl :: .slice f.A f.b.length f.c :: rwv L := rfl
    cases i with
    | zero => exact ⟨rfl, rfl⟩
    | succ i =>
      have := ih i (by simpa using h)
      rw [e, show (i + 1) * 2 = i * 2 + 1 + 1 from by omega, List.getElem?_cons_succ, List.getElem?_cons_succ, List.getElem?_cons_succ, List.getElem?_cons_succ]
      exact this
theorem rws_append (a b : List Rw) : rws (a ++ b) = rws a ++ rws b := by unfold rws; exact List.map_append
theorem rws_length (L : List Rw) : (rws L).length = L.length := by unfold rws; exact List.length_map ..
/-- A row of raw writes (their type e), owned by i; the bytes are nobody's to turn (9). -/
structure RawsAt (w : World) (o : Nat → Nat) (i e : Nat) (v : Value) (L : List Rw) : Prop where
  own : w.ownsRow 0 e 2 v L.length (rwv L)
  tag : ∀ g, v.ownBlock = some g → o g = i
  rd : ∀ r ∈ L, Rd w r.A r.b ∧ ∀ a, r.A = some a → o a.block = 9 ∧ a.block < w.heap.size
/-- A file as it is told. -/
structure FM where
  b : List Int
  most : Int
  off : Bool
  left : Int
  raws : List (Int × List Int)
/-- store.File at block p. -/
structure FileAt (w : World) (o : Nat → Nat) (i p : Nat) (vb vr : Value) (L : List Rw) (F : FM) : Prop where
  blk : w.heap[p]? = some (.cells #[.bool true, vb, .int .i64 F.most, .bool F.off, .int .i64 F.left, vr] 78 (0, 0))
  tp : o p = i
  ob : Own w 0 vb F.b
  tb : ∀ g, vb.ownBlock = some g → o g = i
  rw : RawsAt w o i 88 vr L
  raws : rws L = F.raws
def FileA (w : World) (o : Nat → Nat) (i p : Nat) (F : FM) : Prop := ∃ vb vr L, FileAt w o i p vb vr L F
/-- slabvaultref03.File at block p: no cut is planned, or left of them are to come. -/
structure RefAt (w : World) (o : Nat → Nat) (i p : Nat) (vb vr : Value) (lf : Int) (L : List Rw) (F : FM) : Prop where
  blk : w.heap[p]? = some (.cells #[vb, .int .i64 F.most, .bool F.off, .bool (decide (0 ≤ F.left)), .int .i64 lf, vr] 59 (0, 0))
  lf : 0 ≤ F.left → lf = F.left
  tp : o p = i
  ob : Own w 0 vb F.b
  tb : ∀ g, vb.ownBlock = some g → o g = i
  rw : RawsAt w o i 86 vr L
  raws : rws L = F.raws
def RefA (w : World) (o : Nat → Nat) (i p : Nat) (F : FM) : Prop := ∃ vb vr lf L, RefAt w o i p vb vr lf L F
/-- Whose no block is, there nothing lies yet. -/
def Fr (o : Nat → Nat) (w : World) : Prop := ∀ k, w.heap.size ≤ k → o k = 0
theorem Fr.mono {o : Nat → Nat} {w w' : World} (h : Fr o w) (hs : w.heap.size ≤ w'.heap.size) : Fr o w' := fun k hk => h k (Nat.le_trans hs hk)

theorem ownsRow_keep {w w' : World} {base e size n : Nat} {v : Value} {xs : List Value} (h : w.ownsRow base e size v n xs) (hk : ∀ g, v.ownBlock = some g → g < w.heap.size → w'.heap[g]? = w.heap[g]?) : w'.ownsRow base e size v n xs := by
  refine ⟨h.1, ?_⟩
  rcases h.2 with hn | ⟨g, cap, cur, rfl, hb, hg, rest⟩
  · exact .inl hn
  · exact .inr ⟨g, cap, cur, rfl, hb, (hk g rfl (Array.getElem?_eq_some_iff.1 hg).1).trans hg, rest⟩
theorem ownsRow_lt {w : World} {base e size n : Nat} {v : Value} {xs : List Value} (h : w.ownsRow base e size v n xs) {g : Nat} (hg : v.ownBlock = some g) : g < w.heap.size := (World.ownsRow.lt h g hg).2
theorem ownsRow_is {w : World} {base e size n : Nat} {v : Value} {xs : List Value} (h : w.ownsRow base e size v n xs) {g : Nat} (hg : v.ownBlock = some g) : ∃ cs, w.heap[g]? = some (.cells cs e (0, 0)) := by
  rcases h.2 with ⟨e', _⟩ | ⟨g', cap, cur, e', _, hgb, _⟩
  · rw [e'] at hg; cases hg
  · rw [e'] at hg
    cases hg
    exact ⟨cur, hgb⟩
theorem rd_keep {w w' : World} {A : Option Addr} {l : List Int} (h : Rd w A l) (hk : ∀ a, A = some a → 0 < l.length → w'.heap[a.block]? = w.heap[a.block]?) : Rd w' A l := by
  refine ⟨h.1, h.2.1, fun h0 => ?_⟩
  obtain ⟨ad, e, hc⟩ := h.2.2 h0
  refine ⟨ad, e, fun j hj => ?_⟩
  rw [World.cell?_of_block (w := w) (by rw [add_block]; exact hk ad e h0)]
  exact hc j hj
theorem RawsAt.keep {w w' : World} {o o' : Nat → Nat} {i e : Nat} {v : Value} {L : List Rw} (h : RawsAt w o i e v L)
    (hk : ∀ k, k < w.heap.size → o k = i ∨ o k = 9 → w'.heap[k]? = w.heap[k]? ∧ o' k = o k) (hs : w.heap.size ≤ w'.heap.size) : RawsAt w' o' i e v L := by
  refine ⟨ownsRow_keep h.own fun g hg hl => (hk g hl (.inl (h.tag g hg))).1, fun g hg => ?_, fun r hr => ?_⟩
  · rw [(hk g (ownsRow_lt h.own hg) (.inl (h.tag g hg))).2]; exact h.tag g hg
  · obtain ⟨h1, h2⟩ := h.rd r hr
    refine ⟨rd_keep h1 fun a ha _ => (hk _ (h2 a ha).2 (.inr (h2 a ha).1)).1, fun a ha => ⟨?_, ?_⟩⟩
    · rw [(hk _ (h2 a ha).2 (.inr (h2 a ha).1)).2]; exact (h2 a ha).1
    · exact Nat.lt_of_lt_of_le (h2 a ha).2 hs
theorem FileAt.keep {w w' : World} {o o' : Nat → Nat} {i p : Nat} {vb vr : Value} {L : List Rw} {F : FM} (h : FileAt w o i p vb vr L F)
    (hk : ∀ k, k < w.heap.size → o k = i ∨ o k = 9 → w'.heap[k]? = w.heap[k]? ∧ o' k = o k) (hs : w.heap.size ≤ w'.heap.size) : FileAt w' o' i p vb vr L F := by
  have hp := (Array.getElem?_eq_some_iff.1 h.blk).1
  refine ⟨(hk p hp (.inl h.tp)).1.trans h.blk, ?_, ownsRow_keep h.ob fun g hg hl => (hk g hl (.inl (h.tb g hg))).1, fun g hg => ?_, h.rw.keep hk hs, h.raws⟩
  · rw [(hk p hp (.inl h.tp)).2]; exact h.tp
  · rw [(hk g (ownsRow_lt h.ob hg) (.inl (h.tb g hg))).2]; exact h.tb g hg
theorem RefAt.keep {w w' : World} {o o' : Nat → Nat} {i p : Nat} {vb vr : Value} {lf : Int} {L : List Rw} {F : FM} (h : RefAt w o i p vb vr lf L F)
    (hk : ∀ k, k < w.heap.size → o k = i ∨ o k = 9 → w'.heap[k]? = w.heap[k]? ∧ o' k = o k) (hs : w.heap.size ≤ w'.heap.size) : RefAt w' o' i p vb vr lf L F := by
  have hp := (Array.getElem?_eq_some_iff.1 h.blk).1
  refine ⟨(hk p hp (.inl h.tp)).1.trans h.blk, h.lf, ?_, ownsRow_keep h.ob fun g hg hl => (hk g hl (.inl (h.tb g hg))).1, fun g hg => ?_, h.rw.keep hk hs, h.raws⟩
  · rw [(hk p hp (.inl h.tp)).2]; exact h.tp
  · rw [(hk g (ownsRow_lt h.ob hg) (.inl (h.tb g hg))).2]; exact h.tb g hg
theorem FileA.keep {w w' : World} {o o' : Nat → Nat} {i p : Nat} {F : FM} (h : FileA w o i p F)
    (hk : ∀ k, k < w.heap.size → o k = i ∨ o k = 9 → w'.heap[k]? = w.heap[k]? ∧ o' k = o k) (hs : w.heap.size ≤ w'.heap.size) : FileA w' o' i p F := by
  obtain ⟨vb, vr, L, h⟩ := h
  exact ⟨vb, vr, L, h.keep hk hs⟩
theorem RefA.keep {w w' : World} {o o' : Nat → Nat} {i p : Nat} {F : FM} (h : RefA w o i p F)
    (hk : ∀ k, k < w.heap.size → o k = i ∨ o k = 9 → w'.heap[k]? = w.heap[k]? ∧ o' k = o k) (hs : w.heap.size ≤ w'.heap.size) : RefA w' o' i p F := by
  obtain ⟨vb, vr, lf, L, h⟩ := h
  exact ⟨vb, vr, lf, L, h.keep hk hs⟩
/-- Boxes of the kinds that an iterator over pieces lays. -/
def ctl (t : TypeId) : Prop := t = 3 ∨ t = 25 ∨ t = 83
/-- What is no cells, and such boxes, lie as they lay. -/
structure KC (X Y : World) : Prop where
  oth : KeepsOthers X Y
  cel : ∀ (i : Nat) (cs : Array Value) (t : TypeId), ctl t → X.heap[i]? = some (.cells cs t (0, 0)) → Y.heap[i]? = some (.cells cs t (0, 0))
theorem KC.trans {X Y Z : World} (h : KC X Y) (k : KC Y Z) : KC X Z := ⟨h.oth.trans k.oth, fun i cs t ht hi => k.cel i cs t ht (h.cel i cs t ht hi)⟩
theorem KC.quiet {X Y : World} (h : Below X.heap.size X Y) : KC X Y :=
  ⟨⟨h.size, fun k _ob hk _ => (h.block k (Array.getElem?_eq_some_iff.1 hk).1).trans hk⟩, fun i _cs _t _ hi => (h.block i (Array.getElem?_eq_some_iff.1 hi).1).trans hi⟩
theorem KC.setCell {W : World} {a : Addr} {cs : Array Value} {t : TypeId} (h : W.heap[a.block]? = some (.cells cs t (0, 0))) (ht : ¬ ctl t) (u : Value) : KC W (W.setCell a u) :=
  ⟨KeepsOthers.setCell _ _ _, fun i cs' t' ht' hi => (Below.heap_setCell _ _ _ _ (fun e => by
    rw [e, h] at hi
    injection hi with hi
    injection hi with _ e2
    exact ht (e2 ▸ ht'))).trans hi⟩
/-- A step that turns i's blocks alone, and lays new ones: i's, nobody's (0), or such that nobody turns (9). -/
structure Upd (o o' : Nat → Nat) (i : Nat) (w w' : World) : Prop where
  os : w'.os = w.os
  tape : w'.tape = w.tape
  output : w'.output = w.output
  size : w.heap.size ≤ w'.heap.size
  blk : ∀ k, k < w.heap.size → o k ≠ i → w'.heap[k]? = w.heap[k]?
  old : ∀ k, k < w.heap.size → o' k = o k
  fresh : ∀ k, w.heap.size ≤ k → o' k = 0 ∨ o' k = i ∨ o' k = 9
  fr : Fr o' w'
  kc : KC w w'
theorem Upd.trans {o o' o'' : Nat → Nat} {i : Nat} {a b c : World} (h : Upd o o' i a b) (k : Upd o' o'' i b c) : Upd o o'' i a c :=
  ⟨k.os.trans h.os, k.tape.trans h.tape, k.output.trans h.output, Nat.le_trans h.size k.size,
    fun j hj hne => (k.blk j (Nat.lt_of_lt_of_le hj h.size) (by rw [h.old j hj]; exact hne)).trans (h.blk j hj hne),
    fun j hj => (k.old j (Nat.lt_of_lt_of_le hj h.size)).trans (h.old j hj),
    fun j hj => by
      rcases Nat.lt_or_ge j b.heap.size with h1 | h1
      · rw [k.old j h1]; exact h.fresh j hj
      · exact k.fresh j h1,
    k.fr, h.kc.trans k.kc⟩
/-- A step that leaves all blocks that lay. -/
theorem Upd.quiet {o : Nat → Nat} {i : Nat} {w w' : World} (hf : Fr o w) (h : Below w.heap.size w w') : Upd o o i w w' :=
  ⟨h.os, h.tape, h.output, h.size, fun k hk _ => h.block k hk, fun _ _ => rfl, fun k hk => .inl (hf k hk), hf.mono h.size, KC.quiet h⟩
theorem Upd.refl {o : Nat → Nat} {i : Nat} {w : World} (hf : Fr o w) : Upd o o i w w := Upd.quiet hf (Below.refl _ _)
theorem Upd.below {o o' : Nat → Nat} {i : Nat} {w w' : World} (h : Upd o o' i w w') (hi : i ≠ 0) {B : Nat} (hB : B ≤ w.heap.size) (ho : ∀ k, k < B → o k = 0) : Below B w w' :=
  ⟨h.os, h.tape, h.output, h.size, fun k hk => h.blk k (by omega) (by rw [ho k hk]; exact fun e => hi e.symm)⟩
theorem FileA.upd {w w' : World} {o o' : Nat → Nat} {i j p : Nat} {F : FM} (h : FileA w o j p F) (u : Upd o o' i w w') (hij : i ≠ j) (h9 : i ≠ 9) : FileA w' o' j p F :=
  h.keep (fun k hk ho => ⟨u.blk k hk (fun e2 => by rcases ho with e | e <;> rw [e2] at e; exact hij e; exact h9 e), u.old k hk⟩) u.size
theorem RefA.upd {w w' : World} {o o' : Nat → Nat} {i j p : Nat} {F : FM} (h : RefA w o j p F) (u : Upd o o' i w w') (hij : i ≠ j) (h9 : i ≠ 9) : RefA w' o' j p F :=
  h.keep (fun k hk ho => ⟨u.blk k hk (fun e2 => by rcases ho with e | e <;> rw [e2] at e; exact hij e; exact h9 e), u.old k hk⟩) u.size
theorem FileA.below {w w' : World} {o : Nat → Nat} {j p : Nat} {F : FM} (h : FileA w o j p F) (hb : Below w.heap.size w w') : FileA w' o j p F := h.keep (fun k hk _ => ⟨hb.block k hk, rfl⟩) hb.size
theorem RefA.below {w w' : World} {o : Nat → Nat} {j p : Nat} {F : FM} (h : RefA w o j p F) (hb : Below w.heap.size w w') : RefA w' o j p F := h.keep (fun k hk _ => ⟨hb.block k hk, rfl⟩) hb.size
theorem FileA.grown {w w' : World} {o : Nat → Nat} {j p : Nat} {F : FM} {r : Option Nat} (h : FileA w o j p F) (hg : w.grownBy w' r) (hr : ∀ k, r = some k → o k ≠ j ∧ o k ≠ 9) : FileA w' o j p F :=
  h.keep (fun k hk ho => ⟨hg.block k hk (fun e => by have := hr k e.symm; rcases ho with h1 | h1; exact this.1 h1; exact this.2 h1), rfl⟩) hg.size
theorem RefA.grown {w w' : World} {o : Nat → Nat} {j p : Nat} {F : FM} {r : Option Nat} (h : RefA w o j p F) (hg : w.grownBy w' r) (hr : ∀ k, r = some k → o k ≠ j ∧ o k ≠ 9) : RefA w' o j p F :=
  h.keep (fun k hk ho => ⟨hg.block k hk (fun e => by have := hr k e.symm; rcases ho with h1 | h1; exact this.1 h1; exact this.2 h1), rfl⟩) hg.size
theorem Upd.rd {o o' : Nat → Nat} {i : Nat} {w w' : World} (u : Upd o o' i w w') {A : Option Addr} {l : List Int} (h : Rd w A l) (hA : 0 < l.length → ∀ a, A = some a → o a.block ≠ i) : Rd w' A l :=
  rd_keep h fun a ha h0 => by
    obtain ⟨ad, e, hc⟩ := h.2.2 h0
    rw [ha] at e
    cases e
    have := World.block_lt_of_cell? w _ (hc 0 h0)
    rw [add_block] at this
    exact u.blk _ this (hA h0 a ha)

/-- What was there ahead of all is nobody's. -/
theorem Upd.arg {o' : Nat → Nat} {i j : Nat} {w w' : World} (u : Upd (fun _ => 0) o' i w w') (hj : j ≠ 0) {A : Option Addr} {l : List Int} (h : Rd w A l) : 0 < l.length → ∀ a, A = some a → o' a.block ≠ j := fun h0 a ha => by
  obtain ⟨ad, e, hc⟩ := h.2.2 h0
  rw [ha] at e
  cases e
  have := World.block_lt_of_cell? w _ (hc 0 h0)
  rw [add_block] at this
  rw [u.old _ this]
  exact fun e => hj e.symm
/-- Bytes laid down at a place. -/
def layL (b : List Int) (at_ : Nat) (x : List Int) : List Int := b.take at_ ++ (x ++ b.drop (at_ + x.length))
theorem lay_copy (b : List Int) (at_ : Nat) (x : List Int) (h : at_ ≤ b.length) : splice b at_ (x.take (b.length - at_)) ++ x.drop (min x.length (b.length - at_)) = layL b at_ x := by
  unfold splice layL
  rcases Nat.lt_or_ge (b.length - at_) x.length with h1 | h1
  · rw [Nat.min_eq_right (by omega), List.length_take, Nat.min_eq_left (by omega), List.drop_of_length_le (show b.length ≤ at_ + (b.length - at_) by omega), List.drop_of_length_le (show b.length ≤ at_ + x.length by omega)]
    simp
  · rw [Nat.min_eq_left h1, List.take_of_length_le h1, List.drop_length, List.append_nil]
theorem layL_length (b : List Int) (at_ : Nat) (x : List Int) (h : at_ ≤ b.length) : (layL b at_ x).length = max b.length (at_ + x.length) := by
  unfold layL
  rw [List.length_append, List.length_append, List.length_take, List.length_drop]
  omega
theorem layL_bts {b x : List Int} (hb : Bts b) (hx : Bts x) (at_ : Nat) : Bts (layL b at_ x) := (hb.take _).append (hx.append (hb.drop _))
/-- A raw write, or the cut. -/
def rawF (F : FM) (at_ : Nat) (x : List Int) : FM :=
  if F.left = 0 then { F with off := true, left := -1 } else { F with b := layL F.b at_ x, left := if 0 < F.left then F.left - 1 else F.left, raws := F.raws ++ [((at_ : Int), x)] }
/-- A slice from a place on. -/
theorem slice_dst (g n cap : Nat) (lo : Nat) (h1 : lo ≤ n) (h2 : n ≤ cap) : ∃ dp, (∀ W : World, (Instr.slice 25 (.slice (some ⟨g, 0, none⟩) n cap) (some (.int .i64 (lo : Int))) none none).run Tryd.prog W = .ok (.slice dp (n - lo) (cap - lo)) W) ∧ (0 < n - lo → dp = some ⟨g, lo, none⟩) := by
  obtain ⟨i0, hi', hz0, hz1, hz2⟩ := info_parts infoB
  rcases Nat.lt_or_ge lo n with h | h
  · refine ⟨_, fun W => run_slice_lo 25 5 Tryd.underlying25 hi' hz1 (some ⟨g, 0, none⟩) n cap lo h h2 W, fun _ => ?_⟩
    show some ((⟨g, 0, none⟩ : Addr).add lo) = _
    unfold Addr.add
    split <;> simp_all
  · have e : lo = n := by omega
    subst e
    obtain ⟨A', g1, _, _⟩ := cut_suf (some ⟨g, 0, none⟩) (List.replicate lo 0) cap (lo : Int) (by omega) (by simp) (by simpa using h2)
    refine ⟨A', fun W => ?_, fun h0 => by omega⟩
    have := g1 W
    simp only [List.length_replicate, List.length_drop, Int.toNat_natCast, Nat.sub_self] at this ⊢
    exact this
end Go.Proofs.YtadmpjikkpnjnaaDoor
