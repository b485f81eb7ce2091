/-
  Steps on nodes for what is dropped: an element laid in its place, two rows at once, three nodes at a time. No premise.
  append onto rows of a node. No premise.
-/
import Derived.Test.YtfhonfeopkhdeaaBtNwC
import Derived.Test.YtfhonfeopkhdeaaRowGC
import Derived.Test.YtfhonfeopkhdeaaRowGU
import Derived.Test.YtfhonfeopkhdeaaRowGM
import Derived.Test.YtfhonfeopkhdeaaBtRw
namespace Go.Proofs.Ytfhonfeopkhdeaa.BC
open Go.RowKit Go.Proofs.YtfhonfeopkhdeaaW.PrintWords

theorem grown_alloc {w V : World} {r : Option Nat} (h : w.grownBy V r) (ob : Obj) : w.grownBy (V.alloc ob) r :=
  ⟨h.os, h.tape, h.output, Nat.le_trans h.size (by simp), fun b hb hne => (Below.heap_alloc V ob b (Nat.lt_of_lt_of_le hb h.size)).trans (h.block b hb hne)⟩
theorem blk_alloc {V : World} {g : Nat} {x : Obj} (h : V.heap[g]? = some x) (ob : Obj) : (V.alloc ob).heap[g]? = some x := by
  have hl : g < V.heap.size := (Array.getElem?_eq_some_iff.1 h).1
  exact (Below.heap_alloc V ob g hl).trans h
theorem rw_alloc {V : World} {e : TypeId} {v : Value} {xs : List Value} (h : Rw V e v xs) (ob : Obj) : Rw (V.alloc ob) e v xs := h.keep fun g _ hl => Below.heap_alloc V ob g hl
/-- A row while a row of another type grows. -/
theorem rw_apart {V V1 : World} {e e' : TypeId} {v v2 : Value} {xs ys : List Value} (h : Rw V e v xs) (h2 : Rw V e' v2 ys) (hg : V.grownBy V1 v2.ownBlock) (hne : e ≠ e') : Rw V1 e v xs := h.keep fun g hg1 hl => hg.block g hl fun e2 => by
  obtain ⟨c1, h1⟩ := h.blk hg1
  obtain ⟨c2, h3⟩ := h2.blk e2.symm
  exact blk_ne h1 h3 hne rfl
theorem blk_apart {V V1 : World} {g : Nat} {v2 : Value} {x : Obj} (h : V.heap[g]? = some x) (hg : V.grownBy V1 v2.ownBlock) (hne : v2.ownBlock ≠ some g) : V1.heap[g]? = some x :=
  (hg.block g (Array.getElem?_eq_some_iff.1 h).1 (fun e => hne e.symm)).trans h
/-- slices.Insert of a key that lies in a block of its own, in whatever world. -/
theorem key_insW {w V : World} {o : Nat → Nat} {n : Nat} {vk vv vc : Value} {F : Nf Ky} (hn : NdAt w o n vk vv vc F) (hl : F.ks.length ≤ 1000000) {i : Nat} (hi : i ≤ F.ks.length) (k' : Ky) (hb : Below w.heap.size w V) (gv : Nat) (hv : V.heap[gv]? = some (.cells #[kv k'] 22 (0, 0))) (hgv : w.heap.size ≤ gv) :
    Calls Try.prog 86 #[vk, .int .i64 i, .slice (some ⟨gv, 0, none⟩) 1 1] V fun e w2 => ∃ v', e = .returned v' ∧ Rw w2 22 v' (ksR (F.ks.take i ++ k' :: F.ks.drop i)) ∧ V.grownBy w2 vk.ownBlock ∧ Nw w vk v' := by
  have hr : Rw V 22 vk (ksR F.ks) := hn.rk.keep fun g _ hl => hb.block g hl
  have hkl : (ksR F.ks).length = F.ks.length := List.length_map _
  refine (insC_any vk (ksR F.ks) i (kv k') gv V hr (ksR_one _) (kv_one k') (by omega) (by omega) hv (fun e => ?_)).mono ?_
  · have := hn.rk.lt e.symm
    omega
  · rintro e w2 ⟨v', rfl, h1, h2, h3⟩
    refine ⟨v', rfl, ?_, h2, nw_back h3 hb.size⟩
    have e : ksR (F.ks.take i ++ k' :: F.ks.drop i) = (ksR F.ks).take i ++ kv k' :: (ksR F.ks).drop i := by simp [ksR, List.map_take, List.map_drop]
    rw [e]; exact h1
/-- The same of a number, the keys' row having grown. -/
theorem val_insW {w V : World} {o : Nat → Nat} {n : Nat} {vk vv vc : Value} {F : Nf Ky} (hn : NdAt w o n vk vv vc F) (hl : F.vs.length ≤ 1000000) {i : Nat} (hi : i ≤ F.vs.length) (x : Int) (hg : w.grownBy V vk.ownBlock) (gv : Nat) (hv : V.heap[gv]? = some (.cells #[.int .u64 x] 38 (0, 0))) (hgv : w.heap.size ≤ gv) :
    Calls Try.prog 77 #[vv, .int .i64 i, .slice (some ⟨gv, 0, none⟩) 1 1] V fun e w2 => ∃ v', e = .returned v' ∧ Rw w2 38 v' (vsR (F.vs.take i ++ x :: F.vs.drop i)) ∧ V.grownBy w2 vv.ownBlock ∧ Nw w vv v' := by
  have hr : Rw V 38 vv (vsR F.vs) := rw_apart hn.rv hn.rk hg (by decide)
  have hkl : (vsR F.vs).length = F.vs.length := List.length_map _
  refine (insU_any vv (vsR F.vs) i (.int .u64 x) gv V hr (vsR_one _) rfl (by omega) (by omega) hv (fun e => ?_)).mono ?_
  · have := hn.rv.lt e.symm
    omega
  · rintro e w2 ⟨v', rfl, h1, h2, h3⟩
    refine ⟨v', rfl, ?_, h2, nw_back h3 hg.size⟩
    have e : vsR (F.vs.take i ++ x :: F.vs.drop i) = (vsR F.vs).take i ++ .int .u64 x :: (vsR F.vs).drop i := by simp [vsR, List.map_take, List.map_drop]
    rw [e]; exact h1
theorem kid_insW {w V : World} {o : Nat → Nat} {n : Nat} {vk vv vc : Value} {F : Nf Ky} (hn : NdAt w o n vk vv vc F) (hl : F.cs.length ≤ 1000000) {i : Nat} (hi : i ≤ F.cs.length) (x : Nat) (hb : Below w.heap.size w V) (gv : Nat) (hv : V.heap[gv]? = some (.cells #[nv x] 100 (0, 0))) (hgv : w.heap.size ≤ gv) :
    Calls Try.prog 89 #[vc, .int .i64 i, .slice (some ⟨gv, 0, none⟩) 1 1] V fun e w2 => ∃ v', e = .returned v' ∧ Rw w2 100 v' (csR (F.cs.take i ++ x :: F.cs.drop i)) ∧ V.grownBy w2 vc.ownBlock ∧ Nw w vc v' := by
  have hr : Rw V 100 vc (csR F.cs) := hn.rc.keep fun g _ hl => hb.block g hl
  have hkl : (csR F.cs).length = F.cs.length := List.length_map _
  refine (insM_any vc (csR F.cs) i (nv x) gv V hr (csR_one _) rfl (by omega) (by omega) hv (fun e => ?_)).mono ?_
  · have := hn.rc.lt e.symm
    omega
  · rintro e w2 ⟨v', rfl, h1, h2, h3⟩
    refine ⟨v', rfl, ?_, h2, nw_back h3 hb.size⟩
    have e : csR (F.cs.take i ++ x :: F.cs.drop i) = (csR F.cs).take i ++ nv x :: (csR F.cs).drop i := by simp [csR, List.map_take, List.map_drop]
    rw [e]; exact h1
/-- slices.Delete of one element. -/
theorem key_delW {w V : World} {o : Nat → Nat} {n : Nat} {vk vv vc : Value} {F : Nf Ky} (hn : NdAt w o n vk vv vc F) (hl : F.ks.length ≤ 1000000) (i : Nat) (hi : i < F.ks.length) (x y : Int) (hx : x = (i : Int)) (hy : y = (i : Int) + 1) (zs : List Ky) (hz : zs = F.ks.take i ++ F.ks.drop (i + 1)) (hb : Below w.heap.size w V) :
    Calls Try.prog 91 #[vk, .int .i64 x, .int .i64 y] V fun e w2 => ∃ v', e = .returned v' ∧ Rw w2 22 v' (ksR zs) ∧ V.grownBy w2 vk.ownBlock ∧ Nw w vk v' := by
  subst hx hy hz
  have hr : Rw V 22 vk (ksR F.ks) := hn.rk.keep fun g _ hl => hb.block g hl
  have hkl : (ksR F.ks).length = F.ks.length := List.length_map _
  refine (delC_any vk (ksR F.ks) i V hr (ksR_one _) (by omega) (by omega)).mono ?_
  rintro e w2 ⟨v', rfl, h1, h2, h3⟩
  refine ⟨v', rfl, ?_, h2, .inl h3⟩
  have e : ksR (F.ks.take i ++ F.ks.drop (i + 1)) = (ksR F.ks).take i ++ (ksR F.ks).drop (i + 1) := by simp [ksR, List.map_take, List.map_drop]
  rw [e]; exact h1
theorem val_delW {w V : World} {o : Nat → Nat} {n : Nat} {vk vv vc : Value} {F : Nf Ky} (hn : NdAt w o n vk vv vc F) (hl : F.vs.length ≤ 1000000) (i : Nat) (hi : i < F.vs.length) (x y : Int) (hx : x = (i : Int)) (hy : y = (i : Int) + 1) (zs : List Int) (hz : zs = F.vs.take i ++ F.vs.drop (i + 1)) (hg : w.grownBy V vk.ownBlock) :
    Calls Try.prog 83 #[vv, .int .i64 x, .int .i64 y] V fun e w2 => ∃ v', e = .returned v' ∧ Rw w2 38 v' (vsR zs) ∧ V.grownBy w2 vv.ownBlock ∧ Nw w vv v' := by
  subst hx hy hz
  have hr : Rw V 38 vv (vsR F.vs) := rw_apart hn.rv hn.rk hg (by decide)
  have hkl : (vsR F.vs).length = F.vs.length := List.length_map _
  refine (delU_any vv (vsR F.vs) i V hr (vsR_one _) (by omega) (by omega)).mono ?_
  rintro e w2 ⟨v', rfl, h1, h2, h3⟩
  refine ⟨v', rfl, ?_, h2, .inl h3⟩
  have e : vsR (F.vs.take i ++ F.vs.drop (i + 1)) = (vsR F.vs).take i ++ (vsR F.vs).drop (i + 1) := by simp [vsR, List.map_take, List.map_drop]
  rw [e]; exact h1
theorem kid_delW {w V : World} {o : Nat → Nat} {n : Nat} {vk vv vc : Value} {F : Nf Ky} (hn : NdAt w o n vk vv vc F) (hl : F.cs.length ≤ 1000000) (i : Nat) (hi : i < F.cs.length) (x y : Int) (hx : x = (i : Int)) (hy : y = (i : Int) + 1) (zs : List Nat) (hz : zs = F.cs.take i ++ F.cs.drop (i + 1)) (hb : Below w.heap.size w V) :
    Calls Try.prog 115 #[vc, .int .i64 x, .int .i64 y] V fun e w2 => ∃ v', e = .returned v' ∧ Rw w2 100 v' (csR zs) ∧ V.grownBy w2 vc.ownBlock ∧ Nw w vc v' := by
  subst hx hy hz
  have hr : Rw V 100 vc (csR F.cs) := hn.rc.keep fun g _ hl => hb.block g hl
  have hkl : (csR F.cs).length = F.cs.length := List.length_map _
  refine (delM_any vc (csR F.cs) i V hr (csR_one _) (by omega) (by omega)).mono ?_
  rintro e w2 ⟨v', rfl, h1, h2, h3⟩
  refine ⟨v', rfl, ?_, h2, .inl h3⟩
  have e : csR (F.cs.take i ++ F.cs.drop (i + 1)) = (csR F.cs).take i ++ (csR F.cs).drop (i + 1) := by simp [csR, List.map_take, List.map_drop]
  rw [e]; exact h1
/-- Only the two rows of a node have grown, and new blocks. -/
structure Gr2 (w W : World) (v u : Value) : Prop where
  os : W.os = w.os
  tape : W.tape = w.tape
  output : W.output = w.output
  size : w.heap.size ≤ W.heap.size
  block : ∀ k, k < w.heap.size → some k ≠ v.ownBlock → some k ≠ u.ownBlock → W.heap[k]? = w.heap[k]?
theorem Gr2.of {w V W : World} {v u : Value} (h1 : w.grownBy V v.ownBlock) (h2 : V.grownBy W u.ownBlock) : Gr2 w W v u :=
  ⟨h2.os.trans h1.os, h2.tape.trans h1.tape, h2.output.trans h1.output, Nat.le_trans h1.size h2.size, fun k hk a b => (h2.block k (Nat.lt_of_lt_of_le hk h1.size) b).trans (h1.block k hk a)⟩
theorem Gr2.of' {w V W : World} {v u : Value} (h1 : w.grownBy V u.ownBlock) (h2 : V.grownBy W v.ownBlock) : Gr2 w W v u :=
  ⟨h2.os.trans h1.os, h2.tape.trans h1.tape, h2.output.trans h1.output, Nat.le_trans h1.size h2.size, fun k hk a b => (h2.block k (Nat.lt_of_lt_of_le hk h1.size) a).trans (h1.block k hk b)⟩
theorem Gr2.alloc {w V : World} {v u : Value} (h : Gr2 w V v u) (ob : Obj) : Gr2 w (V.alloc ob) v u :=
  ⟨h.os, h.tape, h.output, Nat.le_trans h.size (by simp), fun b hb a c => (Below.heap_alloc V ob b (Nat.lt_of_lt_of_le hb h.size)).trans (h.block b hb a c)⟩
theorem Gr2.grownL {w V W : World} {v u : Value} (h : Gr2 w V v u) (h2 : V.grownBy W v.ownBlock) : Gr2 w W v u :=
  ⟨h2.os.trans h.os, h2.tape.trans h.tape, h2.output.trans h.output, Nat.le_trans h.size h2.size, fun b hb a c => (h2.block b (Nat.lt_of_lt_of_le hb h.size) a).trans (h.block b hb a c)⟩
theorem Gr2.grownR {w V W : World} {v u : Value} (h : Gr2 w V v u) (h2 : V.grownBy W u.ownBlock) : Gr2 w W v u :=
  ⟨h2.os.trans h.os, h2.tape.trans h.tape, h2.output.trans h.output, Nat.le_trans h.size h2.size, fun b hb a c => (h2.block b (Nat.lt_of_lt_of_le hb h.size) c).trans (h.block b hb a c)⟩
/-- Keys and numbers of a node turned at once. -/
theorem NdAt.skv {w W : World} {o : Nat → Nat} {n : Nat} {vk vv vc v' u' : Value} {F : Nf Ky} {xs : List Ky} {ys : List Int} (hf : Fb o w) (h : NdAt w o n vk vv vc F) (g : Gr2 w W vk vv) (hv : Rw W 22 v' (ksR xs)) (hu : Rw W 38 u' (vsR ys)) (nv' : Nw w vk v') (nu' : Nw w vv u') (hk : ∀ k ∈ xs, KOk w o k) :
    NdAt ((W.setCell ⟨n, 0, none⟩ v').setCell ⟨n, 1, none⟩ u') (tgv (tgv o v' (n + 2)) u' (n + 2)) n v' u' vc ⟨xs, ys, F.cs⟩ ∧ Up (· = n + 2) o (tgv (tgv o v' (n + 2)) u' (n + 2)) w ((W.setCell ⟨n, 0, none⟩ v').setCell ⟨n, 1, none⟩ u') := by
  obtain ⟨n1, n2, n3⟩ := h.nek
  have hW : W.heap[n]? = some (.cells #[vk, vv, vc] 106 (0, 0)) := (g.block n h.lt (fun e => n1 e.symm) (fun e => n2 e.symm)).trans h.blk
  have hvn : ∀ b, v'.ownBlock = some b → b ≠ n := fun b hb => by
    obtain ⟨cur, hc⟩ := hv.blk hb
    exact blk_ne hc hW (by decide)
  have hun : ∀ b, u'.ownBlock = some b → b ≠ n := fun b hb => by
    obtain ⟨cur, hc⟩ := hu.blk hb
    exact blk_ne hc hW (by decide)
  have hold : ∀ b, b < w.heap.size → tgv (tgv o v' (n + 2)) u' (n + 2) b = o b := fun b hb => by
    unfold tgv
    split
    · next e =>
      rcases nu' with e2 | ⟨g', e2, h3⟩
      · rw [e2] at e
        exact (h.tv b e).symm
      · rw [e2] at e; cases e; omega
    · split
      · next e =>
        rcases nv' with e2 | ⟨g', e2, h3⟩
        · rw [e2] at e
          exact (h.tk b e).symm
        · rw [e2] at e; cases e; omega
      · rfl
  have hst : ∀ b, b ≠ n → ((W.setCell ⟨n, 0, none⟩ v').setCell ⟨n, 1, none⟩ u').heap[b]? = W.heap[b]? := fun b hb => (Below.heap_setCell _ ⟨n, 1, none⟩ u' b hb).trans (Below.heap_setCell W ⟨n, 0, none⟩ v' b hb)
  have hkp : ∀ b, b < w.heap.size → b ≠ n → vk.ownBlock ≠ some b → vv.ownBlock ≠ some b → ((W.setCell ⟨n, 0, none⟩ v').setCell ⟨n, 1, none⟩ u').heap[b]? = w.heap[b]? := fun b hb h1 h2 h3 => (hst b h1).trans (g.block b hb (fun e => h2 e.symm) (fun e => h3 e.symm))
  have hsz : ((W.setCell ⟨n, 0, none⟩ v').setCell ⟨n, 1, none⟩ u').heap.size = W.heap.size := by simp [World.setCell]
  have hln := h.lt
  refine ⟨⟨?_, (hold n h.lt).trans h.tg, hv.keep fun b hb _ => hst b (hvn b hb), hu.keep fun b hb _ => hst b (hun b hb), h.rc.keep fun b hb hl => ?_, fun b hb => ?_, fun b hb => if_pos hb, fun b hb => (hold b (h.rc.lt hb)).trans (h.tc b hb), fun k hkm => ?_⟩, ⟨g.os, g.tape, g.output, by rw [hsz]; exact g.size, fun b hb hS => ?_, hold, ⟨fun b hb => ?_, fun b => ?_⟩⟩⟩
  · have e1 := blk_set (blk_set hW 0 v') 1 u'
    exact e1
  · obtain ⟨cur, hc⟩ := h.rc.blk hb
    refine hkp b hl (blk_ne hc h.blk (by decide)) (fun e => ?_) (fun e => ?_)
    · obtain ⟨cur2, hc2⟩ := h.rk.blk e
      exact blk_ne hc hc2 (by decide) rfl
    · obtain ⟨cur2, hc2⟩ := h.rv.blk e
      exact blk_ne hc hc2 (by decide) rfl
  · unfold tgv
    split
    · rfl
    · first
      | rfl
      | exact if_pos hb
  · refine (hk k hkm).keep fun b hb ht => ⟨hkp b hb (fun e => ?_) (fun e => ?_) (fun e => ?_), (hold b hb).trans ht⟩
    · rw [e, h.tg] at ht; omega
    · rw [h.tk b e] at ht; omega
    · rw [h.tv b e] at ht; omega
  · exact hkp b hb (fun e => hS (by rw [e, h.tg])) (fun e => hS (h.tk b e)) (fun e => hS (h.tv b e))
  · rw [hsz] at hb
    have h1 := g.size
    unfold tgv
    split
    · next e => have := hu.lt e; omega
    · split
      · next e => have := hv.lt e; omega
      · exact hf.end_ b (by omega)
  · rw [hsz]
    have h1 := hf.le b
    have h2 := g.size
    unfold tgv
    split
    · omega
    · split <;> omega
/-- A key laid in the place of another one. -/
theorem NdAt.kset {w : World} {o : Nat → Nat} {n g c : Nat} {A : Nat} {vv vc : Value} {F : Nf Ky} (hf : Fb o w) (h : NdAt w o n (.slice (some ⟨g, 0, none⟩) A c) vv vc F) (i : Nat) (k : Ky) (hk : KOk w o k) :
    NdAt (w.setCell ⟨g, i, none⟩ (kv k)) o n (.slice (some ⟨g, 0, none⟩) A c) vv vc ⟨F.ks.set i k, F.vs, F.cs⟩ ∧ Up (· = n + 2) o o w (w.setCell ⟨g, i, none⟩ (kv k)) := by
  have hg : o g = n + 2 := h.tk g rfl
  obtain ⟨cur, hc⟩ := h.rk.blk (g := g) rfl
  have hkp : ∀ b, b ≠ g → (w.setCell ⟨g, i, none⟩ (kv k)).heap[b]? = w.heap[b]? := fun b h1 => Below.heap_setCell w ⟨g, i, none⟩ _ b h1
  have hrow : ∀ {e : TypeId} {v : Value} {ys : List Value}, Rw w e v ys → e ≠ 22 → Rw (w.setCell ⟨g, i, none⟩ (kv k)) e v ys := fun {e v ys} hv h1 =>
    hv.keep fun g' hg' _ => hkp g' (by
      obtain ⟨cur', hc'⟩ := hv.blk hg'
      exact blk_ne hc' hc h1)
  have hset := h.rk.set i (kv k)
  have e : (ksR F.ks).set i (kv k) = ksR (F.ks.set i k) := by unfold ksR; rw [List.map_set]
  rw [e] at hset
  have hko : ∀ k', KOk w o k' → KOk (w.setCell ⟨g, i, none⟩ (kv k)) o k' := fun k' h' => h'.keep fun b _ ht => ⟨hkp b (fun e => by rw [e, hg] at ht; omega), ht⟩
  exact ⟨⟨(hkp n (blk_ne h.blk hc (by decide))).trans h.blk, h.tg, hset, hrow h.rv (by decide), hrow h.rc (by decide), h.tk, h.tv, h.tc, fun k' hk' => by
      rcases List.mem_or_eq_of_mem_set hk' with h1 | rfl
      · exact hko k' (h.ok k' h1)
      · exact hko _ hk⟩,
    ⟨rfl, rfl, rfl, by simp [World.setCell], fun b _ hS => hkp b (fun e => hS (by rw [e, hg])), fun _ _ => rfl, hf.mono (by simp [World.setCell])⟩⟩
/-- A node while two rows of another one grow. -/
theorem NdAt.apart2 {w W : World} {o : Nat → Nat} {n x : Nat} {vk vv vc xk xv xc : Value} {F G : Nf Ky} (hA : NdAt w o n vk vv vc F) (hX : NdAt w o x xk xv xc G) (hne : n ≠ x) (hg : Gr2 w W vk vv) : NdAt W o x xk xv xc G :=
  hX.keep fun b hb ht => ⟨hg.block b hb (fun e => by have := hA.tk b e.symm; omega) (fun e => by have := hA.tv b e.symm; omega), rfl⟩
/-- The node's own block while its two rows grow. -/
theorem NdAt.own2 {w W : World} {o : Nat → Nat} {n : Nat} {vk vv vc : Value} {F : Nf Ky} (h : NdAt w o n vk vv vc F) (hg : Gr2 w W vk vv) : W.cell? ⟨n, 0, none⟩ = some vk ∧ W.cell? ⟨n, 1, none⟩ = some vv ∧ W.cell? ⟨n, 2, none⟩ = some vc ∧ ∀ j, W.frozen? ⟨n, j, none⟩ = false := by
  obtain ⟨n1, n2, n3⟩ := h.nek
  have hb : W.heap[n]? = some (.cells #[vk, vv, vc] 106 (0, 0)) := (hg.block n h.lt (fun e => n1 e.symm) (fun e => n2 e.symm)).trans h.blk
  refine ⟨?_, ?_, ?_, blk_frozen hb⟩ <;> rw [blk_cell hb] <;> rfl
theorem NdAt.kat {w : World} {o : Nat → Nat} {n N c g : Nat} {vv vc : Value} {F : Nf Ky} (h : NdAt w o n (.slice (some ⟨g, 0, none⟩) N c) vv vc F) {i : Nat} {k : Ky} (e : F.ks[i]? = some k) : w.cell? ⟨n, 0, none⟩ = some (.slice (some ⟨g, 0, none⟩) N c) ∧ w.cell? ⟨g, i, none⟩ = some (.slice (k).A (k).l.length (k).c) := by
  obtain ⟨h1, h2⟩ := List.getElem?_eq_some_iff.1 e
  exact h.k2 h1 h2
theorem NdAt.vat {w : World} {o : Nat → Nat} {n N c g : Nat} {vk vc : Value} {F : Nf Ky} (h : NdAt w o n vk (.slice (some ⟨g, 0, none⟩) N c) vc F) {i : Nat} {k : Int} (e : F.vs[i]? = some k) : w.cell? ⟨n, 1, none⟩ = some (.slice (some ⟨g, 0, none⟩) N c) ∧ w.cell? ⟨g, i, none⟩ = some (.int .u64 k) := by
  obtain ⟨h1, h2⟩ := List.getElem?_eq_some_iff.1 e
  exact h.v2 h1 h2
/-- The rows of a node that has a key. -/
theorem NdAt.rows {w : World} {o : Nat → Nat} {n : Nat} {vk vv vc : Value} {F : Nf Ky} (h : NdAt w o n vk vv vc F) {i : Nat} {k : Ky} {v : Int} (ek : F.ks[i]? = some k) (ev : F.vs[i]? = some v) : ∃ gk c gv c', vk = .slice (some ⟨gk, 0, none⟩) F.ks.length c ∧ vv = .slice (some ⟨gv, 0, none⟩) F.vs.length c' ∧ F.ks.length ≤ c ∧ F.vs.length ≤ c' ∧ (i : Int) < (F.ks.length : Int) ∧ (i : Int) < (F.vs.length : Int) := by
  obtain ⟨h1, -⟩ := List.getElem?_eq_some_iff.1 ek
  obtain ⟨h2, -⟩ := List.getElem?_eq_some_iff.1 ev
  obtain ⟨A, c, A', c', A'', c'', rfl, rfl, rfl, l1, l2, -⟩ := h.row
  obtain ⟨gk, rfl, -⟩ := h.kcell h1
  obtain ⟨gv, rfl, -⟩ := h.vcell h2
  exact ⟨gk, c, gv, c', rfl, rfl, l1, l2, by omega, by omega⟩
theorem Gr2.refl (w : World) (v u : Value) : Gr2 w w v u := ⟨rfl, rfl, rfl, Nat.le_refl _, fun _ _ _ _ => rfl⟩
theorem Gr2.below {w V : World} {v u : Value} (h : Below w.heap.size w V) : Gr2 w V v u := ⟨h.os, h.tape, h.output, h.size, fun k hk _ _ => h.block k hk⟩
theorem Gr2.ofL {w V : World} {v u : Value} (h : w.grownBy V v.ownBlock) : Gr2 w V v u := ⟨h.os, h.tape, h.output, h.size, fun k hk a _ => h.block k hk a⟩
/-- Three nodes while keys go from one to another. -/
structure Th (w : World) (o : Nat → Nat) (a x y : Nat) (FA FX FY : Nf Ky) (wc : World) (oc : Nat → Nat) : Prop where
  na : NdE wc oc a FA
  nx : NdE wc oc x FX
  ny : NdE wc oc y FY
  up : Up (fun t => t = a + 2 ∨ t = x + 2 ∨ t = y + 2) o oc w wc
theorem Th.stepA {w wc w' : World} {o oc o' : Nat → Nat} {a x y : Nat} {FA FX FY FA' : Nf Ky} (h : Th w o a x y FA FX FY wc oc) (hf : Fb o w) (hx : a ≠ x) (hy : a ≠ y) {vk vv vc : Value} (hA : NdAt w' o' a vk vv vc FA') (hU : Up (· = a + 2) oc o' wc w') : Th w o a x y FA' FX FY w' o' :=
  ⟨⟨_, _, _, hA⟩, h.nx.up hU (fun e => by omega) (fun e => by omega), h.ny.up hU (fun e => by omega) (fun e => by omega), h.up.trans hf hU (fun _ e => e) (fun _ _ e => .inl e)⟩
theorem Th.stepX {w wc w' : World} {o oc o' : Nat → Nat} {a x y : Nat} {FA FX FY FX' : Nf Ky} (h : Th w o a x y FA FX FY wc oc) (hf : Fb o w) (hx : a ≠ x) (hy : x ≠ y) {vk vv vc : Value} (hX : NdAt w' o' x vk vv vc FX') (hU : Up (· = x + 2) oc o' wc w') : Th w o a x y FA FX' FY w' o' :=
  ⟨h.na.up hU (fun e => by omega) (fun e => by omega), ⟨_, _, _, hX⟩, h.ny.up hU (fun e => by omega) (fun e => by omega), h.up.trans hf hU (fun _ e => e) (fun _ _ e => .inr (.inl e))⟩
theorem Th.stepY {w wc w' : World} {o oc o' : Nat → Nat} {a x y : Nat} {FA FX FY FY' : Nf Ky} (h : Th w o a x y FA FX FY wc oc) (hf : Fb o w) (hx : a ≠ y) (hy : x ≠ y) {vk vv vc : Value} (hY : NdAt w' o' y vk vv vc FY') (hU : Up (· = y + 2) oc o' wc w') : Th w o a x y FA FX FY' w' o' :=
  ⟨h.na.up hU (fun e => by omega) (fun e => by omega), h.nx.up hU (fun e => by omega) (fun e => by omega), ⟨_, _, _, hY⟩, h.up.trans hf hU (fun _ e => e) (fun _ _ e => .inr (.inr e))⟩
theorem Th.drewN {w wc : World} {o oc : Nat → Nat} {a x y : Nat} {FA FX FY : Nf Ky} (h : Th w o a x y FA FX FY wc oc) (n : Nat) : Th w o a x y FA FX FY (wc.drewN n) oc := by
  have u : Up (fun _ => False) oc oc wc (wc.drewN n) := Up.quiet h.up.fb (below_drewN wc n)
  exact ⟨h.na.up u id id, h.nx.up u id id, h.ny.up u id id, ⟨h.up.os, h.up.tape, h.up.output, h.up.size, h.up.blk, h.up.old, u.fb⟩⟩
theorem Th.drew {w wc : World} {o oc : Nat → Nat} {a x y : Nat} {FA FX FY : Nf Ky} (h : Th w o a x y FA FX FY wc oc) : Th w o a x y FA FX FY wc.drew oc := by
  have u : Up (fun _ => False) oc oc wc wc.drew := Up.quiet h.up.fb (Below.refl _ _).drew
  exact ⟨h.na.up u id id, h.nx.up u id id, h.ny.up u id id, ⟨h.up.os, h.up.tape, h.up.output, h.up.size, h.up.blk, h.up.old, u.fb⟩⟩
theorem Th.start {w : World} {o : Nat → Nat} {a x y : Nat} {FA FX FY : Nf Ky} (hf : Fb o w) (ha : NdE w o a FA) (hx : NdE w o x FX) (hy : NdE w o y FY) : Th w o a x y FA FX FY w o :=
  ⟨ha, hx, hy, ⟨rfl, rfl, rfl, Nat.le_refl _, fun _ _ _ => rfl, fun _ _ => rfl, hf⟩⟩
end Go.Proofs.Ytfhonfeopkhdeaa.BC

namespace Go.Proofs.Ytfhonfeopkhdeaa.BC
open Go.RowKit Go.Proofs.YtfhonfeopkhdeaaW.PrintWords

theorem run_apR0 {P : Program} {W : World} {e : TypeId} {v : Value} {xs : List Value} (h : Rw W e v xs) (t ty : TypeId) (i : TypeInfo) (ht : P.underlying t = some (.slice e)) (hi : P.info? e = some i) (_hsize : i.size = 1) (A : Option Addr) (c : Nat) :
    (Builtin.append_ #[t, t] ty #[v, .slice A 0 c]).run P W = .ok v W := by
  rcases h with ⟨rfl, rfl⟩ | ⟨g, cap, cur, rfl, hg, hn, hcs, hmx, htk⟩
  · cases A <;> simp [Builtin.append_, run_underlying ht, sizeOf, typeInfo, hi, Builtin.lenOf, Builtin.firstCells, loadCells, loadCellsFrom]
  · cases A <;> simp [Builtin.append_, run_underlying ht, sizeOf, typeInfo, hi, Builtin.lenOf, Builtin.firstCells, hn, storeCells, loadCells, loadCellsFrom]
theorem run_apRA {P : Program} {W : World} {e : TypeId} {v : Value} {xs ys : List Value} (h : Rw W e v xs) (t ty : TypeId) (i : TypeInfo) (z : Value) (bytes : Nat) (ht : P.underlying t = some (.slice e)) (hi : P.info? e = some i) (hz : i.zero = some z)
    (hsize : i.size = 1) (hby : i.bytes = bytes) (hzs : z.cells.size = 1) (A : Option Addr) (c : Nat) (hnews : 0 < ys.length → ∃ ad, A = some ad ∧ ∀ j u, ys[j]? = some u → W.cell? (ad.add j) = some u) (h1 : One ys) (hx : One xs) (h63 : xs.length + ys.length ≤ maxLen) (hbytes : (xs.length + ys.length) * bytes ≤ 140737488355328) :
    ∃ v' w', (Builtin.append_ #[t, t] ty #[v, .slice A ys.length c]).run P W = .ok v' w' ∧ Rw w' e v' (xs ++ ys) ∧ W.grownBy w' v.ownBlock ∧ Nw W v v' := by
  rcases Nat.eq_zero_or_pos ys.length with h0 | h0
  · have e0 : ys = [] := List.length_eq_zero_iff.1 h0
    subst e0
    exact ⟨v, W, run_apR0 h t ty i ht hi hsize A c, by rw [List.append_nil]; exact h, World.grownBy.refl _ _, .inl rfl⟩
  · obtain ⟨ad, rfl, hc⟩ := hnews h0
    exact run_apR h t ty i z bytes ht hi hz hsize hby hzs ad ys.length c rfl hc h1 hx h0 h63 hbytes
/-- append of one key that lies in a block of its own. -/
theorem key_appW {w V : World} {o : Nat → Nat} {n : Nat} {vk vv vc : Value} {F : Nf Ky} (hn : NdAt w o n vk vv vc F) (hl : F.ks.length ≤ 1000000) (k' : Ky) (hb : Below w.heap.size w V) (gv : Nat) (hv : V.heap[gv]? = some (.cells #[kv k'] 22 (0, 0))) :
    ∃ v' w2, (Builtin.append_ #[69, 69] 69 #[vk, .slice (some ⟨gv, 0, none⟩) 1 1]).run Try.prog V = .ok v' w2 ∧ Rw w2 22 v' (ksR (F.ks ++ [k'])) ∧ V.grownBy w2 vk.ownBlock ∧ Nw w vk v' := by
  have hr : Rw V 22 vk (ksR F.ks) := hn.rk.keep fun g _ hl => hb.block g hl
  have hkl : (ksR F.ks).length = F.ks.length := List.length_map _
  obtain ⟨i0, hi0, hz0, hz1, hz2⟩ := info_parts infoBC
  obtain ⟨v', w2, h1, h2, h3, h4⟩ := run_apR (P := Try.prog) (ys := [kv k']) hr 69 69 i0 _ _ Try.underlying69 hi0 hz0 hz1 hz2 (by rfl) ⟨gv, 0, none⟩ 1 1 rfl (fun j u hj => by
    rw [add_plain, blk_cell hv, ← hj]; simp) (by intro u hu; rcases List.mem_singleton.1 hu with rfl; exact kv_one k') (ksR_one _) (by omega) (by unfold maxLen; omega) (by omega)
  refine ⟨v', w2, h1, ?_, h3, nw_back h4 hb.size⟩
  have e : ksR (F.ks ++ [k']) = ksR F.ks ++ [kv k'] := by simp [ksR]
  rw [e]; exact h2
theorem val_appW {w V : World} {o : Nat → Nat} {n : Nat} {vk vv vc : Value} {F : Nf Ky} (hn : NdAt w o n vk vv vc F) (hl : F.vs.length ≤ 1000000) (x : Int) (hg : w.grownBy V vk.ownBlock) (gv : Nat) (hv : V.heap[gv]? = some (.cells #[.int .u64 x] 38 (0, 0))) :
    ∃ v' w2, (Builtin.append_ #[51, 51] 51 #[vv, .slice (some ⟨gv, 0, none⟩) 1 1]).run Try.prog V = .ok v' w2 ∧ Rw w2 38 v' (vsR (F.vs ++ [x])) ∧ V.grownBy w2 vv.ownBlock ∧ Nw w vv v' := by
  have hr : Rw V 38 vv (vsR F.vs) := rw_apart hn.rv hn.rk hg (by decide)
  have hkl : (vsR F.vs).length = F.vs.length := List.length_map _
  obtain ⟨i0, hi0, hz0, hz1, hz2⟩ := info_parts infoBU
  obtain ⟨v', w2, h1, h2, h3, h4⟩ := run_apR (P := Try.prog) (ys := [.int .u64 x]) hr 51 51 i0 _ _ Try.underlying51 hi0 hz0 hz1 hz2 (by rfl) ⟨gv, 0, none⟩ 1 1 rfl (fun j u hj => by
    rw [add_plain, blk_cell hv, ← hj]; simp) (by intro u hu; rcases List.mem_singleton.1 hu with rfl; rfl) (vsR_one _) (by omega) (by unfold maxLen; omega) (by omega)
  refine ⟨v', w2, h1, ?_, h3, nw_back h4 hg.size⟩
  have e : vsR (F.vs ++ [x]) = vsR F.vs ++ [.int .u64 x] := by simp [vsR]
  rw [e]; exact h2
theorem val_appB {w V : World} {o : Nat → Nat} {n : Nat} {vk vv vc : Value} {F : Nf Ky} (hn : NdAt w o n vk vv vc F) (hl : F.vs.length ≤ 1000000) (x : Int) (hb : Below w.heap.size w V) (gv : Nat) (hv : V.heap[gv]? = some (.cells #[.int .u64 x] 38 (0, 0))) :
    ∃ v' w2, (Builtin.append_ #[51, 51] 51 #[vv, .slice (some ⟨gv, 0, none⟩) 1 1]).run Try.prog V = .ok v' w2 ∧ Rw w2 38 v' (vsR (F.vs ++ [x])) ∧ V.grownBy w2 vv.ownBlock ∧ Nw w vv v' := by
  have hr : Rw V 38 vv (vsR F.vs) := hn.rv.keep fun g _ hl => hb.block g hl
  have hkl : (vsR F.vs).length = F.vs.length := List.length_map _
  obtain ⟨i0, hi0, hz0, hz1, hz2⟩ := info_parts infoBU
  obtain ⟨v', w2, h1, h2, h3, h4⟩ := run_apR (P := Try.prog) (ys := [.int .u64 x]) hr 51 51 i0 _ _ Try.underlying51 hi0 hz0 hz1 hz2 (by rfl) ⟨gv, 0, none⟩ 1 1 rfl (fun j u hj => by
    rw [add_plain, blk_cell hv, ← hj]; simp) (by intro u hu; rcases List.mem_singleton.1 hu with rfl; rfl) (vsR_one _) (by omega) (by unfold maxLen; omega) (by omega)
  refine ⟨v', w2, h1, ?_, h3, nw_back h4 hb.size⟩
  have e : vsR (F.vs ++ [x]) = vsR F.vs ++ [.int .u64 x] := by simp [vsR]
  rw [e]; exact h2
theorem kid_appW {w V : World} {o : Nat → Nat} {n : Nat} {vk vv vc : Value} {F : Nf Ky} (hn : NdAt w o n vk vv vc F) (hl : F.cs.length ≤ 1000000) (x : Nat) (hb : Below w.heap.size w V) (gv : Nat) (hv : V.heap[gv]? = some (.cells #[nv x] 100 (0, 0))) :
    ∃ v' w2, (Builtin.append_ #[104, 104] 104 #[vc, .slice (some ⟨gv, 0, none⟩) 1 1]).run Try.prog V = .ok v' w2 ∧ Rw w2 100 v' (csR (F.cs ++ [x])) ∧ V.grownBy w2 vc.ownBlock ∧ Nw w vc v' := by
  have hr : Rw V 100 vc (csR F.cs) := hn.rc.keep fun g _ hl => hb.block g hl
  have hkl : (csR F.cs).length = F.cs.length := List.length_map _
  obtain ⟨i0, hi0, hz0, hz1, hz2⟩ := info_parts infoBM
  obtain ⟨v', w2, h1, h2, h3, h4⟩ := run_apR (P := Try.prog) (ys := [nv x]) hr 104 104 i0 _ _ Try.underlying104 hi0 hz0 hz1 hz2 (by rfl) ⟨gv, 0, none⟩ 1 1 rfl (fun j u hj => by
    rw [add_plain, blk_cell hv, ← hj]; simp) (by intro u hu; rcases List.mem_singleton.1 hu with rfl; rfl) (csR_one _) (by omega) (by unfold maxLen; omega) (by omega)
  refine ⟨v', w2, h1, ?_, h3, nw_back h4 hb.size⟩
  have e : csR (F.cs ++ [x]) = csR F.cs ++ [nv x] := by simp [csR]
  rw [e]; exact h2
/-- append of another row of the same kind, as it lies. -/
theorem rw_news {V : World} {e n c : Nat} {A : Option Addr} {ys : List Value} (h : Rw V e (.slice A n c) ys) : 0 < ys.length → ∃ ad, A = some ad ∧ ∀ j u, ys[j]? = some u → V.cell? (ad.add j) = some u := fun h0 => by
  obtain ⟨g, rfl, hc⟩ := h.cells h0
  exact ⟨_, rfl, fun j u hj => by rw [add_plain]; exact hc j u hj⟩
theorem row_appC {V : World} {v : Value} {A : Option Addr} {n c : Nat} {xs ys : List Ky} (hr : Rw V 22 v (ksR xs)) (hy : Rw V 22 (.slice A n c) (ksR ys)) (hn : n = ys.length) (hl : xs.length + ys.length ≤ 1000000) :
    ∃ v' w2, (Builtin.append_ #[69, 69] 69 #[v, .slice A n c]).run Try.prog V = .ok v' w2 ∧ Rw w2 22 v' (ksR (xs ++ ys)) ∧ V.grownBy w2 v.ownBlock ∧ Nw V v v' := by
  have h1 : (ksR xs).length = xs.length := List.length_map _
  have h2 : (ksR ys).length = ys.length := List.length_map _
  obtain ⟨i0, hi0, hz0, hz1, hz2⟩ := info_parts infoBC
  have := run_apRA (P := Try.prog) (ys := ksR ys) hr 69 69 i0 _ _ Try.underlying69 hi0 hz0 hz1 hz2 (by rfl) A c (rw_news hy) (ksR_one _) (ksR_one _) (by unfold maxLen; omega) (by omega)
  rw [h2, ← hn] at this
  have e : ksR (xs ++ ys) = ksR xs ++ ksR ys := by simp [ksR]
  rw [e]
  exact this
theorem row_appU {V : World} {v : Value} {A : Option Addr} {n c : Nat} {xs ys : List Int} (hr : Rw V 38 v (vsR xs)) (hy : Rw V 38 (.slice A n c) (vsR ys)) (hn : n = ys.length) (hl : xs.length + ys.length ≤ 1000000) :
    ∃ v' w2, (Builtin.append_ #[51, 51] 51 #[v, .slice A n c]).run Try.prog V = .ok v' w2 ∧ Rw w2 38 v' (vsR (xs ++ ys)) ∧ V.grownBy w2 v.ownBlock ∧ Nw V v v' := by
  have h1 : (vsR xs).length = xs.length := List.length_map _
  have h2 : (vsR ys).length = ys.length := List.length_map _
  obtain ⟨i0, hi0, hz0, hz1, hz2⟩ := info_parts infoBU
  have := run_apRA (P := Try.prog) (ys := vsR ys) hr 51 51 i0 _ _ Try.underlying51 hi0 hz0 hz1 hz2 (by rfl) A c (rw_news hy) (vsR_one _) (vsR_one _) (by unfold maxLen; omega) (by omega)
  rw [h2, ← hn] at this
  have e : vsR (xs ++ ys) = vsR xs ++ vsR ys := by simp [vsR]
  rw [e]
  exact this
theorem row_appM {V : World} {v : Value} {A : Option Addr} {n c : Nat} {xs ys : List Nat} (hr : Rw V 100 v (csR xs)) (hy : Rw V 100 (.slice A n c) (csR ys)) (hn : n = ys.length) (hl : xs.length + ys.length ≤ 1000000) :
    ∃ v' w2, (Builtin.append_ #[104, 104] 104 #[v, .slice A n c]).run Try.prog V = .ok v' w2 ∧ Rw w2 100 v' (csR (xs ++ ys)) ∧ V.grownBy w2 v.ownBlock ∧ Nw V v v' := by
  have h1 : (csR xs).length = xs.length := List.length_map _
  have h2 : (csR ys).length = ys.length := List.length_map _
  obtain ⟨i0, hi0, hz0, hz1, hz2⟩ := info_parts infoBM
  have := run_apRA (P := Try.prog) (ys := csR ys) hr 104 104 i0 _ _ Try.underlying104 hi0 hz0 hz1 hz2 (by rfl) A c (rw_news hy) (csR_one _) (csR_one _) (by unfold maxLen; omega) (by omega)
  rw [h2, ← hn] at this
  have e : csR (xs ++ ys) = csR xs ++ csR ys := by simp [csR]
  rw [e]
  exact this
end Go.Proofs.Ytfhonfeopkhdeaa.BC
