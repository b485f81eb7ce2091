/-
  The reference's list of coordinates: how it lies, rows that are made anew. No premise.
-/
import Derived.Test.YtfhonfeopkhdeaaBtSc
namespace Go.Proofs.Ytfhonfeopkhdeaa
open Go.RowKit Go.Proofs.YtfhonfeopkhdeaaW.PrintWords

/-- A row that was made since wc. -/
structure Ro (wc V : World) (e : TypeId) (v : Value) (xs : List Value) : Prop where
  rw_ : Rw V e v xs
  fr : ∀ g, v.ownBlock = some g → wc.heap.size ≤ g
theorem Ro.new {wc V : World} (e : TypeId) (hs : wc.heap.size ≤ V.heap.size) : Ro wc (V.alloc (.cells #[] e)) e (.slice (some ⟨V.heap.size, 0, none⟩) 0 0) [] :=
  ⟨Rw.mk (xs := []) (BS.top_blk V #[] e) (Nat.le_refl _) (Nat.le_refl _) (by unfold maxLen; omega) rfl, fun g h => by cases h; exact hs⟩
theorem Ro.alloc {wc V : World} {e : TypeId} {v : Value} {xs : List Value} (h : Ro wc V e v xs) (ob : Obj) : Ro wc (V.alloc ob) e v xs := ⟨KA.rw_alloc h.rw_ ob, h.fr⟩
/-- What may be appended. -/
def Src (V : World) (B : Option Addr) (ys : List Value) : Prop := 0 < ys.length → ∃ ad, B = some ad ∧ ∀ j u, ys[j]? = some u → V.cell? (ad.add j) = some u
theorem Src.below {w V : World} {B : Option Addr} {ys : List Value} (h : Src w B ys) (hb : Below w.heap.size w V) : Src V B ys := fun h0 => by
  obtain ⟨ad, e, hc⟩ := h h0
  exact ⟨ad, e, fun j u hu => pw_cell_below hb (hc j u hu)⟩
theorem Src.one {V : World} {e : TypeId} {b : Nat} {x : Value} (h : V.heap[b]? = some (.cells #[x] e (0, 0))) : Src V (some ⟨b, 0, none⟩) [x] := fun _ => ⟨_, rfl, fun j u hu => by
  cases j with
  | zero =>
    rw [addr_add, blk_cell h]
    exact hu
  | succ j => simp at hu⟩
theorem Ro.app {P : Program} {wc V : World} {e : TypeId} {v : Value} {xs ys : List Value} (h : Ro wc V e v xs) (t ty : TypeId) (z : Value) (bytes : Nat) (ht : P.underlying t = some (.slice e)) (hi : (P.info? e).map (fun i => (i.zero, i.size, i.bytes)) = some (some z, 1, bytes)) (hzs : z.cells.size = 1) (hs : wc.heap.size ≤ V.heap.size)
    (B : Option Addr) (m c : Nat) (hm : m = ys.length) (hy : Src V B ys) (h1 : One ys) (hx : One xs) (h63 : xs.length + ys.length ≤ 1000000) (hby : bytes ≤ 100) :
    ∃ Ak lk ck w', (Builtin.append_ #[t, t] ty #[v, .slice B m c]).run P V = .ok (.slice Ak lk ck) w' ∧ lk = (xs ++ ys).length ∧ Ro wc w' e (.slice Ak lk ck) (xs ++ ys) ∧ V.grownBy w' v.ownBlock ∧ (∀ g, (Value.slice Ak lk ck).ownBlock = some g → v.ownBlock = some g ∨ V.heap.size ≤ g) := by
  obtain ⟨i0, hi0, hz0, hz1, hz2⟩ := info_parts hi
  subst hm
  have hle : (xs.length + ys.length) * bytes ≤ 1000000 * 100 := Nat.mul_le_mul h63 hby
  obtain ⟨v', w', hr, h2, h3, h4⟩ := KA.run_apRA (P := P) h.rw_ t ty i0 z bytes ht hi0 hz0 hz1 hz2 hzs B c hy h1 hx (by unfold maxLen; omega) (by omega)
  obtain ⟨A', c', e', -⟩ := h2.form
  subst e'
  refine ⟨A', _, c', w', hr, rfl, ⟨h2, fun g hg => ?_⟩, h3, fun g hg => ?_⟩
  · rcases h4 with h4 | ⟨g', h4, h5⟩
    · exact h.fr g (h4.symm.trans hg)
    · rw [h4] at hg
      cases hg
      omega
  · rcases h4 with h4 | ⟨g', h4, h5⟩
    · exact .inl (h4.symm.trans hg)
    · rw [h4] at hg
      cases hg
      exact .inr h5
theorem below_fresh {wc V w' : World} {row : Option Nat} (h : Below wc.heap.size wc V) (hg : V.grownBy w' row) (hr : ∀ g, row = some g → wc.heap.size ≤ g) : Below wc.heap.size wc w' :=
  h.trans ⟨hg.os, hg.tape, hg.output, hg.size, fun b hb => hg.block b (Nat.lt_of_lt_of_le hb h.size) (fun e => by
    have := hr b e.symm
    omega)⟩
/-- A row parted at a place. -/
theorem row_parts {P : Program} {w : World} {t e : TypeId} {bytes n c : Nat} {z : Value} {A : Option Addr} {xs : List Value} (ht : P.underlying t = some (.slice e)) (hi : (P.info? e).map (fun i => (i.zero, i.size, i.bytes)) = some (some z, 1, bytes)) (h : Rw w e (.slice A n c) xs) (hn : n = xs.length) (i : Nat) (hin : i ≤ n) :
    (∃ B d, (∀ W, (Instr.slice t (.slice A n c) none (some (.int .i64 i)) none).run P W = .ok (.slice B i d) W) ∧ Src w B (xs.take i)) ∧ (∃ B d, (∀ W, (Instr.slice t (.slice A n c) (some (.int .i64 i)) none none).run P W = .ok (.slice B (n - i) d) W) ∧ Src w B (xs.drop i)) := by
  obtain ⟨i0, hi0, hz0, hz1, hz2⟩ := info_parts hi
  have hsrc := KA.rw_news h
  rcases h with ⟨h1, h2⟩ | ⟨g, cap, cur, h1, hg, hnc, hcs, hm, htk⟩
  · cases h1
    have : i = 0 := by omega
    subst this
    refine ⟨⟨none, 0, fun W => ?_, fun h0 => ?_⟩, ⟨none, 0, fun W => ?_, fun h0 => ?_⟩⟩
    · simp [Instr.slice, Instr.sliceBounds, Instr.sliceBound, asIntOf, run_underlying ht, sizeOf, typeInfo, hi0]
    · rw [h2] at h0; simp at h0
    · simp [Instr.slice, Instr.sliceBounds, Instr.sliceBound, asIntOf, run_underlying ht, sizeOf, typeInfo, hi0]
    · rw [h2] at h0; simp at h0
  · cases h1
    obtain ⟨ad, had, hs⟩ := slice_e (P := P) t e ht hi0 hz1 g xs.length c i (i : Int) rfl hin hnc
    refine ⟨⟨some ⟨g, 0, none⟩, c, fun W => slice_hi (P := P) t e ht hi0 hz1 g xs.length c i (i : Int) rfl (by omega) W, fun h0 => ?_⟩, ⟨some ad, c - i, hs, fun h0 => ?_⟩⟩
    · rw [List.length_take] at h0
      obtain ⟨ad', e', hc⟩ := hsrc (by omega)
      cases e'
      refine ⟨_, rfl, fun j u hu => hc j u ?_⟩
      rw [List.getElem?_take] at hu
      split at hu
      · exact hu
      · cases hu
    · rw [List.length_drop] at h0
      obtain ⟨ad', e', hc⟩ := hsrc (by omega)
      cases e'
      refine ⟨ad, rfl, fun j u hu => ?_⟩
      rw [List.getElem?_drop] at hu
      have := hc _ u hu
      rw [had (by omega), addr_add]
      rw [addr_add, Nat.zero_add] at this
      exact this
/-- The blocks of S alone were changed, and new ones made. -/
structure Ch (w : World) (S : Nat → Prop) (w' : World) (S' : Nat → Prop) : Prop where
  os : w'.os = w.os
  tape : w'.tape = w.tape
  output : w'.output = w.output
  size : w.heap.size ≤ w'.heap.size
  blk : ∀ b, b < w.heap.size → ¬ S b → w'.heap[b]? = w.heap[b]?
  s1 : ∀ b, S b → S' b
  s2 : ∀ b, S' b → S b ∨ (w.heap.size ≤ b ∧ b < w'.heap.size)
theorem Ch.trans {a b c : World} {S S' S'' : Nat → Prop} (h : Ch a S b S') (k : Ch b S' c S'') : Ch a S c S'' :=
  ⟨k.os.trans h.os, k.tape.trans h.tape, k.output.trans h.output, Nat.le_trans h.size k.size, fun x hx hn => (k.blk x (Nat.lt_of_lt_of_le hx h.size) (fun e => (h.s2 x e).elim hn (fun e => by omega))).trans (h.blk x hx hn), fun x hx => k.s1 x (h.s1 x hx), fun x hx => by
    have h1 := h.size
    have h2 := k.size
    rcases k.s2 x hx with h3 | h3
    · rcases h.s2 x h3 with h4 | h4
      · exact .inl h4
      · exact .inr ⟨h4.1, by omega⟩
    · exact .inr ⟨by omega, h3.2⟩⟩
theorem Ch.quiet {w w' : World} (S : Nat → Prop) (h : Below w.heap.size w w') : Ch w S w' S := ⟨h.os, h.tape, h.output, h.size, fun b hb _ => h.block b hb, fun _ h => h, fun _ h => .inl h⟩
theorem Ro.ne {wc V : World} {e : TypeId} {v : Value} {xs : List Value} {b : Nat} (h : Ro wc V e v xs) (hb : b = V.heap.size) : ∀ g, v.ownBlock = some g → g ≠ b := fun g hg e2 => by
  have := h.rw_.lt hg
  omega
theorem new_ne {V : World} {b : Nat} {x : Obj} (h : V.heap[b]? = some x) : ∀ g, (Value.slice (some ⟨V.heap.size, 0, none⟩) 0 0).ownBlock = some g → g ≠ b := fun g hg e2 => by
  have h1 := (Array.getElem?_eq_some_iff.1 h).1
  have h2 : V.heap.size = b := by cases hg; exact e2
  omega
theorem ne_nw {V : World} {v v2 : Value} {b : Nat} (h : ∀ g, v.ownBlock = some g → g ≠ b) (hn : ∀ g, v2.ownBlock = some g → v.ownBlock = some g ∨ V.heap.size ≤ g) (hb : b < V.heap.size) : ∀ g, v2.ownBlock = some g → g ≠ b := fun g hg => by
  rcases hn g hg with h1 | h1
  · exact h g h1
  · omega
/-- Coordinates in a row of which the block is one of S. -/
structure Fs (w : World) (S : Nat → Prop) (k : BC.Ky) : Prop where
  rw_ : Rw w 3 (BC.kv k) (BC.iR k.l)
  in_ : ∀ g, (BC.kv k).ownBlock = some g → S g
  le : k.l.length ≤ 17592186044000
theorem Fs.keep {w w' : World} {S S' : Nat → Prop} {k : BC.Ky} (h : Fs w S k) (hS : ∀ b, S b → S' b) (hk : ∀ g cur, w.heap[g]? = some (.cells cur 3 (0, 0)) → S g → w'.heap[g]? = w.heap[g]?) : Fs w' S' k :=
  ⟨h.rw_.keep fun g hg _ => by
    obtain ⟨cur, hc⟩ := h.rw_.blk hg
    exact hk g cur hc (h.in_ g hg), fun g hg => hS g (h.in_ g hg), h.le⟩
theorem Fs.to {w V : World} {S : Nat → Prop} {k : BC.Ky} (h : Fs w S k) (hb : Below w.heap.size w V) : Fs V S k := h.keep (fun _ h => h) fun _ _ hc _ => hb.block _ (Array.getElem?_eq_some_iff.1 hc).1
theorem Fs.one {V : World} {S S' : Nat → Prop} {k : BC.Ky} {r j : Nat} {cs : Array Value} {t : TypeId} {x : Value} (h : Fs V S k) (hr : V.heap[r]? = some (.cells cs t (0, 0))) (hS : ∀ b, S b → S' b) (ht : 3 ≠ t := by decide) : Fs (V.setCell ⟨r, j, none⟩ x) S' k := h.keep hS fun g _ hc _ => Below.heap_setCell V ⟨r, j, none⟩ _ g (blk_ne hc hr ht)
theorem Fs.rd {w : World} {S : Nat → Prop} {k : BC.Ky} (h : Fs w S k) : BC.KRd w k := ⟨(BC.rd_row h.rw_ (by have := h.le; omega)).1, h.le⟩
theorem Fs.of {B : Nat} {w : World} {k : BC.Ky} (h : BC.Fk B w k) {S : Nat → Prop} (hS : ∀ g, B ≤ g → g < w.heap.size → S g) : Fs w S k := ⟨h.rw_, fun g hg => hS g (h.fr g hg) (h.rw_.lt hg), h.le⟩
/-- The list of coordinates: its box, its two rows, each of its own; S: the blocks that are its own. -/
structure RBc (w : World) (S : Nat → Prop) (r : Nat) (K : List BC.Ky) (V : List Int) : Prop where
  box : ∃ kA kc vA vc, w.heap[r]? = some (.cells #[.slice kA K.length kc, .slice vA V.length vc] 71 (0, 0)) ∧ Rw w 22 (.slice kA K.length kc) (BC.ksR K) ∧ Rw w 38 (.slice vA V.length vc) (BC.vsR V) ∧ (∀ g, (Value.slice kA K.length kc).ownBlock = some g → S g) ∧ (∀ g, (Value.slice vA V.length vc).ownBlock = some g → S g) ∧ ∀ k ∈ K, Fs w S k
  sr : S r
/-- The coordinates are another row, made since. -/
theorem RBc.setK {w V : World} {S : Nat → Prop} {r : Nat} {K K' : List BC.Ky} {Vs : List Int} {A : Option Addr} {n c : Nat} (h : RBc w S r K Vs) (hr : r < w.heap.size) (hb : Below w.heap.size w V) (ho : Ro w V 22 (.slice A n c) (BC.ksR K')) (hK : ∀ k ∈ K', Fs w S k) :
    RBc (V.setCell ⟨r, 0, none⟩ (.slice A n c)) (fun b => S b ∨ (w.heap.size ≤ b ∧ b < V.heap.size)) r K' Vs ∧ Ch w S (V.setCell ⟨r, 0, none⟩ (.slice A n c)) (fun b => S b ∨ (w.heap.size ≤ b ∧ b < V.heap.size)) := by
  obtain ⟨kA, kc, vA, vc, h1, h2, h3, h4, h5, h6⟩ := h.box
  have hbk := (hb.block r hr).trans h1
  have hsz : (V.setCell ⟨r, 0, none⟩ (.slice A n c)).heap.size = V.heap.size := by simp [World.setCell]
  obtain ⟨A', c', e', hlc⟩ := ho.rw_.form
  have hkl : (BC.ksR K').length = K'.length := List.length_map _
  rw [hkl] at e' hlc
  cases e'
  have hset := blk_set hbk 0 (.slice A K'.length c)
  have hkp : ∀ {e : TypeId} {v : Value} {xs : List Value}, e ≠ 71 → Rw V e v xs → Rw (V.setCell ⟨r, 0, none⟩ (.slice A K'.length c)) e v xs := fun hne hw => hw.keep fun g hg _ => Below.heap_setCell V ⟨r, 0, none⟩ _ g fun e2 => by
    obtain ⟨cs', hc'⟩ := hw.blk hg
    exact blk_ne hc' hbk hne e2
  refine ⟨⟨⟨A, c, vA, vc, hset, hkp (by decide) ho.rw_, hkp (by decide) (h3.keep fun g _ hl => hb.block g hl), fun g hg => .inr ⟨ho.fr g hg, ho.rw_.lt hg⟩, fun g hg => .inl (h5 g hg), fun k hk => ((hK k hk).to hb).one hbk fun _ h => .inl h⟩, .inl h.sr⟩, ⟨hb.os, hb.tape, hb.output, by rw [hsz]; exact hb.size, fun b hlt hn => ?_, fun _ h => .inl h, fun b h => by rw [hsz]; exact h⟩⟩
  rw [Below.heap_setCell V ⟨r, 0, none⟩ _ b (fun e => hn (by rw [e]; exact h.sr))]
  exact hb.block b hlt
/-- The numbers are another row, made since. -/
theorem RBc.setV {w V : World} {S : Nat → Prop} {r : Nat} {K : List BC.Ky} {Vs Vs' : List Int} {A : Option Addr} {n c : Nat} (h : RBc w S r K Vs) (hr : r < w.heap.size) (hb : Below w.heap.size w V) (ho : Ro w V 38 (.slice A n c) (BC.vsR Vs')) :
    RBc (V.setCell ⟨r, 1, none⟩ (.slice A n c)) (fun b => S b ∨ (w.heap.size ≤ b ∧ b < V.heap.size)) r K Vs' ∧ Ch w S (V.setCell ⟨r, 1, none⟩ (.slice A n c)) (fun b => S b ∨ (w.heap.size ≤ b ∧ b < V.heap.size)) := by
  obtain ⟨kA, kc, vA, vc, h1, h2, h3, h4, h5, h6⟩ := h.box
  have hbk := (hb.block r hr).trans h1
  have hsz : (V.setCell ⟨r, 1, none⟩ (.slice A n c)).heap.size = V.heap.size := by simp [World.setCell]
  obtain ⟨A', c', e', hlc⟩ := ho.rw_.form
  have hkl : (BC.vsR Vs').length = Vs'.length := List.length_map _
  rw [hkl] at e' hlc
  cases e'
  have hset := blk_set hbk 1 (.slice A Vs'.length c)
  have hkp : ∀ {e : TypeId} {v : Value} {xs : List Value}, e ≠ 71 → Rw V e v xs → Rw (V.setCell ⟨r, 1, none⟩ (.slice A Vs'.length c)) e v xs := fun hne hw => hw.keep fun g hg _ => Below.heap_setCell V ⟨r, 1, none⟩ _ g fun e2 => by
    obtain ⟨cs', hc'⟩ := hw.blk hg
    exact blk_ne hc' hbk hne e2
  refine ⟨⟨⟨kA, kc, A, c, hset, hkp (by decide) (h2.keep fun g _ hl => hb.block g hl), hkp (by decide) ho.rw_, fun g hg => .inl (h4 g hg), fun g hg => .inr ⟨ho.fr g hg, ho.rw_.lt hg⟩, fun k hk => ((h6 k hk).to hb).one hbk fun _ h => .inl h⟩, .inl h.sr⟩, ⟨hb.os, hb.tape, hb.output, by rw [hsz]; exact hb.size, fun b hlt hn => ?_, fun _ h => .inl h, fun b h => by rw [hsz]; exact h⟩⟩
  rw [Below.heap_setCell V ⟨r, 1, none⟩ _ b (fun e => hn (by rw [e]; exact h.sr))]
  exact hb.block b hlt
end Go.Proofs.Ytfhonfeopkhdeaa
