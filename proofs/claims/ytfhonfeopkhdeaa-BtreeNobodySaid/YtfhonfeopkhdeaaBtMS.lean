/-
  Nodes as they lie; who owns which block; steps that turn some owners' blocks alone. No premise.
-/
import Derived.Test.YtfhonfeopkhdeaaBt2S
import Derived.Test.YtfhonfeopkhdeaaSlcK
namespace Go.Proofs.Ytfhonfeopkhdeaa.BS
open Go.RowKit Go.Proofs.YtfhonfeopkhdeaaW.PrintWords

def ksR (l : List Ky) : List Value := l.map kv
def vsR (l : List Int) : List Value := l.map (.int .u64)
def nv (n : Nat) : Value := .pointer (some ⟨n, 0, none⟩)
def csR (l : List Nat) : List Value := l.map nv
theorem ksR_one (l : List Ky) : One (ksR l) := fun u hu => by
  obtain ⟨k, _, rfl⟩ := List.mem_map.1 hu
  exact kv_one k
theorem vsR_one (l : List Int) : One (vsR l) := fun u hu => by
  obtain ⟨k, _, rfl⟩ := List.mem_map.1 hu
  rfl
theorem csR_one (l : List Nat) : One (csR l) := fun u hu => by
  obtain ⟨k, _, rfl⟩ := List.mem_map.1 hu
  rfl
theorem ksR_its (l : List (Ky × Int)) : ksR (l.map (·.1)) = ksV l := by simp [ksR, ksV]
/-- Whose a value's block is. -/
def tgv (o : Nat → Nat) (v : Value) (t : Nat) : Nat → Nat := fun b => if v.ownBlock = some b then t else o b
/-- A node of the store. -/
structure NdAt (w : World) (o : Nat → Nat) (n : Nat) (vk vv vc : Value) (F : Nf Ky) : Prop where
  blk : w.heap[n]? = some (.cells #[vk, vv, vc] 89 (0, 0))
  tg : o n = n + 2
  rk : Rw w 9 vk (ksR F.ks)
  rv : Rw w 38 vv (vsR F.vs)
  rc : Rw w 61 vc (csR F.cs)
  tk : ∀ g, vk.ownBlock = some g → o g = n + 2
  tv : ∀ g, vv.ownBlock = some g → o g = n + 2
  tc : ∀ g, vc.ownBlock = some g → o g = n + 2
  ok : ∀ k ∈ F.ks, KOk w o k
/-- The store. -/
def Gm (w : World) (o : Nat → Nat) (M : Nat → Option (Nf Ky)) : Prop := ∀ n F, M n = some F → ∃ vk vv vc, NdAt w o n vk vv vc F
/-- Tags: none ahead of the heap's end, none greater than a node's. -/
structure Fb (o : Nat → Nat) (w : World) : Prop where
  end_ : ∀ b, w.heap.size ≤ b → o b = 0
  le : ∀ b, o b < w.heap.size + 2
theorem Fb.mono {o : Nat → Nat} {w w' : World} (h : Fb o w) (hs : w.heap.size ≤ w'.heap.size) : Fb o w' := ⟨fun b hb => h.end_ b (by omega), fun b => by have := h.le b; omega⟩
/-- A step that turns blocks of some tags alone. -/
structure Up (S : Nat → Prop) (o o' : Nat → Nat) (w w' : World) : Prop where
  os : w'.os = w.os
  tape : w'.tape = w.tape
  output : w'.output = w.output
  size : w.heap.size ≤ w'.heap.size
  blk : ∀ b, b < w.heap.size → ¬ S (o b) → w'.heap[b]? = w.heap[b]?
  old : ∀ b, b < w.heap.size → o' b = o b
  fb : Fb o' w'
theorem Up.trans {S T U : Nat → Prop} {o o' o'' : Nat → Nat} {a b c : World} (hf : Fb o a) (h : Up S o o' a b) (k : Up T o' o'' b c) (h1 : ∀ t, S t → U t) (h2 : ∀ t, t < a.heap.size + 2 → T t → U t) : Up U o o'' a c :=
  ⟨k.os.trans h.os, k.tape.trans h.tape, k.output.trans h.output, Nat.le_trans h.size k.size,
    fun j hj hn => (k.blk j (Nat.lt_of_lt_of_le hj h.size) (by rw [h.old j hj]; exact fun e => hn (h2 _ (hf.le j) e))).trans (h.blk j hj (fun e => hn (h1 _ e))),
    fun j hj => (k.old j (Nat.lt_of_lt_of_le hj h.size)).trans (h.old j hj), k.fb⟩
theorem Up.mono {S T : Nat → Prop} {o o' : Nat → Nat} {a b : World} (h : Up S o o' a b) (h1 : ∀ t, S t → T t) : Up T o o' a b :=
  ⟨h.os, h.tape, h.output, h.size, fun j hj hn => h.blk j hj (fun e => hn (h1 _ e)), h.old, h.fb⟩
theorem Up.quiet {S : Nat → Prop} {o : Nat → Nat} {w w' : World} (hf : Fb o w) (h : Below w.heap.size w w') : Up S o o w w' :=
  ⟨h.os, h.tape, h.output, h.size, fun j hj _ => h.block j hj, fun _ _ => rfl, hf.mono h.size⟩
theorem Up.below {S : Nat → Prop} {o o' : Nat → Nat} {w w' : World} (h : Up S o o' w w') {B : Nat} (hB : B ≤ w.heap.size) (ho : ∀ b, b < B → ¬ S (o b)) : Below B w w' :=
  ⟨h.os, h.tape, h.output, h.size, fun b hb => h.blk b (by omega) (ho b hb)⟩
theorem NdAt.lt {w : World} {o : Nat → Nat} {n : Nat} {vk vv vc : Value} {F : Nf Ky} (h : NdAt w o n vk vv vc F) : n < w.heap.size := blk_lt h.blk
theorem NdAt.keep {w w' : World} {o o' : Nat → Nat} {n : Nat} {vk vv vc : Value} {F : Nf Ky} (h : NdAt w o n vk vv vc F)
    (hk : ∀ b, b < w.heap.size → o b = n + 2 ∨ o b = 1 → w'.heap[b]? = w.heap[b]? ∧ o' b = o b) : NdAt w' o' n vk vv vc F where
  blk := (hk n h.lt (.inl h.tg)).1.trans h.blk
  tg := (hk n h.lt (.inl h.tg)).2.trans h.tg
  rk := h.rk.keep fun g hg hl => (hk g hl (.inl (h.tk g hg))).1
  rv := h.rv.keep fun g hg hl => (hk g hl (.inl (h.tv g hg))).1
  rc := h.rc.keep fun g hg hl => (hk g hl (.inl (h.tc g hg))).1
  tk := fun g hg => (hk g (h.rk.lt hg) (.inl (h.tk g hg))).2.trans (h.tk g hg)
  tv := fun g hg => (hk g (h.rv.lt hg) (.inl (h.tv g hg))).2.trans (h.tv g hg)
  tc := fun g hg => (hk g (h.rc.lt hg) (.inl (h.tc g hg))).2.trans (h.tc g hg)
  ok := fun k hkm => (h.ok k hkm).keep fun b hb h1 => ⟨(hk b hb (.inr h1)).1, (hk b hb (.inr h1)).2.trans h1⟩
theorem NdAt.up {w w' : World} {o o' : Nat → Nat} {n : Nat} {vk vv vc : Value} {F : Nf Ky} {S : Nat → Prop} (h : NdAt w o n vk vv vc F) (u : Up S o o' w w') (h1 : ¬ S 1) (hn : ¬ S (n + 2)) : NdAt w' o' n vk vv vc F :=
  h.keep fun b hb ht => ⟨u.blk b hb (by rcases ht with e | e <;> rw [e] <;> assumption), u.old b hb⟩
def setM (M : Nat → Option (Nf Ky)) (n : Nat) (F : Nf Ky) : Nat → Option (Nf Ky) := fun b => if b = n then some F else M b
theorem setM_same (M : Nat → Option (Nf Ky)) (n : Nat) (F : Nf Ky) : setM M n F n = some F := if_pos rfl
theorem setM_other (M : Nat → Option (Nf Ky)) {n b : Nat} (F : Nf Ky) (h : b ≠ n) : setM M n F b = M b := if_neg h
theorem Gm.up {w w' : World} {o o' : Nat → Nat} {M : Nat → Option (Nf Ky)} (h : Gm w o M) (hb : Below w.heap.size w w') (ho : ∀ b, b < w.heap.size → o' b = o b) : Gm w' o' M := fun n F hF => by
  obtain ⟨vk, vv, vc, hn⟩ := h n F hF
  exact ⟨vk, vv, vc, hn.keep fun b hb2 _ => ⟨hb.block b hb2, ho b hb2⟩⟩
theorem Gm.set {w w' : World} {o o' : Nat → Nat} {M : Nat → Option (Nf Ky)} {S : Nat → Prop} (h : Gm w o M) (u : Up S o o' w w') {n : Nat} (hS : ∀ t, S t → t = n + 2) {vk vv vc : Value} {F : Nf Ky} (hn : NdAt w' o' n vk vv vc F) : Gm w' o' (setM M n F) := fun b G hG => by
  unfold setM at hG
  split at hG
  · next e =>
    cases hG
    subst e
    exact ⟨vk, vv, vc, hn⟩
  · next e =>
    obtain ⟨a, b', c, hb⟩ := h b G hG
    exact ⟨a, b', c, hb.up u (fun e1 => by have := hS _ e1; omega) (fun e1 => e (by have := hS _ e1; omega))⟩
theorem Gm.lt {w : World} {o : Nat → Nat} {M : Nat → Option (Nf Ky)} (h : Gm w o M) {n : Nat} {F : Nf Ky} (hn : M n = some F) : n < w.heap.size := by
  obtain ⟨_, _, _, h⟩ := h n F hn
  exact h.lt
/-- The tags while a row is made: old ones stay, none ahead of the end. -/
structure Mid (o o1 : Nat → Nat) (w W : World) (v v' : Value) : Prop where
  gr : w.grownBy W v.ownBlock
  old : ∀ b, b < w.heap.size → o1 b = o b
  fb : Fb o1 W
  nw : v'.ownBlock = v.ownBlock ∨ ∃ g, v'.ownBlock = some g ∧ w.heap.size ≤ g ∧ o1 g = 0
theorem NdAt.sk {w W : World} {o o1 : Nat → Nat} {n : Nat} {vk vv vc v' : Value} {F : Nf Ky} {xs : List Ky} (h : NdAt w o n vk vv vc F) (m : Mid o o1 w W vk v') (hr : Rw W 9 v' (ksR xs)) (hk : ∀ k ∈ xs, k ∈ F.ks ∨ KOk W o1 k) :
    NdAt (W.setCell ⟨n, 0, none⟩ v') (tgv o1 v' (n + 2)) n v' vv vc ⟨xs, F.vs, F.cs⟩ ∧ Up (· = n + 2) o (tgv o1 v' (n + 2)) w (W.setCell ⟨n, 0, none⟩ v') := by
  have hne : ∀ g, vk.ownBlock = some g → g ≠ n := fun g hg => by
    obtain ⟨cur, hc⟩ := h.rk.blk hg
    exact blk_ne hc h.blk (by decide)
  have hW : W.heap[n]? = some (.cells #[vk, vv, vc] 89 (0, 0)) := (m.gr.block n h.lt (fun e => hne n e.symm rfl)).trans h.blk
  have hne2 : ∀ g, v'.ownBlock = some g → g ≠ n := fun g hg => by
    obtain ⟨cur, hc⟩ := hr.blk hg
    exact blk_ne hc hW (by decide)
  have hon : ∀ g, v'.ownBlock = some g → g < w.heap.size → o g = n + 2 := fun g hg hl => by
    rcases m.nw with e | ⟨g', e, h2, _⟩
    · exact h.tk g (e ▸ hg)
    · rw [e] at hg
      cases hg
      omega
  have hot : ∀ b, b < w.heap.size → tgv o1 v' (n + 2) b = o b := fun b hb => by
    unfold tgv
    split
    · next e => exact (hon b e hb).symm
    · exact m.old b hb
  have hkp : ∀ b, b < w.heap.size → b ≠ n → vk.ownBlock ≠ some b → (W.setCell ⟨n, 0, none⟩ v').heap[b]? = w.heap[b]? := fun b hb h1 h2 =>
    (Below.heap_setCell W ⟨n, 0, none⟩ v' b h1).trans (m.gr.block b hb (fun e => h2 e.symm))
  have hrow : ∀ {e : TypeId} {v : Value} {ys : List Value}, Rw w e v ys → e ≠ 9 → e ≠ 89 → Rw (W.setCell ⟨n, 0, none⟩ v') e v ys := fun {e v ys} hv h1 h2 => by
    refine hv.keep fun g hg hl => hkp g hl ?_ fun e2 => ?_
    · obtain ⟨cur, hc⟩ := hv.blk hg
      exact blk_ne hc h.blk h2
    · obtain ⟨cur, hc⟩ := hv.blk hg
      obtain ⟨cur2, hc2⟩ := h.rk.blk e2
      exact blk_ne hc hc2 h1 rfl
  refine ⟨⟨blk_set hW 0 v', (hot n h.lt).trans h.tg, ?_, hrow h.rv (by decide) (by decide), hrow h.rc (by decide) (by decide), fun g hg => if_pos hg, fun g hg => (hot g (h.rv.lt hg)).trans (h.tv g hg), fun g hg => (hot g (h.rc.lt hg)).trans (h.tc g hg), fun k hkm => ?_⟩, ?_⟩
  · exact hr.keep fun g hg _ => Below.heap_setCell W ⟨n, 0, none⟩ v' g (hne2 g hg)
  · rcases hk k hkm with h1 | h1
    · refine (h.ok k h1).keep fun b hb ht => ⟨hkp b hb (fun e => ?_) (fun e => ?_), (hot b hb).trans ht⟩
      · rw [e, h.tg] at ht; omega
      · rw [h.tk b e] at ht; omega
    · refine h1.keep fun b hb ht => ⟨Below.heap_setCell W ⟨n, 0, none⟩ v' b (fun e => ?_), ?_⟩
      · have : o1 n = n + 2 := (m.old n h.lt).trans h.tg
        rw [show b = n from e, this] at ht; omega
      · unfold tgv
        split
        · next e =>
          rcases m.nw with e2 | ⟨g', e2, _, h3⟩
          · rw [e2] at e
            have := h.tk b e
            rw [m.old b (h.rk.lt e), this] at ht; omega
          · rw [e2] at e
            cases e
            omega
        · exact ht
  · refine ⟨m.gr.os, m.gr.tape, m.gr.output, by rw [World.setCell]; simpa using m.gr.size, fun b hb hS => hkp b hb (fun e => hS (by rw [e, h.tg])) (fun e => hS (h.tk b e)), hot, ⟨fun b hb => ?_, fun b => ?_⟩⟩
    · have hb2 : W.heap.size ≤ b := by simpa [World.setCell] using hb
      unfold tgv
      split
      · next e => have := hr.lt e; omega
      · exact m.fb.end_ b hb2
    · have h1 : (W.setCell ⟨n, 0, none⟩ v').heap.size = W.heap.size := by simp [World.setCell]
      rw [h1]
      have h2 := m.gr.size
      have h3 := h.lt
      unfold tgv
      split
      · omega
      · exact m.fb.le b
theorem NdAt.sv {w W : World} {o o1 : Nat → Nat} {n : Nat} {vk vv vc v' : Value} {F : Nf Ky} {xs : List Int} (h : NdAt w o n vk vv vc F) (m : Mid o o1 w W vv v') (hr : Rw W 38 v' (vsR xs)) :
    NdAt (W.setCell ⟨n, 1, none⟩ v') (tgv o1 v' (n + 2)) n vk v' vc ⟨F.ks, xs, F.cs⟩ ∧ Up (· = n + 2) o (tgv o1 v' (n + 2)) w (W.setCell ⟨n, 1, none⟩ v') := by
  have hne : ∀ g, vv.ownBlock = some g → g ≠ n := fun g hg => by
    obtain ⟨cur, hc⟩ := h.rv.blk hg
    exact blk_ne hc h.blk (by decide)
  have hW : W.heap[n]? = some (.cells #[vk, vv, vc] 89 (0, 0)) := (m.gr.block n h.lt (fun e => hne n e.symm rfl)).trans h.blk
  have hne2 : ∀ g, v'.ownBlock = some g → g ≠ n := fun g hg => by
    obtain ⟨cur, hc⟩ := hr.blk hg
    exact blk_ne hc hW (by decide)
  have hon : ∀ g, v'.ownBlock = some g → g < w.heap.size → o g = n + 2 := fun g hg hl => by
    rcases m.nw with e | ⟨g', e, h2, _⟩
    · exact h.tv g (e ▸ hg)
    · rw [e] at hg
      cases hg
      omega
  have hot : ∀ b, b < w.heap.size → tgv o1 v' (n + 2) b = o b := fun b hb => by
    unfold tgv
    split
    · next e => exact (hon b e hb).symm
    · exact m.old b hb
  have hkp : ∀ b, b < w.heap.size → b ≠ n → vv.ownBlock ≠ some b → (W.setCell ⟨n, 1, none⟩ v').heap[b]? = w.heap[b]? := fun b hb h1 h2 =>
    (Below.heap_setCell W ⟨n, 1, none⟩ v' b h1).trans (m.gr.block b hb (fun e => h2 e.symm))
  have hrow : ∀ {e : TypeId} {v : Value} {ys : List Value}, Rw w e v ys → e ≠ 38 → e ≠ 89 → Rw (W.setCell ⟨n, 1, none⟩ v') e v ys := fun {e v ys} hv h1 h2 => by
    refine hv.keep fun g hg hl => hkp g hl ?_ fun e2 => ?_
    · obtain ⟨cur, hc⟩ := hv.blk hg
      exact blk_ne hc h.blk h2
    · obtain ⟨cur, hc⟩ := hv.blk hg
      obtain ⟨cur2, hc2⟩ := h.rv.blk e2
      exact blk_ne hc hc2 h1 rfl
  refine ⟨⟨blk_set hW 1 v', (hot n h.lt).trans h.tg, hrow h.rk (by decide) (by decide), ?_, hrow h.rc (by decide) (by decide), fun g hg => (hot g (h.rk.lt hg)).trans (h.tk g hg), fun g hg => if_pos hg, fun g hg => (hot g (h.rc.lt hg)).trans (h.tc g hg), fun k hkm => ?_⟩, ?_⟩
  · exact hr.keep fun g hg _ => Below.heap_setCell W ⟨n, 1, none⟩ v' g (hne2 g hg)
  · refine (h.ok k hkm).keep fun b hb ht => ⟨hkp b hb (fun e => ?_) (fun e => ?_), (hot b hb).trans ht⟩
    · rw [e, h.tg] at ht; omega
    · rw [h.tv b e] at ht; omega
  · refine ⟨m.gr.os, m.gr.tape, m.gr.output, by rw [World.setCell]; simpa using m.gr.size, fun b hb hS => hkp b hb (fun e => hS (by rw [e, h.tg])) (fun e => hS (h.tv b e)), hot, ⟨fun b hb => ?_, fun b => ?_⟩⟩
    · have hb2 : W.heap.size ≤ b := by simpa [World.setCell] using hb
      unfold tgv
      split
      · next e => have := hr.lt e; omega
      · exact m.fb.end_ b hb2
    · have h1 : (W.setCell ⟨n, 1, none⟩ v').heap.size = W.heap.size := by simp [World.setCell]
      rw [h1]
      have h2 := m.gr.size
      have h3 := h.lt
      unfold tgv
      split
      · omega
      · exact m.fb.le b
theorem NdAt.sc {w W : World} {o o1 : Nat → Nat} {n : Nat} {vk vv vc v' : Value} {F : Nf Ky} {xs : List Nat} (h : NdAt w o n vk vv vc F) (m : Mid o o1 w W vc v') (hr : Rw W 61 v' (csR xs)) :
    NdAt (W.setCell ⟨n, 2, none⟩ v') (tgv o1 v' (n + 2)) n vk vv v' ⟨F.ks, F.vs, xs⟩ ∧ Up (· = n + 2) o (tgv o1 v' (n + 2)) w (W.setCell ⟨n, 2, none⟩ v') := by
  have hne : ∀ g, vc.ownBlock = some g → g ≠ n := fun g hg => by
    obtain ⟨cur, hc⟩ := h.rc.blk hg
    exact blk_ne hc h.blk (by decide)
  have hW : W.heap[n]? = some (.cells #[vk, vv, vc] 89 (0, 0)) := (m.gr.block n h.lt (fun e => hne n e.symm rfl)).trans h.blk
  have hne2 : ∀ g, v'.ownBlock = some g → g ≠ n := fun g hg => by
    obtain ⟨cur, hc⟩ := hr.blk hg
    exact blk_ne hc hW (by decide)
  have hon : ∀ g, v'.ownBlock = some g → g < w.heap.size → o g = n + 2 := fun g hg hl => by
    rcases m.nw with e | ⟨g', e, h2, _⟩
    · exact h.tc g (e ▸ hg)
    · rw [e] at hg
      cases hg
      omega
  have hot : ∀ b, b < w.heap.size → tgv o1 v' (n + 2) b = o b := fun b hb => by
    unfold tgv
    split
    · next e => exact (hon b e hb).symm
    · exact m.old b hb
  have hkp : ∀ b, b < w.heap.size → b ≠ n → vc.ownBlock ≠ some b → (W.setCell ⟨n, 2, none⟩ v').heap[b]? = w.heap[b]? := fun b hb h1 h2 =>
    (Below.heap_setCell W ⟨n, 2, none⟩ v' b h1).trans (m.gr.block b hb (fun e => h2 e.symm))
  have hrow : ∀ {e : TypeId} {v : Value} {ys : List Value}, Rw w e v ys → e ≠ 61 → e ≠ 89 → Rw (W.setCell ⟨n, 2, none⟩ v') e v ys := fun {e v ys} hv h1 h2 => by
    refine hv.keep fun g hg hl => hkp g hl ?_ fun e2 => ?_
    · obtain ⟨cur, hc⟩ := hv.blk hg
      exact blk_ne hc h.blk h2
    · obtain ⟨cur, hc⟩ := hv.blk hg
      obtain ⟨cur2, hc2⟩ := h.rc.blk e2
      exact blk_ne hc hc2 h1 rfl
  refine ⟨⟨blk_set hW 2 v', (hot n h.lt).trans h.tg, hrow h.rk (by decide) (by decide), hrow h.rv (by decide) (by decide), ?_, fun g hg => (hot g (h.rk.lt hg)).trans (h.tk g hg), fun g hg => (hot g (h.rv.lt hg)).trans (h.tv g hg), fun g hg => if_pos hg, fun k hkm => ?_⟩, ?_⟩
  · exact hr.keep fun g hg _ => Below.heap_setCell W ⟨n, 2, none⟩ v' g (hne2 g hg)
  · refine (h.ok k hkm).keep fun b hb ht => ⟨hkp b hb (fun e => ?_) (fun e => ?_), (hot b hb).trans ht⟩
    · rw [e, h.tg] at ht; omega
    · rw [h.tc b e] at ht; omega
  · refine ⟨m.gr.os, m.gr.tape, m.gr.output, by rw [World.setCell]; simpa using m.gr.size, fun b hb hS => hkp b hb (fun e => hS (by rw [e, h.tg])) (fun e => hS (h.tc b e)), hot, ⟨fun b hb => ?_, fun b => ?_⟩⟩
    · have hb2 : W.heap.size ≤ b := by simpa [World.setCell] using hb
      unfold tgv
      split
      · next e => have := hr.lt e; omega
      · exact m.fb.end_ b hb2
    · have h1 : (W.setCell ⟨n, 2, none⟩ v').heap.size = W.heap.size := by simp [World.setCell]
      rw [h1]
      have h2 := m.gr.size
      have h3 := h.lt
      unfold tgv
      split
      · omega
      · exact m.fb.le b
/-- A number of a node, written in its place. -/
theorem NdAt.vset {w : World} {o : Nat → Nat} {n g c : Nat} {A : Nat} {vk vc : Value} {F : Nf Ky} (hf : Fb o w) (h : NdAt w o n vk (.slice (some ⟨g, 0, none⟩) A c) vc F) (i : Nat) (x : Int) :
    NdAt (w.setCell ⟨g, i, none⟩ (.int .u64 x)) o n vk (.slice (some ⟨g, 0, none⟩) A c) vc ⟨F.ks, F.vs.set i x, F.cs⟩ ∧ Up (· = n + 2) o o w (w.setCell ⟨g, i, none⟩ (.int .u64 x)) := by
  have hg : o g = n + 2 := h.tv g rfl
  obtain ⟨cur, hc⟩ := h.rv.blk (g := g) rfl
  have hkp : ∀ b, b ≠ g → (w.setCell ⟨g, i, none⟩ (.int .u64 x)).heap[b]? = w.heap[b]? := fun b h1 => Below.heap_setCell w ⟨g, i, none⟩ _ b h1
  have hrow : ∀ {e : TypeId} {v : Value} {ys : List Value}, Rw w e v ys → e ≠ 38 → Rw (w.setCell ⟨g, i, none⟩ (.int .u64 x)) e v ys := fun {e v ys} hv h1 =>
    hv.keep fun g' hg' _ => hkp g' (by
      obtain ⟨cur', hc'⟩ := hv.blk hg'
      exact blk_ne hc' hc h1)
  have hset := h.rv.set i (.int .u64 x)
  have e : (vsR F.vs).set i (.int .u64 x) = vsR (F.vs.set i x) := by unfold vsR; rw [List.map_set]
  rw [e] at hset
  exact ⟨⟨(hkp n (blk_ne h.blk hc (by decide))).trans h.blk, h.tg, hrow h.rk (by decide), hset, hrow h.rc (by decide), h.tk, h.tv, h.tc, fun k hk => (h.ok k hk).keep fun b _ ht => ⟨hkp b (fun e => by rw [e, hg] at ht; omega), ht⟩⟩,
    ⟨rfl, rfl, rfl, by simp [World.setCell], fun b _ hS => hkp b (fun e => hS (by rw [e, hg])), fun _ _ => rfl, hf.mono (by simp [World.setCell])⟩⟩
/-- The tags, a node having been made. -/
def tgn (o : Nat → Nat) (y : Nat) (vk vv : Value) : Nat → Nat := fun b => if b = y ∨ vk.ownBlock = some b ∨ vv.ownBlock = some b then y + 2 else o b
/-- A node that is made now, of rows that were made now. -/
theorem nd_new {w W : World} {o : Nat → Nat} {vk vv : Value} {ks : List Ky} {vs : List Int} (hf : Fb o w) (hb : Below w.heap.size w W) (hk : Rw W 9 vk (ksR ks)) (hv : Rw W 38 vv (vsR vs))
    (nk : ∀ g, vk.ownBlock = some g → w.heap.size ≤ g) (nn : ∀ g, vv.ownBlock = some g → w.heap.size ≤ g) (ok : ∀ k ∈ ks, KOk w o k) :
    NdAt (W.alloc (.cells #[vk, vv, .slice none 0 0] 89)) (tgn o W.heap.size vk vv) W.heap.size vk vv (.slice none 0 0) ⟨ks, vs, []⟩ ∧
    Up (fun _ => False) o (tgn o W.heap.size vk vv) w (W.alloc (.cells #[vk, vv, .slice none 0 0] 89)) := by
  have hB : Below W.heap.size W (W.alloc (.cells #[vk, vv, .slice none 0 0] 89)) := (Below.refl _ _).alloc (Nat.le_refl _) _
  have hB2 : Below w.heap.size w (W.alloc (.cells #[vk, vv, .slice none 0 0] 89)) := hb.alloc hb.size _
  have hsz : (W.alloc (.cells #[vk, vv, .slice none 0 0] 89)).heap.size = W.heap.size + 1 := by simp
  have h0 := hb.size
  have hot : ∀ b, b < w.heap.size → tgn o W.heap.size vk vv b = o b := fun b hl => by
    refine if_neg ?_
    rintro (e | e | e)
    · omega
    · have := nk b e; omega
    · have := nn b e; omega
  refine ⟨⟨by show (W.heap.push _)[W.heap.size]? = _; simp, if_pos (.inl rfl), hk.keep fun g hg hl => hB.block g hl, hv.keep fun g hg hl => hB.block g hl, Rw.nil _ _, fun g hg => if_pos (.inr (.inl hg)), fun g hg => if_pos (.inr (.inr hg)), (fun g hg => by cases hg), fun k hkm => (ok k hkm).keep fun b hl ht => ⟨hB2.block b hl, (hot b hl).trans ht⟩⟩,
    ⟨hB2.os, hB2.tape, hB2.output, hB2.size, fun b hl _ => hB2.block b hl, hot, ⟨fun b hl => ?_, fun b => ?_⟩⟩⟩
  · rw [hsz] at hl
    refine (if_neg ?_).trans (hf.end_ b (by omega))
    rintro (e | e | e)
    · omega
    · have := hk.lt e; omega
    · have := hv.lt e; omega
  · rw [hsz]
    have h1 := hf.le b
    unfold tgn
    split <;> omega
/-- The tree's own block. -/
structure TrAt (w : World) (o : Nat → Nat) (p m sz q : Nat) : Prop where
  blk : w.heap[p]? = some (.cells #[.int .i64 m, .int .i64 sz, .func (.func 11) #[] #[], .func (.func 51) #[] #[], nv q] 63 (0, 0))
  tg : o p = p + 2
theorem TrAt.up {w w' : World} {o o' : Nat → Nat} {p m sz q : Nat} {S : Nat → Prop} (h : TrAt w o p m sz q) (u : Up S o o' w w') (hp : ¬ S (p + 2)) : TrAt w' o' p m sz q :=
  ⟨(u.blk p (blk_lt h.blk) (by rw [h.tg]; exact hp)).trans h.blk, (u.old p (blk_lt h.blk)).trans h.tg⟩
theorem TrAt.ne {w : World} {o : Nat → Nat} {p m sz q n : Nat} {vk vv vc : Value} {F : Nf Ky} (h : TrAt w o p m sz q) (hn : NdAt w o n vk vv vc F) : p ≠ n := blk_ne h.blk hn.blk (by decide)
end Go.Proofs.Ytfhonfeopkhdeaa.BS
