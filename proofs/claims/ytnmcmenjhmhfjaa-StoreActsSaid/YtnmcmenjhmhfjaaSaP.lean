/-
  Two files and their two models, all in one world. No premise.
-/
import Derived.Test.YtnmcmenjhmhfjaaLawStF
namespace Go.Proofs.Ytnmcmenjhmhfjaa
open Go.RowKit Go.Shelf Go.Proofs.YtnmcmenjhmhfjaaW.PrintWords

/-- Tags of their own. -/
structure Dst (a b c d : Nat) : Prop where
  ab : a ≠ b
  ac : a ≠ c
  ad : a ≠ d
  bc : b ≠ c
  bd : b ≠ d
  cd : c ≠ d
  a0 : a ≠ 0
  b0 : b ≠ 0
  c0 : c ≠ 0
  d0 : d ≠ 0
  a9 : a ≠ 9
  b9 : b ≠ 9
  c9 : c ≠ 9
  d9 : d ≠ 9
theorem Dst.swap {a b c d : Nat} (h : Dst a b c d) : Dst c d a b :=
  ⟨h.cd, h.ac.symm, h.bc.symm, h.ad.symm, h.bd.symm, h.ab, h.c0, h.d0, h.a0, h.b0, h.c9, h.d9, h.a9, h.b9⟩
/-- What a file's model is, in bounds. -/
structure FB (F : FM) (N : Nat) : Prop where
  ok : FOk F
  len : F.raws.length ≤ N
  each : ∀ r ∈ F.raws, r.2.length ≤ 1000000000
theorem FB.mono {F : FM} {N M : Nat} (h : FB F N) (hM : N ≤ M) : FB F M := ⟨h.ok, Nat.le_trans h.len hM, h.each⟩
theorem FB.bl {F : FM} {N : Nat} (h : FB F N) : F.b.length ≤ 4200000 := by have h1 := h.ok.len; have h2 := h.ok.most; omega
theorem FB.ctF {F : FM} {N : Nat} (h : FB F N) {n : Int} (hn : n ≤ 9223372036854775807) : FB (ctF F n) N := ⟨h.ok.ctF n hn, by rw [ctF_raws]; exact h.len, by rw [ctF_raws]; exact h.each⟩
theorem FB.on {F : FM} {N : Nat} (h : FB F N) : FB { F with off := false } N := ⟨⟨h.ok.len, h.ok.most, h.ok.lo, h.ok.hi, h.ok.bts, h.ok.rbts⟩, h.len, h.each⟩
theorem pcs_each (a : Nat) (x : List Int) (k : Nat) : ∀ r ∈ pcs a x k, r.2.length ≤ 1000000000 := fun r hr => by
  unfold pcs at hr
  obtain ⟨j, _, rfl⟩ := List.mem_map.1 hr
  show (pc x j).length ≤ _
  unfold pc
  rw [List.length_take]
  omega
theorem FB.wF {F : FM} {N : Nat} (h : FB F N) (a : Int) {x : List Int} (hb : Bts x) (hx : x.length ≤ 5000) : FB (wF F a x) (N + 400) := by
  have hc : chN x.length 16 ≤ 400 := by unfold chN; omega
  refine ⟨h.ok.wF hb a, by have h1 := wF_raws F a x; have h2 := h.len; omega, ?_⟩
  unfold Go.Proofs.Ytnmcmenjhmhfjaa.wF
  split
  · exact h.each
  split
  · exact h.each
  split
  · exact h.each
  · unfold wrF
    split
    · intro r hr
      rcases List.mem_append.1 (show r ∈ F.raws ++ pcs a.toNat x F.left.toNat from hr) with h5 | h5
      · exact h.each r h5
      · exact pcs_each _ _ _ r h5
    · intro r hr
      rcases List.mem_append.1 (show r ∈ F.raws ++ pcs a.toNat x (chN x.length 16) from hr) with h5 | h5
      · exact h.each r h5
      · exact pcs_each _ _ _ r h5
structure SA (w W : World) (o : Nat → Nat) (a b c d p q u v : Nat) (F R G S : FM) : Prop where
  f : FileA W o a p F
  r : RefA W o b q R
  g : FileA W o c u G
  s : RefA W o d v S
  fr : Fr o W
  lo : ∀ k, k < w.heap.size → o k = 0
  bel : Below w.heap.size w W
theorem SA.swap {w W : World} {o : Nat → Nat} {a b c d p q u v : Nat} {F R G S : FM} (h : SA w W o a b c d p q u v F R G S) : SA w W o c d a b u v p q G S F R := ⟨h.g, h.s, h.f, h.r, h.fr, h.lo, h.bel⟩
theorem SA.below {w W W' : World} {o : Nat → Nat} {a b c d p q u v : Nat} {F R G S : FM} (h : SA w W o a b c d p q u v F R G S) (hb : Below W.heap.size W W') : SA w W' o a b c d p q u v F R G S :=
  ⟨h.f.below hb, h.r.below hb, h.g.below hb, h.s.below hb, h.fr.mono hb.size, h.lo, h.bel.trans (hb.mono h.bel.size)⟩
theorem SA.lo' {w W W' : World} {o o' : Nat → Nat} {a b c d p q u v i : Nat} {F R G S : FM} (h : SA w W o a b c d p q u v F R G S) (hu : Upd o o' i W W') : ∀ k, k < w.heap.size → o' k = 0 :=
  fun k hk => (hu.old k (Nat.lt_of_lt_of_le hk h.bel.size)).trans (h.lo k hk)
theorem SA.bel' {w W W' : World} {o o' : Nat → Nat} {a b c d p q u v i : Nat} {F R G S : FM} (h : SA w W o a b c d p q u v F R G S) (hu : Upd o o' i W W') (hi : i ≠ 0) : Below w.heap.size w W' :=
  h.bel.trans (hu.below hi h.bel.size h.lo)
theorem SA.setF {w W W' : World} {o o' : Nat → Nat} {a b c d p q u v p' : Nat} {F R G S F' : FM} (h : SA w W o a b c d p q u v F R G S) (D : Dst a b c d) (hu : Upd o o' a W W') (hf : FileA W' o' a p' F') : SA w W' o' a b c d p' q u v F' R G S :=
  ⟨hf, h.r.upd hu D.ab D.a9, h.g.upd hu D.ac D.a9, h.s.upd hu D.ad D.a9, hu.fr, h.lo' hu, h.bel' hu D.a0⟩
theorem SA.setR {w W W' : World} {o o' : Nat → Nat} {a b c d p q u v p' : Nat} {F R G S F' : FM} (h : SA w W o a b c d p q u v F R G S) (D : Dst a b c d) (hu : Upd o o' b W W') (hf : RefA W' o' b p' F') : SA w W' o' a b c d p p' u v F F' G S :=
  ⟨h.f.upd hu D.ab.symm D.b9, hf, h.g.upd hu D.bc D.b9, h.s.upd hu D.bd D.b9, hu.fr, h.lo' hu, h.bel' hu D.b0⟩
theorem SA.setG {w W W' : World} {o o' : Nat → Nat} {a b c d p q u v p' : Nat} {F R G S F' : FM} (h : SA w W o a b c d p q u v F R G S) (D : Dst a b c d) (hu : Upd o o' c W W') (hf : FileA W' o' c p' F') : SA w W' o' a b c d p q p' v F R F' S :=
  (h.swap.setF D.swap hu hf).swap
theorem SA.setS {w W W' : World} {o o' : Nat → Nat} {a b c d p q u v p' : Nat} {F R G S F' : FM} (h : SA w W o a b c d p q u v F R G S) (D : Dst a b c d) (hu : Upd o o' d W W') (hf : RefA W' o' d p' F') : SA w W' o' a b c d p q u p' F R G F' :=
  (h.swap.setR D.swap hu hf).swap
/-- Bytes of an argument are nobody's. -/
theorem SA.arg {w W : World} {o : Nat → Nat} {a b c d p q u v j : Nat} {F R G S : FM} (h : SA w W o a b c d p q u v F R G S) (hj : j ≠ 0) {A : Option Addr} {l : List Int} (hr : Rd w A l) : 0 < l.length → ∀ x, A = some x → o x.block ≠ j := fun h0 x hx => by
  obtain ⟨ad, e, hc⟩ := hr.2.2 h0
  rw [hx] at e
  cases e
  have := World.block_lt_of_cell? w _ (hc 0 h0)
  rw [add_block] at this
  rw [h.lo _ this]
  exact fun e => hj e.symm
/-- Where nobody's blocks begin: a tag there is none. -/
theorem SA.new {w W : World} {o : Nat → Nat} {a b c d p q u v j k : Nat} {F R G S : FM} (h : SA w W o a b c d p q u v F R G S) (hj : j ≠ 0) (hk : W.heap.size ≤ k) : o k ≠ j := by
  rw [h.fr k hk]
  exact fun e => hj e.symm
end Go.Proofs.Ytnmcmenjhmhfjaa
