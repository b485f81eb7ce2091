/-
  Two trees of names in one world. No premise.
-/
import Derived.Test.YtfhonfeopkhdeaaBtKt
namespace Go.Proofs.Ytfhonfeopkhdeaa.BS
open Go.RowKit Go.Proofs.YtfhonfeopkhdeaaW.PrintWords

/-- Two trees that have no block in common, and none of the world ahead. -/
structure Tw (w : World) (p q m : Nat) (L K : List (Ky × Int)) (W : World) : Prop where
  ab : ∃ ba bb oa ob, NT ba W oa p m L ∧ NT bb W ob q m K ∧ (∀ b, oa b = 0 ∨ ob b = 0) ∧ (∀ b, b < w.heap.size → oa b = 0 ∧ ob b = 0)
  bl : Below w.heap.size w W
theorem Tw.swap {w W : World} {p q m : Nat} {L K : List (Ky × Int)} (T : Tw w p q m L K W) : Tw w q p m K L W := by
  obtain ⟨⟨ba, bb, oa, ob, h1, h2, h3, h4⟩, hb⟩ := T
  exact ⟨⟨bb, ba, ob, oa, h2, h1, fun b => (h3 b).symm, fun b hb => (h4 b hb).symm⟩, hb⟩
theorem Tw.step {w W W' : World} {p q m ba : Nat} {L L' K : List (Ky × Int)} {oa oa' ob : Nat → Nat} {bb : Nat} (_h1 : NT ba W oa p m L) (h2 : NT bb W ob q m K) (h3 : ∀ b, oa b = 0 ∨ ob b = 0) (h4 : ∀ b, b < w.heap.size → oa b = 0 ∧ ob b = 0) (hb : Below w.heap.size w W) (u : UpB ba oa oa' W W') (hn : NT ba W' oa' p m L') : Tw w p q m L' K W' := by
  refine ⟨⟨ba, bb, oa', ob, hn, h2.keep u.size fun b hb hne => u.blk b hb (fun e => ?_), fun b => ?_, fun b hlt => ?_⟩, ?_⟩
  · rcases h3 b with h | h
    · rw [h] at e; omega
    · exact hne h
  · by_cases hlt : b < W.heap.size
    · rw [u.old b hlt]; exact h3 b
    · exact .inr (h2.fb.end_ b (by omega))
  · rw [u.old b (Nat.lt_of_lt_of_le hlt hb.size)]; exact h4 b hlt
  · exact hb.trans (u.below hb.size fun b hlt e => by rw [(h4 b hlt).1] at e; omega)
theorem Tw.put {w W : World} {p q m : Nat} {L K : List (Ky × Int)} (T : Tw w p q m L K W) (hm : 3 ≤ m ∧ m ≤ 64) (k : Ky) (v : Int) (hl : L.length < 65536) :
    Calls Try.prog 22 #[nv p, kv k, .int .u64 v] W fun e w' => e = .returned (.tuple #[.bool (getL kct k L).isNone, .int .i64 0]) ∧ Tw w p q m (insL kct k v L) K w' := by
  obtain ⟨⟨ba, bb, oa, ob, h1, h2, h3, h4⟩, hb⟩ := T
  refine (h1.put hm k v hl).mono ?_
  rintro e w' ⟨o', hu, hn, rfl⟩
  exact ⟨rfl, Tw.step h1 h2 h3 h4 hb hu hn⟩
theorem Tw.drop {w W : World} {p q m : Nat} {L K : List (Ky × Int)} (T : Tw w p q m L K W) (hm : 3 ≤ m ∧ m ≤ 64) (k : Ky) (hl : L.length ≤ 65536) :
    Calls Try.prog 23 #[nv p, kv k] W fun e w' => e = .returned (.bool (getL kct k L).isSome) ∧ Tw w p q m (delL kct k L) K w' := by
  obtain ⟨⟨ba, bb, oa, ob, h1, h2, h3, h4⟩, hb⟩ := T
  refine (h1.drop hm k hl).mono ?_
  rintro e w' ⟨o', hu, hn, rfl⟩
  exact ⟨rfl, Tw.step h1 h2 h3 h4 hb hu hn⟩
theorem Tw.below {w W W' : World} {p q m : Nat} {L K : List (Ky × Int)} (T : Tw w p q m L K W) (hb : Below W.heap.size W W') : Tw w p q m L K W' := by
  obtain ⟨⟨ba, bb, oa, ob, h1, h2, h3, h4⟩, h5⟩ := T
  exact ⟨⟨ba, bb, oa, ob, h1.keep hb.size fun b hlt _ => hb.block b hlt, h2.keep hb.size fun b hlt _ => hb.block b hlt, h3, h4⟩, h5.trans (hb.mono h5.size)⟩
theorem Tw.keys {w W : World} {p q m : Nat} {L K : List (Ky × Int)} (T : Tw w p q m L K W) (hm : 3 ≤ m ∧ m ≤ 64) (hl : L.length ≤ 65536) :
    Calls Try.prog 24 #[nv p] W fun e w' => ∃ v, e = .returned v ∧ w'.ownsRow W.heap.size 9 1 v L.length (ksR (L.map (·.1))) ∧ Below W.heap.size W w' := by
  obtain ⟨⟨ba, bb, oa, ob, h1, h2, h3, h4⟩, h5⟩ := T
  exact h1.keys hm hl
theorem Tw.len {w W : World} {p q m : Nat} {L K : List (Ky × Int)} (T : Tw w p q m L K W) :
    Calls Try.prog 20 #[nv p] W fun e w' => e = .returned (.int .i64 L.length) ∧ w' = W := by
  obtain ⟨⟨ba, bb, oa, ob, h1, h2, h3, h4⟩, h5⟩ := T
  exact h1.len
/-- Two new trees. -/
theorem made2 (m : Nat) (hm : 3 ≤ m ∧ m ≤ 64) (w : World) :
    Calls Try.prog 21 #[.int .i64 m] w fun e w1 => ∃ p, e = .returned (nv p) ∧ Below w.heap.size w w1 ∧ Calls Try.prog 21 #[.int .i64 m] w1 fun e w2 => ∃ q, e = .returned (nv q) ∧ Tw w p q m [] [] w2 := by
  refine (NT.made m w zo (zo_fb w) hm).mono ?_
  rintro e w1 ⟨p, oa, rfl, hn1, hu1⟩
  have hb1 : Below w.heap.size w w1 := UpB.bel hu1 (fun _ _ => rfl)
  refine ⟨p, rfl, hb1, ?_⟩
  refine (NT.made m w1 zo (zo_fb w1) hm).mono ?_
  rintro e w2 ⟨q, ob, rfl, hn2, hu2⟩
  have hb2 : Below w1.heap.size w1 w2 := UpB.bel hu2 (fun _ _ => rfl)
  refine ⟨q, rfl, ⟨_, _, oa, ob, hn1.keep hb2.size fun b hlt _ => hb2.block b hlt, hn2, fun b => ?_, fun b hlt => ?_⟩, hb1.trans (hb2.mono hb1.size)⟩
  · by_cases hlt : b < w1.heap.size
    · exact .inr (hu2.old b hlt)
    · exact .inl (hn1.fb.end_ b (by omega))
  · exact ⟨hu1.old b hlt, hu2.old b (Nat.lt_of_lt_of_le hlt hb1.size)⟩
end Go.Proofs.Ytfhonfeopkhdeaa.BS
