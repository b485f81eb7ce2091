/-
  A range over a function, its rounds counted: what comes in round k is told by k; the body may lean on it; where a round leaves the loop, what must be kept is kept, too. No premise.
-/
import Derived.RangeFuncNested
import Derived.RangeFuncCalls
import Derived.RangeFuncLeaves
import Derived.WalkKit
namespace Go.Proofs.YtadmpjikkpnjnaaDoor
open Go.RowKit

/-- What an iterator may turn: new blocks come; one block that lay: its own (T), or one that is no cells and was laid from B on. -/
def Turn (S : Nat → Prop) (B : Nat) (W : World) (row : Option Nat) : Prop := ∀ r, row = some r → S r ∨ (B ≤ r ∧ ∃ o : Obj, W.heap[r]? = some o ∧ o.isCells = false)
def Aby (S : Nat → Prop) (B : Nat) (J : Nat → World → Prop) : Prop := ∀ k W W' row, J k W → W.grownBy W' row → Turn S B W row → J k W'
theorem Aby.alloc {S : Nat → Prop} {B : Nat} {J : Nat → World → Prop} (h : Aby S B J) {k : Nat} {W : World} (hj : J k W) (o : Obj) : J k (W.alloc o) :=
  h k W _ none hj (World.grownBy_alloc W o none) (fun r e => by cases e)
theorem Aby.drew {S : Nat → Prop} {B : Nat} {J : Nat → World → Prop} (h : Aby S B J) {k : Nat} {W : World} (hj : J k W) : J k W.drew :=
  h k W _ none hj ⟨rfl, rfl, rfl, Nat.le_refl _, fun _ _ _ => rfl⟩ (fun r e => by cases e)
theorem Aby.putObj {S : Nat → Prop} {B : Nat} {J : Nat → World → Prop} (h : Aby S B J) {k : Nat} {W : World} (hj : J k W) {l : Nat} {o : Obj} (o' : Obj) (hB : B ≤ l) (hl : W.heap[l]? = some o) (ho : o.isCells = false) : J k (W.putObj l o') :=
  h k W _ (some l) hj (grownBy_putObj' W l o') (fun r e => by cases e; exact .inr ⟨hB, o, hl, ho⟩)
/-- The blocks S lie as they lay. -/
def Same (S : Nat → Prop) (W W' : World) : Prop := ∀ i, S i → W'.heap[i]? = W.heap[i]?
theorem Same.trans {S : Nat → Prop} {A B C : World} (h : Same S A B) (k : Same S B C) : Same S A C := fun i hi => (k i hi).trans (h i hi)
/-- An iterator that gives 'encs 0', 'encs 1', .. up to N of them; between two rounds 'Kp' must be kept (told of the heap's size where the iterator's call began). -/
def SeqI (F : Fence) (n : Nat) (P : Program) (g : Nat) (lb : Array Value) (encs : Nat → Array Value) (S T : Nat → Prop) (Kp : Nat → World → World → Prop) (N : Nat) (w : World) : Prop :=
  ∀ (l : Nat) (J Jx : Nat → World → Prop) (W : World), w.heap.size ≤ W.heap.size → Same S w W → Aby T W.heap.size J → Aby T W.heap.size Jx →
    (∀ k W1, k < N → J k W1 → YieldAt F (n - 1) P l (encs k) W1 fun e W' =>
      (e = .returned (.bool true) ∧ J (k + 1) W' ∧ Kp W.heap.size W1 W') ∨ (e = .returned (.bool false) ∧ Jx (k + 1) W' ∧ Kp W.heap.size W1 W')) →
    J 0 W →
    CallsIn F n P g (#[.func (.yield l) #[] #[]] ++ lb) W fun e W' => (∃ v, e = .returned v) ∧ (J N W' ∨ ∃ k, k ≤ N ∧ Jx k W')
/-- How a round's body may be left. -/
def stepPost (B : Nat) (Kp : World → World → Prop) (I : Nat → World → Prop) (Ix : Code → Nat → World → Prop) (k : Nat) (W : World) : Exit → Act → World → Prop
  | .normal, _, W' => KeepsFrom B W W' ∧ Kp W W' ∧ I k W'
  | .ret, _, W' => KeepsFrom B W W' ∧ Kp W W' ∧ Ix .ret k W'
  | .exit id, _, W' => KeepsFrom B W W' ∧ Kp W W' ∧ Ix (.exit id) k W'
  | .goto _, _, _ => False
  | .panic _, _, _ => False
  | .outgrown, _, _ => False
theorem rangeI {F : Fence} {n : Nat} {P : Program} {g : Operand} {ps : Array Tmp} {assign body : Code} {Q : Exit → Act → World → Prop} {a : Act} {w : World}
    (hro : F.round = none) (h1 : 1 ≤ n) {gf : Nat} {lb : Array Value} (hg : a.eval g = .func (.func gf) #[] lb) (hFg : F.fn gf) (eg : ∀ args w, (callFunc gf args).run P w = .ok (.enter gf args) w)
    {encs : Nat → Array Value} {N : Nat} {S T : Nat → Prop} {Kp : Nat → World → World → Prop} (hseq : SeqI F (n - 1) P gf lb encs S T Kp N w) (hS : ∀ i, S i → i < w.heap.size) (hT : ∀ i, T i → i < w.heap.size)
    (hKt : ∀ {B : Nat} {X Y Z : World}, Kp B X Y → Kp B Y Z → Kp B X Z) (hKb : ∀ (B : Nat) (W : World) (l : Nat) (o o' : Obj), w.heap.size ≤ l → l < B → W.heap[l]? = some o → o.isCells = false → o'.isCells = false → Kp B W (W.putObj l o')) (hps : ∀ k, (encs k).size = ps.size)
    (I : Nat → World → Prop) (Ix : Code → Nat → World → Prop) (hI : Aby T w.heap.size I) (hIx : ∀ c, Aby T w.heap.size (Ix c)) (h0 : I 0 w) (a₁ : Nat → Act)
    (hassign : ∀ (l k : Nat) (W : World) (K : Act → World → Prop), K (a₁ k) W →
      assign.wpIn (F.inRound l) (n - 1 - 1) P (Exit.then K (fun _ _ _ => False)) { tmps := (ps.zip (encs k)).foldl (fun t (p, v) => t.setIfInBounds p v) a.tmps, defers := [] } W)
    (hbody : ∀ (l k : Nat) (W : World), k < N → I k W → body.wpIn (F.inRound l) (n - 1 - 1) P (stepPost w.heap.size (Kp (w.heap.size + 1 + 1)) I Ix (k + 1) W) (a₁ k) W)
    (hdone : ∀ (D : Nat) (W : World), w.heap.size ≤ D → I N W → W.heap[D]? = some (.deferred (some [])) → Q .normal { a with defers := { target := .collected D, args := #[] } :: a.defers } W)
    (hstop : ∀ (D : Nat) (c : Code) (k : Nat) (W : World), w.heap.size ≤ D → k ≤ N → Ix c k W → W.heap[D]? = some (.deferred (some [])) → c.wpIn F n P Q { a with defers := { target := .collected D, args := #[] } :: a.defers } W) :
    (Code.rangeFunc g ps assign body).wpIn F n P Q a w := by
  refine wpIn_rangeFunc fun fn hfn => ?_
  rw [hro]
  obtain ⟨R, hR⟩ : ∃ R : LoopState → Option Code → Loop, R = fun st pe => { state := st, pending := pe, fn, tmps := a.tmps, params := ps, assign, body, defers := w.heap.size } := ⟨_, rfl⟩
  have hp : ∀ st pe, (R st pe).params = ps := fun st pe => by rw [hR]
  obtain ⟨V, hV⟩ : ∃ V, V = (w.alloc (.deferred (some []))).alloc (.loop (R .ready none)) := ⟨_, rfl⟩
  obtain ⟨L, hL⟩ : ∃ L, L = w.heap.size + 1 := ⟨_, rfl⟩
  -- the two blocks of book-keeping
  have hVl : V.heap[L]? = some (.loop (R .ready none)) := by
    have := World.alloc_heap_new (w.alloc (.deferred (some []))) (.loop (R .ready none))
    rw [World.size_alloc] at this
    rw [hV, hL]
    exact this
  have hVd : V.heap[w.heap.size]? = some (.deferred (some [])) := by
    rw [hV]
    exact (Below.heap_alloc _ _ _ (by simp)).trans (World.alloc_heap_new w _)
  have hVs : V.heap.size = w.heap.size + 1 + 1 := by rw [hV]; simp
  have hSV : Same S w V := fun i hi => by
    rw [hV]
    exact (Below.heap_alloc _ _ _ (by have := hS i hi; simp; omega)).trans (Below.heap_alloc _ _ _ (hS i hi))
  have hlow : ∀ (W : World) (o o' : Obj), W.heap[L]? = some o → o.isCells = false → o'.isCells = false → Kp V.heap.size W (W.putObj L o') := fun W o o' h h1 h2 => hKb _ W L o o' (by omega) (by omega) h h1 h2
  have hput : ∀ {W : World} {o o' : Obj}, W.heap[L]? = some o → (W.putObj L o').heap[L]? = some o' := fun h => World.putObj_heap_same (Array.getElem?_eq_some_iff.1 h).1
  have hother : ∀ {W : World} {o' : Obj}, W.heap[w.heap.size]? = some (.deferred (some [])) → (W.putObj L o').heap[w.heap.size]? = some (.deferred (some [])) := fun h => (World.putObj_heap_other (by omega)).trans h
  have hIp : ∀ {k : Nat} {W : World} {r : Loop} {o' : Obj}, I k W → W.heap[L]? = some (.loop r) → I k (W.putObj L o') := fun hi h => hI.putObj hi _ (by omega) h rfl
  refine ⟨L, [{ target := .collected w.heap.size, args := #[] }], V, { target := .fn (.func gf) lb, args := #[.func (.yield L) #[] #[]] }, V, gf, #[.func (.yield L) #[] #[]] ++ lb, V, ?_, ?_, ?_, ?_, fun _ => h1, ?_⟩
  · rw [hV, hL, hR]; exact run_enterLoop_outer _ _ _ _ _
  · simp only [resolve, hg]
    simp [go_sem]
  · intro f' hf'
    simp [Target.leads] at hf'
    subst hf'
    exact hFg
  · simp [invoke, go_sem, eg]
  have turn : ∀ {A : World} {row : Option Nat}, Turn T V.heap.size A row → Turn T w.heap.size A row := fun ht r e => by
    rcases ht r e with h | ⟨h, ho⟩
    · exact .inl h
    · exact .inr ⟨by omega, ho⟩
  have keep : ∀ {A B : World} {row : Option Nat} {o : Obj} {i : Nat}, A.heap[i]? = some o → A.grownBy B row → Turn T V.heap.size A row → w.heap.size ≤ i → i < V.heap.size → B.heap[i]? = some o := fun h hg' ht h1 h2 =>
    (hg'.block _ (Array.getElem?_eq_some_iff.1 h).1 (fun e => by
      rcases ht _ e.symm with h3 | ⟨h3, _⟩
      · have := hT _ h3; omega
      · omega)).trans h
  refine (hseq L
    (fun k W => I k W ∧ W.heap[L]? = some (.loop (R .ready none)) ∧ W.heap[w.heap.size]? = some (.deferred (some [])))
    (fun k W => ∃ c, Ix c k W ∧ W.heap[L]? = some (.loop (R .done (some c))) ∧ W.heap[w.heap.size]? = some (.deferred (some [])))
    V (by rw [hVs]; omega) hSV
    (fun k A B row ⟨h1, h2, h3⟩ hg' ht => ⟨hI k A B row h1 hg' (turn ht), keep h2 hg' ht (by omega) (by omega), keep h3 hg' ht (Nat.le_refl _) (by omega)⟩)
    (fun k A B row ⟨c, h1, h2, h3⟩ hg' ht => ⟨c, hIx c k A B row h1 hg' (turn ht), keep h2 hg' ht (by omega) (by omega), keep h3 hg' ht (Nat.le_refl _) (by omega)⟩)
    ?_ ⟨by rw [hV]; exact hI.alloc (hI.alloc h0 _) _, hVl, hVd⟩).mono ?_
  · -- one round
    rintro k W hk ⟨hi, hl, hd⟩
    have hy := run_yield (P := P) (args := encs k) hl (by rw [hp]; exact hps k)
    have hbz := hput (o' := .loop { R .ready none with state := .busy }) hl
    have hdz := hother (o' := .loop { R .ready none with state := .busy }) hd
    have hlz := hlow W _ (.loop { R .ready none with state := .busy }) hl rfl rfl
    have hiz := hIp (o' := .loop { R .ready none with state := .busy }) hi hl
    rw [hR] at hy
    refine ⟨fn, _, assign, body, hy, roundIn_of_wpIn hfn (hassign _ k W _ ⟨_, run_beginRound hl (by rw [hR]), ?_⟩)⟩
    clear hy
    rw [← hVs] at hbody
    refine wpIn_mono (hbody L k _ hk hiz) ?_
    clear hiz
    -- the round's end
    have fin : ∀ (jump : Option Code) (W3 : World), KeepsFrom w.heap.size (W.putObj L (.loop { R .ready none with state := .busy })) W3 →
        ∃ W4, (Instr.endRound L jump).run P W3 = .ok (.bool jump.isNone) W4 ∧ W4 = W3.putObj L (.loop (R (if jump.isNone then .ready else .done) jump)) ∧
          (∃ r, W3.heap[L]? = some (.loop r)) ∧ W4.heap[L]? = some (.loop (R (if jump.isNone then .ready else .done) jump)) ∧ W4.heap[w.heap.size]? = some (.deferred (some [])) := fun jump W3 hk3 => by
      have hl3 := hk3.same _ _ (by omega) hbz rfl
      have hd3 := hk3.same _ _ (Nat.le_refl _) hdz rfl
      refine ⟨_, run_endRound (P := P) jump hl3, ?_, ⟨_, hl3⟩, ?_, hother hd3⟩
      · rw [hR]
      · rw [hput hl3, hR]
    rintro e a3 W3 hp3
    cases e with
    | normal =>
      obtain ⟨hk3, hb3, hi3⟩ := hp3
      obtain ⟨W4, hr, h4, ⟨r, hl3⟩, hl4, hd4⟩ := fin none W3 hk3
      subst h4
      exact ⟨_, _, hr, .inl ⟨rfl, ⟨hIp hi3 hl3, hl4, hd4⟩, hKt (hKt hlz hb3) (hlow W3 _ _ hl3 rfl rfl)⟩⟩
    | ret =>
      obtain ⟨hk3, hb3, hi3⟩ := hp3
      obtain ⟨W4, hr, h4, ⟨r, hl3⟩, hl4, hd4⟩ := fin (some .ret) W3 hk3
      subst h4
      exact ⟨_, _, hr, .inr ⟨rfl, ⟨.ret, (hIx _).putObj hi3 _ (by omega) hl3 rfl, hl4, hd4⟩, hKt (hKt hlz hb3) (hlow W3 _ _ hl3 rfl rfl)⟩⟩
    | exit id =>
      obtain ⟨hk3, hb3, hi3⟩ := hp3
      obtain ⟨W4, hr, h4, ⟨r, hl3⟩, hl4, hd4⟩ := fin (some (.exit id)) W3 hk3
      subst h4
      exact ⟨_, _, hr, .inr ⟨rfl, ⟨.exit id, (hIx _).putObj hi3 _ (by omega) hl3 rfl, hl4, hd4⟩, hKt (hKt hlz hb3) (hlow W3 _ _ hl3 rfl rfl)⟩⟩
    | goto t => exact hp3.elim
    | panic ch => exact hp3.elim
    | outgrown => exact hp3.elim
  · -- behind the iterator
    rintro e W2 ⟨⟨v, rfl⟩, ⟨hi, hl, hd⟩ | ⟨k, hk, c, hi, hl, hd⟩⟩
    · have hz := run_endLoop (P := P) hl (by rw [hR]; simp)
      rw [show (R .ready none).pending = none from by rw [hR]] at hz
      exact ⟨none, _, hz, hdone _ _ (Nat.le_refl _) (hIp hi hl) (hother hd)⟩
    · have hz := run_endLoop (P := P) hl (by rw [hR]; simp)
      rw [show (R .done (some c)).pending = some c from by rw [hR]] at hz
      exact ⟨some c, _, hz, hstop _ c k _ (Nat.le_refl _) hk ((hIx c).putObj hi _ (by omega) hl rfl) (hother hd)⟩
end Go.Proofs.YtadmpjikkpnjnaaDoor
