/-
  slabvaultref03.File: Read, Cut, Start, Copy. No premise.
-/
import Derived.Test.YtadmpjikkpnjnaaDoorSR2
namespace Go.Proofs.YtadmpjikkpnjnaaDoor
open Go.RowKit Go.Shelf Go.Proofs.YtadmpjikkpnjnaaDoorW.PrintWords

def RCopyPost (o : Nat → Nat) (i : Nat) (F : FM) (w : World) (e : Ending) (w' : World) : Prop :=
  ∃ p o', e = .returned (.pointer (some ⟨p, 0, none⟩)) ∧ RefA w' o' i p F ∧ Upd o o' i w w' ∧ Below w.heap.size w w' ∧ w.heap.size ≤ p
theorem rcopy_end (o : Nat → Nat) (i j p : Nat) (w W2 w3 : World) (F : FM) (vb vr : Value) (lf : Int) (L : List Rw) (hF : RefAt w o i p vb vr lf L F) (C : Array Value) (_hfr : Fr o w) (hb2 : Below w.heap.size w W2) (hs2 : w.heap.size + 1 ≤ W2.heap.size) (A2 : Option Addr) (n2 c2 : Nat) (ho2 : Own W2 (w.heap.size + 1) (.slice A2 n2 c2) F.b)
    (A3 : Option Addr) (n3 c3 : Nat) (hr : w3.ownsRow W2.heap.size 86 2 (.slice A3 n3 c3) L.length (rwv L)) (hb3 : Below W2.heap.size W2 w3)
    (hq : w3.heap[w.heap.size]? = some (.cells C 59 (0, 0))) (hC : C.setIfInBounds 5 (.slice A3 n3 c3) = #[.slice A2 n2 c2, .int .i64 F.most, .bool F.off, .bool (decide (0 ≤ F.left)), .int .i64 lf, .slice A3 n3 c3]) :
    ∃ o', RefA (w3.setCell ⟨w.heap.size, 5, none⟩ (.slice A3 n3 c3)) o' j w.heap.size F ∧ Upd o o' j w (w3.setCell ⟨w.heap.size, 5, none⟩ (.slice A3 n3 c3)) ∧ Below w.heap.size w (w3.setCell ⟨w.heap.size, 5, none⟩ (.slice A3 n3 c3)) := by
  classical
  have hs3 := hb3.size
  have hq2 := blk_set hq 5 (.slice A3 n3 c3)
  have hsz : (w3.setCell ⟨w.heap.size, 5, none⟩ (.slice A3 n3 c3)).heap.size = w3.heap.size := by simp [World.setCell]
  have hlow : Below w.heap.size w (w3.setCell ⟨w.heap.size, 5, none⟩ (.slice A3 n3 c3)) := (hb2.trans (hb3.mono (by omega))).setCell (p := ⟨w.heap.size, 5, none⟩) (Nat.le_refl _) _
  have h3row : ∀ g, Value.ownBlock (.slice A3 n3 c3) = some g → W2.heap.size ≤ g ∧ g < w3.heap.size := fun g hg => World.ownsRow.lt hr g hg
  have h2row : ∀ g, Value.ownBlock (.slice A2 n2 c2) = some g → w.heap.size + 1 ≤ g ∧ g < W2.heap.size := fun g hg => World.ownsRow.lt ho2 g hg
  obtain ⟨o', ho'⟩ : ∃ o' : Nat → Nat, o' = fun k => if k < w.heap.size then o k else if k = w.heap.size ∨ Value.ownBlock (.slice A2 n2 c2) = some k ∨ Value.ownBlock (.slice A3 n3 c3) = some k then j else 0 := ⟨_, rfl⟩
  have ev : ∀ k, o' k = if k < w.heap.size then o k else if k = w.heap.size ∨ Value.ownBlock (.slice A2 n2 c2) = some k ∨ Value.ownBlock (.slice A3 n3 c3) = some k then j else 0 := fun k => by rw [ho']
  have e1 : o' w.heap.size = j := by rw [ev, if_neg (Nat.lt_irrefl _), if_pos (.inl rfl)]
  have e2 : ∀ g, Value.ownBlock (.slice A2 n2 c2) = some g → o' g = j := fun g hg => by
    have := h2row g hg
    rw [ev, if_neg (by omega), if_pos (.inr (.inl hg))]
  have e3 : ∀ g, Value.ownBlock (.slice A3 n3 c3) = some g → o' g = j := fun g hg => by
    have := h3row g hg
    rw [ev, if_neg (by omega), if_pos (.inr (.inr hg))]
  refine ⟨o', ⟨.slice A2 n2 c2, .slice A3 n3 c3, lf, L, ?_, hF.lf, e1, ?_, e2, ⟨?_, e3, fun r hr' => ?_⟩, hF.raws⟩, ⟨hlow.os, hlow.tape, hlow.output, hlow.size, fun k hk _ => hlow.block k hk, fun k hk => by rw [ev, if_pos hk], fun k hk => ?_, fun k hk => ?_, KC.quiet hlow⟩, hlow⟩
  · rw [hq2, hC]
  · exact row_weaken (own_setR (own_step ho2 hb3) hq (by decide) _)
  · exact row_weaken (row_setF hr hq (by decide) _)
  · obtain ⟨h1, h2⟩ := hF.rw.rd r hr'
    refine ⟨rd_keep h1 fun a ha _ => hlow.block _ (h2 a ha).2, fun a ha => ⟨?_, Nat.lt_of_lt_of_le (h2 a ha).2 hlow.size⟩⟩
    rw [ev, if_pos (h2 a ha).2]
    exact (h2 a ha).1
  · rw [ev, if_neg (by omega)]
    split
    · exact .inr (.inl rfl)
    · exact .inl rfl
  · rw [hsz] at hk
    rw [ev, if_neg (by omega), if_neg]
    rintro (h | h | h)
    · omega
    · have := h2row _ h
      omega
    · have := h3row _ h
      omega
/-- Raw writes that are read. -/
def RdR (w : World) (A : Option Addr) (L : List Rw) : Prop := 0 < L.length → ∃ ad, A = some ad ∧ ∀ j u, (rwv L)[j]? = some u → w.cell? (ad.add j) = some u
theorem row_rdR {w : World} {base e : Nat} {A : Option Addr} {n c : Nat} {L : List Rw} (h : w.ownsRow base e 2 (.slice A n c) L.length (rwv L)) : RdR w A L := by
  intro h0
  rcases h.2 with ⟨_, hn⟩ | ⟨g, cap, cur, h1, _, hg, hnc, _, hcs, ht⟩
  · omega
  · injection h1 with e1 e2 e3
    subst e1
    refine ⟨_, rfl, fun j u hu => ?_⟩
    have hj : j < L.length * 2 := by
      have := (List.getElem?_eq_some_iff.1 hu).1
      rwa [rwv_length] at this
    have e : (⟨g, 0, none⟩ : Addr).add j = ⟨g, j, none⟩ := by unfold Addr.add; split <;> simp_all
    rw [← ht, List.getElem?_take_of_lt hj, Array.getElem?_toList] at hu
    rw [e, blk_cell hg]
    exact hu
theorem RdR.of_eq {w w' : World} {A : Option Addr} {L : List Rw} (h : RdR w A L) (hk : ∀ a, A = some a → w'.heap[a.block]? = w.heap[a.block]?) : RdR w' A L := by
  intro h0
  obtain ⟨ad, e, hc⟩ := h h0
  exact ⟨ad, e, fun j u hu => (World.cell?_of_block (w := w) (by rw [add_block]; exact hk ad e)).trans (hc j u hu)⟩
/-- append(v, ys...) of raw writes of the reference's. -/
theorem appRR {ops : Array Oper} {rest : List Oper} {o : Oper} {a : Act} {Q : Exit → Act → World → Prop} {W : World} (base : Nat) (hgd : o.guard = none) (s x : Operand)
    (ho : o.op = .call { callee := .builtin .append, args := #[s, x], argTypes := #[57, 57] })
    (v : Value) (ys : List Rw) (A : Option Addr) (c : Nat) (hs : a.eval s = v) (hx : a.eval x = .slice A ys.length c) (HO : W.ownsRow base 86 2 v 0 []) (HR : RdR W A ys) (hbase : base ≤ W.heap.size)
    (hl : ys.length ≤ 1000000000)
    (h : ∀ v1 w1, w1.ownsRow base 86 2 v1 ys.length (rwv ys) → W.grownBy w1 v.ownBlock → wpList Tryd.prog ops Q rest (a.put o.dst v1) w1) :
    wpList Tryd.prog ops Q (o :: rest) a W := by
  obtain ⟨i0, hi, hz0, hz1, hz2⟩ := info_parts infoRR
  rcases Nat.eq_zero_or_pos ys.length with h0 | h0
  · have e : ys = [] := List.length_eq_zero_iff.1 h0
    subst e
    have hrun := append_zero 57 o.type Tryd.underlying57 hi HO A c
    refine wpList_plain hgd fun K hK => ?_
    unfold Oper.wp execOp
    simp only [ho, resolve, invoke, builtin, Sem.run_bind, Sem.run_pure, Result.andThen_ok, List.map_toArray, List.map_cons, List.map_nil, hs, hx, List.length_nil, hrun]
    exact hK _ _ (h v W HO (World.grownBy.refl _ _))
  · obtain ⟨ad, rfl, hc⟩ := HR h0
    refine wpList_append_own_wide W hgd s x 57 ho base 86 i0 (.agg #[.int .i64 0, .slice none 0 0]) 2 32 Tryd.underlying57 hi hz0 hz1 hz2 rfl (by decide) v 0 [] hs HO ad ys.length c (rwv ys) hx (rwv_length ys) hc (fun u hu => rwv_one hu) (by simp only [maxLen]; omega) (by omega) hbase ?_
    intro v' w' h2 h3 _
    rw [Nat.zero_add, List.nil_append] at h2
    exact h v' w' h2 h3
end Go.Proofs.YtadmpjikkpnjnaaDoor
