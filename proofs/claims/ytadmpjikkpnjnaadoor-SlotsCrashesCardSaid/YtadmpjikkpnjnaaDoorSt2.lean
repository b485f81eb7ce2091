/-
  store.File.raw: a raw write, unless the power fails. No premise.
-/
import Derived.Test.YtadmpjikkpnjnaaDoorSt1
namespace Go.Proofs.YtadmpjikkpnjnaaDoor
open Go.RowKit Go.Shelf Go.Proofs.YtadmpjikkpnjnaaDoorW.PrintWords

/-- Cells of i's own are stored to. -/
theorem Upd.setCell {o o' : Nat → Nat} {i : Nat} {w w' : World} (h : Upd o o' i w w') {a : Addr} (ha : o' a.block = i) (hi : i ≠ 0) {cs : Array Value} {t : TypeId} (hc : w'.heap[a.block]? = some (.cells cs t (0, 0))) (ht : ¬ ctl t) (u : Value) : Upd o o' i w (w'.setCell a u) := by
  have hl : a.block < w'.heap.size := by
    rcases Nat.lt_or_ge a.block w'.heap.size with h1 | h1
    · exact h1
    · exact absurd ((h.fr _ h1).symm.trans ha) (fun e => hi e.symm)
  refine h.trans ⟨rfl, rfl, rfl, by simp [World.setCell], fun k hk hne => Below.heap_setCell _ _ _ _ (fun e => hne (by rw [e]; exact ha)), fun _ _ => rfl, fun k hk => .inl (h.fr k hk), fun k hk => h.fr k (by simpa [World.setCell] using hk), KC.setCell hc ht u⟩
theorem Upd.drew {o o' : Nat → Nat} {i : Nat} {w w' : World} (h : Upd o o' i w w') : Upd o o' i w w'.drew :=
  h.trans ⟨rfl, rfl, rfl, Nat.le_refl _, fun _ _ _ => rfl, fun _ _ => rfl, fun k hk => .inl (h.fr k hk), fun k hk => h.fr k hk, KeepsOthers.drew _, fun _ _ _ _ hi => hi⟩
theorem FileAt.cells {w : World} {o : Nat → Nat} {i p : Nat} {vb vr : Value} {L : List Rw} {F : FM} (h : FileAt w o i p vb vr L F) :
    w.cell? ⟨p, 0, none⟩ = some (.bool true) ∧ w.cell? ⟨p, 1, none⟩ = some vb ∧ w.cell? ⟨p, 2, none⟩ = some (.int .i64 F.most) ∧ w.cell? ⟨p, 3, none⟩ = some (.bool F.off) ∧ w.cell? ⟨p, 4, none⟩ = some (.int .i64 F.left) ∧ w.cell? ⟨p, 5, none⟩ = some vr := by
  refine ⟨blk_cell h.blk 0, blk_cell h.blk 1, blk_cell h.blk 2, blk_cell h.blk 3, blk_cell h.blk 4, blk_cell h.blk 5⟩
theorem FileAt.ne {w : World} {o : Nat → Nat} {i p : Nat} {vb vr : Value} {L : List Rw} {F : FM} (h : FileAt w o i p vb vr L F) : vb.ownBlock ≠ some p ∧ vr.ownBlock ≠ some p := by
  constructor
  · intro e
    obtain ⟨cs, hc⟩ := ownsRow_is h.ob e
    rw [h.blk] at hc
    injection hc with hc
    injection hc with _ ht
    exact absurd ht (by decide)
  · intro e
    obtain ⟨cs, hc⟩ := ownsRow_is h.rw.own e
    rw [h.blk] at hc
    injection hc with hc
    injection hc with _ ht
    exact absurd ht (by decide)
/-- Its own block is stored to: the rest stays. -/
theorem FileAt.stored {w w' : World} {o o' : Nat → Nat} {i p : Nat} {vb vr : Value} {L : List Rw} {F F' : FM} (h : FileAt w o i p vb vr L F) (hi : i ≠ 9) (ho : o p = i)
    (hk : ∀ k, k < w.heap.size → k ≠ p → w'.heap[k]? = w.heap[k]?) (hs : w.heap.size ≤ w'.heap.size) (ho' : ∀ k, k < w.heap.size → o' k = o k)
    (hb : w'.heap[p]? = some (.cells #[.bool true, vb, .int .i64 F'.most, .bool F'.off, .int .i64 F'.left, vr] 78 (0, 0))) (eb : F'.b = F.b) (er : F'.raws = F.raws) : FileAt w' o' i p vb vr L F' := by
  have hp := (Array.getElem?_eq_some_iff.1 h.blk).1
  obtain ⟨n1, n2⟩ := h.ne
  refine ⟨hb, (ho' p hp).trans ho, ?_, fun g hg => (ho' g (ownsRow_lt h.ob hg)).trans (h.tb g hg), ⟨?_, fun g hg => (ho' g (ownsRow_lt h.rw.own hg)).trans (h.rw.tag g hg), fun r hr => ?_⟩, h.raws.trans er.symm⟩
  · rw [eb]; exact ownsRow_keep h.ob fun g hg hl => hk g hl (fun e => n1 (by rw [hg, e]))
  · exact ownsRow_keep h.rw.own fun g hg hl => hk g hl (fun e => n2 (by rw [hg, e]))
  · obtain ⟨h1, h2⟩ := h.rw.rd r hr
    refine ⟨rd_keep h1 fun a ha _ => hk _ (h2 a ha).2 (fun e => ?_), fun a ha => ⟨(ho' _ (h2 a ha).2).trans (h2 a ha).1, Nat.lt_of_lt_of_le (h2 a ha).2 hs⟩⟩
    have := (h2 a ha).1
    rw [e, ho] at this
    exact hi this
def RawPost (o : Nat → Nat) (i p : Nat) (F : FM) (at_ : Nat) (x : List Int) (w : World) (e : Ending) (w' : World) : Prop :=
  ∃ o', e = .returned (.bool (decide (F.left ≠ 0))) ∧ Upd o o' i w w' ∧ FileA w' o' i p (rawF F at_ x)
set_option maxRecDepth 100000 in
set_option maxHeartbeats 1600000 in
theorem raw_cut (o : Nat → Nat) (i : Nat) (h0 : i ≠ 0) (h9 : i ≠ 9) (p : Nat) (F : FM) (at_ : Nat) (A : Option Addr) (c : Nat) (x : List Int) (w : World) (hF : FileA w o i p F) (hfr : Fr o w) (hl : F.left = 0) :
    Calls Tryd.prog 40 #[.pointer (some ⟨p, 0, none⟩), .int .i64 at_, .slice A x.length c] w (RawPost o i p F at_ x w) := by
  obtain ⟨vb, vr, L, hF⟩ := hF
  have HF := Lib.hid hF
  obtain ⟨c0, c1, c2, c3, c4, c5⟩ := hF.cells
  have hfz : w.frozen? ⟨p, 3, none⟩ = false := blk_frozen hF.blk 3
  have hfz4 : (w.setCell ⟨p, 3, none⟩ (.bool true)).frozen? ⟨p, 4, none⟩ = false := blk_frozen (blk_set hF.blk 3 (.bool true)) 4
  have hc4' : ∃ v0, (w.setCell ⟨p, 3, none⟩ (.bool true)).cell? ⟨p, 4, none⟩ = some v0 := cell_in (blk_set hF.blk 3 (.bool true)) (by simp)
  obtain ⟨v0, hc4'⟩ := hc4'
  rw [hl] at c4
  have HFR := Lib.hid hfr
  clear hF hfr
  go_enter Tryd.func40, Tryd.ntmps40
  go_wp2_with fail
  go_ret
  refine ⟨o, by simp [hl], (((Upd.refl HFR.out).setCell (a := ⟨p, 3, none⟩) HF.out.tp h0 HF.out.blk (by unfold ctl; decide) _).setCell (a := ⟨p, 4, none⟩) HF.out.tp h0 (blk_set HF.out.blk 3 (.bool true)) (by unfold ctl; decide) _), vb, vr, L, ?_⟩
  have h1 := blk_set (blk_set HF.out.blk 3 (.bool true)) 4 (.int .i64 (-1))
  refine HF.out.stored h9 HF.out.tp (fun k hk hne => ?_) (by simp [World.setCell]) (fun _ _ => rfl) ?_ ?_ ?_
  · rw [Below.heap_setCell _ _ _ _ (by exact hne), Below.heap_setCell _ _ _ _ (by exact hne)]
  · unfold rawF
    rw [if_pos hl]
    simpa using h1
  · unfold rawF; rw [if_pos hl]
  · unfold rawF; rw [if_pos hl]
/-- Another owner for one block. -/
def tg (o : Nat → Nat) (g t : Nat) : Nat → Nat := fun k => if k = g then t else o k
theorem tg_same (o : Nat → Nat) (g t : Nat) : tg o g t g = t := if_pos rfl
theorem tg_other (o : Nat → Nat) {g t k : Nat} (h : k ≠ g) : tg o g t k = o k := if_neg h
theorem Upd.grow {o o' : Nat → Nat} {i : Nat} {a b c : World} {row : Option Nat} (h : Upd o o' i a b) (hg : b.grownBy c row) (hr : ∀ k, row = some k → o' k = i) (ho : KC b c) (g : Nat) (hgo : o' g = i ∨ b.heap.size ≤ g) (hgl : g < c.heap.size) : Upd o (tg o' g i) i a c := by
  refine h.trans ⟨hg.os, hg.tape, hg.output, hg.size, fun k hk hne => hg.block k hk (fun e => hne (hr k e.symm)), fun k hk => ?_, fun k hk => ?_, fun k hk => ?_, ho⟩
  · by_cases e : k = g
    · subst e
      rw [tg_same]
      rcases hgo with h1 | h1
      · exact h1.symm
      · omega
    · exact tg_other _ e
  · by_cases e : k = g
    · subst e; exact .inr (.inl (tg_same _ _ _))
    · rw [tg_other _ e]; exact .inl (h.fr k hk)
  · rw [tg_other _ (by omega)]
    exact h.fr k (Nat.le_trans hg.size hk)
theorem Upd.grown {o o' : Nat → Nat} {i : Nat} {a b c : World} {row : Option Nat} (h : Upd o o' i a b) (hg : b.grownBy c row) (hr : ∀ k, row = some k → o' k = i) (ho : KC b c) : Upd o o' i a c :=
  h.trans ⟨hg.os, hg.tape, hg.output, hg.size, fun k hk hne => hg.block k hk (fun e => hne (hr k e.symm)), fun _ _ => rfl, fun k hk => .inl (h.fr k hk), h.fr.mono hg.size, ho⟩
theorem Upd.below' {o o' : Nat → Nat} {i : Nat} {a b c : World} (h : Upd o o' i a b) (hb : Below b.heap.size b c) : Upd o o' i a c := h.trans (Upd.quiet h.fr hb)
theorem Upd.note {o o' : Nat → Nat} {i : Nat} {a b c : World} (h : Upd o o' i a b) (hb : Below b.heap.size b c) (g t : Nat) (ht : t = i ∨ t = 9) (hgo : b.heap.size ≤ g) (hgl : g < c.heap.size) : Upd o (tg o' g t) i a c := by
  refine h.trans ⟨hb.os, hb.tape, hb.output, hb.size, fun k hk _ => hb.block k hk, fun k hk => tg_other _ (by omega), fun k hk => ?_, fun k hk => ?_, KC.quiet hb⟩
  · by_cases e : k = g
    · subst e
      rw [tg_same]
      rcases ht with h1 | h1
      · exact .inr (.inl h1)
      · exact .inr (.inr h1)
    · rw [tg_other _ e]; exact .inl (h.fr k hk)
  · rw [tg_other _ (by omega)]
    exact h.fr k (Nat.le_trans hb.size hk)
theorem slice_dstV {w : World} {v : Value} {b : List Int} (h : Own w 0 v b) (at_ : Nat) (ha : at_ ≤ b.length) :
    ∃ dp dc, (∀ W : World, (Instr.slice 25 v (some (.int .i64 (at_ : Int))) none none).run Tryd.prog W = .ok (.slice dp (b.length - at_) dc) W) ∧ (0 < b.length - at_ → ∃ g, v.ownBlock = some g ∧ dp = some ⟨g, at_, none⟩) := by
  rcases own_cases h with ⟨rfl, rfl⟩ | ⟨g, cap, rfl⟩
  · have : at_ = 0 := by simpa using ha
    subst this
    obtain ⟨A', g1, _, _⟩ := cut_suf none ([] : List Int) 0 0 (by omega) (by simp) (by simp)
    exact ⟨_, _, fun W => by simpa using g1 W, fun h0 => by simp at h0⟩
  · obtain ⟨_, _, hc, _⟩ := own_open h
    obtain ⟨dp, g1, g2⟩ := slice_dst g b.length cap at_ ha hc
    exact ⟨dp, _, g1, fun h0 => ⟨g, rfl, g2 h0⟩⟩
/-- copy(v[at:], l), v a row of the call's own. -/
theorem cpyV {ops : Array Oper} {rest : List Oper} {o : Oper} {a : Act} {Q : Exit → Act → World → Prop} {W : World} (hgd : o.guard = none) (d s : Operand)
    (ho : o.op = .call { callee := .builtin .copy, args := #[d, s], argTypes := #[25, 25] })
    (v : Value) (b l : List Int) (at_ : Nat) (dp A : Option Addr) (dc c : Nat) (hd : a.eval d = .slice dp (b.length - at_) dc) (hs : a.eval s = .slice A l.length c)
    (hdp : 0 < b.length - at_ → ∃ g, v.ownBlock = some g ∧ dp = some ⟨g, at_, none⟩) (HO : Own W 0 v b) (HR : Rd W A l) (hat : at_ ≤ b.length)
    (h : ∀ w1, Own w1 0 v (splice b at_ (l.take (b.length - at_))) → W.grownBy w1 v.ownBlock → wpList Tryd.prog ops Q rest (a.put o.dst (.int .i64 (Nat.min l.length (b.length - at_) : Nat))) w1) :
    wpList Tryd.prog ops Q (o :: rest) a W := by
  rcases own_cases HO with ⟨rfl, rfl⟩ | ⟨g, cap, rfl⟩
  · have e0 : Nat.min l.length (([] : List Int).length - at_) = 0 := by simp
    have e1 : ([] : List Int).length - at_ = 0 := by simp
    refine wpList_copy_nothing hgd d s 25 25 ho 5 Tryd.underlying25 infoS dp A _ dc l.length c hd hs e0 ?_
    have h1 := h W (by rw [e1]; simpa [splice] using HO) (World.grownBy.refl _ _)
    rw [e0] at h1
    exact h1
  · refine cpy hgd d s ho 0 g cap at_ b l dp A _ dc c hd hs (fun h0 => ?_) HO HR (by omega) (fun w1 h1 h2 => h w1 ?_ h2)
    · obtain ⟨g', e, h2⟩ := hdp h0
      simp [Value.ownBlock] at e
      rw [h2, e]
    · exact h1
/-- append(v, nothing...), at a step of a region that draws. -/
theorem append_zero {W : World} {v : Value} {base e size n : Nat} {xs : List Value} (t ty : TypeId) {i : TypeInfo} (ht : Tryd.prog.underlying t = some (.slice e)) (hi : Tryd.prog.info? e = some i) (h : W.ownsRow base e size v n xs) (A : Option Addr) (c : Nat) :
    (Builtin.append_ #[t, t] ty #[v, .slice A 0 c]).run Tryd.prog W = .ok v W := by
  rcases h.2 with ⟨rfl, hn⟩ | ⟨g, cap, cur, rfl, _, _, hnc, _⟩
  · cases A <;> simp [Builtin.append_, run_underlying ht, sizeOf, typeInfo, hi, Builtin.lenOf, Builtin.firstCells, loadCells, loadCellsFrom]
  · cases A <;> simp [Builtin.append_, run_underlying ht, sizeOf, typeInfo, hi, Builtin.lenOf, Builtin.firstCells, hnc, storeCells, loadCells, loadCellsFrom]
end Go.Proofs.YtadmpjikkpnjnaaDoor
