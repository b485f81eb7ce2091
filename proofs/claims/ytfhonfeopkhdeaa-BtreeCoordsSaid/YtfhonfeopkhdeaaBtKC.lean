/-
  Keys that are coordinates: how they lie, how they are compared, how they are owned. No premise.
-/
import Derived.Test.YtfhonfeopkhdeaaBtCo
import Derived.Test.YtfhonfeopkhdeaaBtNwS
namespace Go.Proofs.Ytfhonfeopkhdeaa.KA
open Go.RowKit Go.Proofs.YtfhonfeopkhdeaaW.PrintWords

theorem rw_alloc {V : World} {e : TypeId} {v : Value} {xs : List Value} (h : Rw V e v xs) (ob : Obj) : Rw (V.alloc ob) e v xs := h.keep fun g _ hl => Below.heap_alloc V ob g hl
theorem run_apR0 {P : Program} {W : World} {e : TypeId} {v : Value} {xs : List Value} (h : Rw W e v xs) (t ty : TypeId) (i : TypeInfo) (ht : P.underlying t = some (.slice e)) (hi : P.info? e = some i) (_hsize : i.size = 1) (A : Option Addr) (c : Nat) :
    (Builtin.append_ #[t, t] ty #[v, .slice A 0 c]).run P W = .ok v W := by
  rcases h with ⟨rfl, rfl⟩ | ⟨g, cap, cur, rfl, hg, hn, hcs, hmx, htk⟩
  · cases A <;> simp [Builtin.append_, run_underlying ht, sizeOf, typeInfo, hi, Builtin.lenOf, Builtin.firstCells, loadCells, loadCellsFrom]
  · cases A <;> simp [Builtin.append_, run_underlying ht, sizeOf, typeInfo, hi, Builtin.lenOf, Builtin.firstCells, hn, storeCells, loadCells, loadCellsFrom]
theorem run_apRA {P : Program} {W : World} {e : TypeId} {v : Value} {xs ys : List Value} (h : Rw W e v xs) (t ty : TypeId) (i : TypeInfo) (z : Value) (bytes : Nat) (ht : P.underlying t = some (.slice e)) (hi : P.info? e = some i) (hz : i.zero = some z)
    (hsize : i.size = 1) (hby : i.bytes = bytes) (hzs : z.cells.size = 1) (A : Option Addr) (c : Nat) (hnews : 0 < ys.length → ∃ ad, A = some ad ∧ ∀ j u, ys[j]? = some u → W.cell? (ad.add j) = some u) (h1 : One ys) (hx : One xs) (h63 : xs.length + ys.length ≤ maxLen) (hbytes : (xs.length + ys.length) * bytes ≤ 140737488355328) :
    ∃ v' w', (Builtin.append_ #[t, t] ty #[v, .slice A ys.length c]).run P W = .ok v' w' ∧ Rw w' e v' (xs ++ ys) ∧ W.grownBy w' v.ownBlock ∧ Nw W v v' := by
  rcases Nat.eq_zero_or_pos ys.length with h0 | h0
  · have e0 : ys = [] := List.length_eq_zero_iff.1 h0
    subst e0
    exact ⟨v, W, run_apR0 h t ty i ht hi hsize A c, by rw [List.append_nil]; exact h, World.grownBy.refl _ _, .inl rfl⟩
  · obtain ⟨ad, rfl, hc⟩ := hnews h0
    exact run_apR h t ty i z bytes ht hi hz hsize hby hzs ad ys.length c rfl hc h1 hx h0 h63 hbytes
theorem rw_news {V : World} {e n c : Nat} {A : Option Addr} {ys : List Value} (h : Rw V e (.slice A n c) ys) : 0 < ys.length → ∃ ad, A = some ad ∧ ∀ j u, ys[j]? = some u → V.cell? (ad.add j) = some u := fun h0 => by
  obtain ⟨g, rfl, hc⟩ := h.cells h0
  exact ⟨_, rfl, fun j u hj => by rw [add_plain]; exact hc j u hj⟩
end Go.Proofs.Ytfhonfeopkhdeaa.KA
namespace Go.Proofs.Ytfhonfeopkhdeaa.BC
open Go.RowKit Go.Proofs.YtfhonfeopkhdeaaW.PrintWords

structure Ck where
  A : Option Addr
  l : List Int
  c : Nat
abbrev Ky := Ck
def kv (k : Ky) : Value := .slice k.A k.l.length k.c
def kct (k : Ky) : List Int := k.l
abbrev kk (a b : Ky) : Int := kc kct a b
theorem kk_range (a b : Ky) : kk a b = -1 ∨ kk a b = 0 ∨ kk a b = 1 := cmpL_range _ _
theorem kv_one (k : Ky) : (kv k).oneCell' = true := rfl
/-- A key may be read; it is a tree's own. -/
def KRd (w : World) (k : Ky) : Prop := RdI w k.A k.l ∧ k.l.length ≤ 17592186044000
def KOk (w : World) (o : Nat → Nat) (k : Ky) : Prop := KRd w k ∧ (0 < k.l.length → ∃ ad, k.A = some ad ∧ o ad.block = 1)
theorem KRd.drewN {w : World} {k : Ky} (h : KRd w k) (m : Nat) : KRd (w.drewN m) k := h
theorem KOk.rd {w : World} {o : Nat → Nat} {k : Ky} (h : KOk w o k) : KRd w k := h.1
theorem add_blk (ad : Addr) (j : Nat) : (ad.add j).block = ad.block := by
  unfold Addr.add
  split <;> rfl
theorem KOk.keep {w w' : World} {o o' : Nat → Nat} {k : Ky} (h : KOk w o k) (hk : ∀ b, b < w.heap.size → o b = 1 → w'.heap[b]? = w.heap[b]? ∧ o' b = 1) : KOk w' o' k := by
  obtain ⟨⟨⟨h1, h2, h3⟩, h4⟩, h5⟩ := h
  refine ⟨⟨⟨h1, h2, fun h0 => ?_⟩, h4⟩, fun h0 => ?_⟩
  · obtain ⟨ad, e, hc⟩ := h3 h0
    obtain ⟨ad', e', ht⟩ := h5 h0
    rw [e] at e'
    cases e'
    refine ⟨ad, e, fun j hj => ?_⟩
    have h6 := hc j hj
    have hlt := World.block_lt_of_cell? w _ h6
    rw [add_blk] at hlt
    rw [World.cell?_of_block (w := w) (by rw [add_blk]; exact (hk ad.block hlt ht).1)]
    exact h6
  · obtain ⟨ad, e, hc⟩ := h3 h0
    obtain ⟨ad', e', ht⟩ := h5 h0
    rw [e] at e'
    cases e'
    have hlt := World.block_lt_of_cell? w _ (hc 0 h0)
    rw [add_blk] at hlt
    exact ⟨ad, e, (hk ad.block hlt ht).2⟩
theorem KRd.below {B : Nat} {w w' : World} {k : Ky} (h : KRd w k) (hb : Below B w w') (hs : w.heap.size ≤ B) : KRd w' k := ⟨h.1.below (hb.mono hs), h.2⟩
theorem kcmp_any (a b : Ky) (w : World) (ha : KRd w a) (hb : KRd w b) : Calls Try.prog 13 #[kv a, kv b] w fun e w' => e = .returned (.int .i64 (kk a b)) ∧ w' = w := cmpCoords_any a.A b.A a.c b.c a.l b.l w ha.1 hb.1
/-- The tags, a key that was made now being a tree's own. -/
noncomputable def ktg (o : Nat → Nat) (k : Ky) : Nat → Nat := fun b => match k.A with
  | some ad => if 0 < k.l.length ∧ ad.block = b then 1 else o b
  | none => o b
/-- A key that was made from w to w'. -/
def KNew (w w' : World) (k' : Ky) : Prop := ∀ o : Nat → Nat, (∀ b, w.heap.size ≤ b → o b = 0) → KOk w' (ktg o k') k' ∧ (∀ b, b < w.heap.size → ktg o k' b = o b) ∧ (∀ b, w'.heap.size ≤ b → ktg o k' b = 0) ∧ ∀ b, ktg o k' b = o b ∨ ktg o k' b = 1
/-- What own answers. -/
def OwnP (k : Ky) (w : World) (e : Ending) (w' : World) : Prop := ∃ k', e = .returned (kv k') ∧ kct k' = kct k ∧ Below w.heap.size w w' ∧ KNew w w' k'
theorem knew_of {w w' : World} {k' : Ky} (hr : KRd w' k') (hs : w.heap.size ≤ w'.heap.size) (hf : 0 < k'.l.length → ∃ ad, k'.A = some ad ∧ w.heap.size ≤ ad.block ∧ ad.block < w'.heap.size) : KNew w w' k' := fun o ho => by
  by_cases h0 : 0 < k'.l.length
  · obtain ⟨ad, e, h1, h2⟩ := hf h0
    have hk : ∀ b, ktg o k' b = if ad.block = b then 1 else o b := fun b => by
      unfold ktg
      rw [e]
      simp [h0]
    refine ⟨⟨hr, fun _ => ⟨ad, e, by rw [hk]; exact if_pos rfl⟩⟩, fun b hb => ?_, fun b hb => ?_, fun b => ?_⟩
    · rw [hk, if_neg (by omega)]
    · rw [hk, if_neg (by omega)]
      exact ho b (by omega)
    · rw [hk]
      split
      · exact .inr rfl
      · exact .inl rfl
  · have hk : ∀ b, ktg o k' b = o b := fun b => by
      unfold ktg
      split
      · rw [if_neg (fun h => h0 h.1)]
      · rfl
    exact ⟨⟨hr, fun h => absurd h h0⟩, fun b _ => hk b, fun b hb => (hk b).trans (ho b (by omega)), fun b => .inl (hk b)⟩
theorem infoI : (Try.prog.info? 3).map (fun i => (i.zero, i.size, i.bytes)) = some (some (.int .i64 0), 1, 8) := by kernel_rfl
/-- The numbers, as they lie. -/
def iR (l : List Int) : List Value := l.map (.int .i64)
theorem iR_len (l : List Int) : (iR l).length = l.length := List.length_map _
theorem rd_src {w : World} {A : Option Addr} {l : List Int} (h : RdI w A l) : 0 < (iR l).length → ∃ ad, A = some ad ∧ ∀ j u, (iR l)[j]? = some u → w.cell? (ad.add j) = some u := fun h0 => by
  rw [iR_len] at h0
  obtain ⟨ad, e, hc⟩ := h.2.2 h0
  refine ⟨ad, e, fun j u hu => ?_⟩
  have hj : j < l.length := by rw [← iR_len]; exact (List.getElem?_eq_some_iff.1 hu).1
  rw [hc j hj, ← hu, iR, List.getElem?_map, List.getElem?_eq_getElem hj, List.getD_eq_getElem?_getD, List.getElem?_eq_getElem hj]
  rfl
theorem rd_row {w : World} {A : Option Addr} {n c : Nat} {l : List Int} (h : Rw w 3 (.slice A n c) (iR l)) (hl : l.length ≤ 9223372036854775807) : RdI w A l ∧ (0 < l.length → ∃ g, A = some ⟨g, 0, none⟩ ∧ (Value.slice A n c).ownBlock = some g) := by
  refine ⟨⟨rfl, hl, fun h0 => ?_⟩, fun h0 => ?_⟩
  · obtain ⟨g, e, hc⟩ := h.cells (by rw [iR_len]; exact h0)
    refine ⟨_, e, fun j hj => ?_⟩
    rw [addr_add, Nat.zero_add]
    refine hc j _ ?_
    rw [iR, List.getElem?_map, List.getElem?_eq_getElem hj, List.getD_eq_getElem?_getD, List.getElem?_eq_getElem hj]
    rfl
  · obtain ⟨g, e, -⟩ := h.cells (by rw [iR_len]; exact h0)
    exact ⟨g, e, by rw [e]; rfl⟩
/-- Coordinates that were made since a block, where they lie in a row of their own. -/
structure Fk (B : Nat) (w : World) (k : Ck) : Prop where
  rw_ : Rw w 3 (kv k) (iR k.l)
  fr : ∀ g, (kv k).ownBlock = some g → B ≤ g
  le : k.l.length ≤ 17592186044000
theorem Fk.keep {B B' : Nat} {w w' : World} {k : Ck} (h : Fk B w k) (hB : B' ≤ B) (hk : ∀ g cur, w.heap[g]? = some (.cells cur 3 (0, 0)) → B ≤ g → w'.heap[g]? = w.heap[g]?) : Fk B' w' k :=
  ⟨h.rw_.keep fun g hg _ => by
    obtain ⟨cur, hc⟩ := h.rw_.blk hg
    exact hk g cur hc (h.fr g hg), fun g hg => Nat.le_trans hB (h.fr g hg), h.le⟩
theorem Fk.below {B : Nat} {w w' : World} {k : Ck} (h : Fk B w k) (hb : Below w.heap.size w w') : Fk B w' k := h.keep (Nat.le_refl _) fun _ _ hc _ => hb.block _ (Array.getElem?_eq_some_iff.1 hc).1
theorem Fk.rd {B : Nat} {w : World} {k : Ck} (h : Fk B w k) : KRd w k := ⟨(rd_row h.rw_ (by have := h.le; omega)).1, h.le⟩
/-- What Clone answers. -/
def CloP (l : List Int) (w : World) (e : Ending) (w' : World) : Prop := ∃ (A : Option Addr) (c : Nat), e = .returned (.slice A l.length c) ∧ Fk w.heap.size w' ⟨A, l, c⟩ ∧ Below w.heap.size w w'
/-- append([]int{}, l...) -/
theorem fresh_app (A : Option Addr) (c : Nat) (l : List Int) (w : World) (hr : RdI w A l) (hl : l.length ≤ 17592186044000) :
    ∃ A' c' w', (Builtin.append_ #[22, 22] 22 #[.slice (some ⟨w.heap.size, 0, none⟩) 0 0, .slice A l.length c]).run Try.prog (w.alloc (.cells #[] 3)) = .ok (.slice A' l.length c') w' ∧ Fk w.heap.size w' ⟨A', l, c'⟩ ∧ Below w.heap.size w w' ∧ ∃ g, A' = some ⟨g, 0, none⟩ := by
  obtain ⟨i0, hi', hz0, hz1, hz2⟩ := info_parts infoI
  have hB0 : Below w.heap.size w (w.alloc (.cells #[] 3)) := (Below.refl _ _).alloc (Nat.le_refl _) _
  have h0 : Rw (w.alloc (.cells #[] 3)) 3 (.slice (some ⟨w.heap.size, 0, none⟩) 0 0) [] := Rw.mk (xs := []) (BS.top_blk w #[] 3) (Nat.le_refl _) (Nat.le_refl _) (by unfold maxLen; omega) rfl
  have hil := iR_len l
  obtain ⟨v', w', h1, h2, h3, h4⟩ := KA.run_apRA (P := Try.prog) (ys := iR l) h0 22 22 i0 _ _ Try.underlying22 hi' hz0 hz1 hz2 (by rfl) A c (fun hlt => by
    obtain ⟨ad', e, hc⟩ := rd_src hr hlt
    exact ⟨ad', e, fun j u hu => pw_cell_below hB0 (hc j u hu)⟩) (fun u hu => by
    obtain ⟨x, -, rfl⟩ := List.mem_map.1 hu
    rfl) (fun u hu => by cases hu) (by rw [hil]; unfold maxLen; simp; omega) (by rw [hil]; simp; omega)
  rw [hil] at h1
  rw [List.nil_append] at h2
  obtain ⟨A', c', e', -⟩ := h2.form
  rw [hil] at e'
  subst e'
  have hown : ∀ g, (Value.slice A' l.length c').ownBlock = some g → w.heap.size ≤ g := fun g hg => by
    rcases h4 with e | ⟨g', e, h5⟩
    · rw [e] at hg
      cases hg
      exact Nat.le_refl _
    · rw [e] at hg
      cases hg
      have := hB0.size
      omega
  refine ⟨A', c', w', h1, ⟨h2, hown, hl⟩, hB0.trans ⟨h3.os, h3.tape, h3.output, h3.size, fun b hb => h3.block b (Nat.lt_of_lt_of_le hb hB0.size) (fun e => by have e2 : b = w.heap.size := Option.some.inj e; omega)⟩, ?_⟩
  have h5 : (Value.slice A' l.length c').ownBlock ≠ none := fun e => by
    rcases h4 with e2 | ⟨g', e2, _⟩
    · rw [e] at e2; cases e2
    · rw [e] at e2; cases e2
  rcases h2 with ⟨e, _⟩ | ⟨g, cap, cur, e, _⟩
  · rw [e] at h5; exact absurd rfl h5
  · exact ⟨g, (Value.slice.inj e).1⟩
set_option maxRecDepth 100000 in
set_option maxHeartbeats 1000000 in
theorem cloI_any (A : Option Addr) (c : Nat) (l : List Int) (w : World) (hr : RdI w A l) (hl : l.length ≤ 17592186044000) :
    Calls Try.prog 62 #[.slice A l.length c] w (CloP l w) := by
  cases A with
  | none =>
    have hz : l = [] := by
      cases l with
      | nil => rfl
      | cons x l =>
        obtain ⟨ad, e, -⟩ := hr.2.2 (by simp)
        cases e
    subst hz
    have HF := Lib.hid (show CloP [] w (.returned (.slice none 0 0)) w from ⟨none, 0, rfl, ⟨Rw.nil _ _, fun g hg => (by cases hg), by simp⟩, Below.refl _ _⟩)
    have hn := fun W => Lib.run_eql_slice_nil (P := Try.prog) W 22 3 none 0 c 0 0 Try.underlying22
    clear hr hl
    go_enter Try.func62, Try.ntmps62
    go_wp2_with fail
    go_ret
    exact HF.out
  | some ad =>
    obtain ⟨A', c', w', h1, h2, hB, -⟩ := fresh_app (some ad) c l w hr hl
    have HF := Lib.hid (show CloP l w (.returned (.slice A' l.length c')) w' from ⟨A', c', rfl, h2, hB⟩)
    have H1 := Lib.hid h1
    clear h1 h2 hB hr
    have hn := fun W => Lib.run_eql_slice_nil (P := Try.prog) W 22 3 (some ad) l.length c 0 0 Try.underlying22
    go_enter Try.func62, Try.ntmps62
    go_wp2_with (at_builtin; refine Lib.wpList_append_run _ rfl _ _ _ _ rfl _ _ rfl rfl _ _ H1.out ?_)
    go_ret
    exact HF.out
/-- What own answers: coordinates that lie anew. -/
theorem kown_rw (k : Ky) (w : World) (h : KRd w k) : Calls Try.prog 61 #[kv k] w (CloP k.l w) := by
  have HC := Lib.hid (cloI_any k.A k.c k.l w h.1 h.2)
  unfold kv
  generalize k.A = A at HC ⊢
  generalize k.c = c at HC ⊢
  clear h
  go_enter Try.func61, Try.ntmps61
  go_wp2_with (go_at_call 62; refine HC.out.mono ?_; rintro e w1 ⟨A1, c1, rfl, h3, h4⟩)
  go_ret
  exact ⟨A1, c1, rfl, h3, h4⟩
theorem kown_any (k : Ky) (w : World) (h : KRd w k) : Calls Try.prog 61 #[kv k] w (OwnP k w) := by
  refine (kown_rw k w h).mono ?_
  rintro e w1 ⟨A1, c1, rfl, h3, h4⟩
  refine ⟨⟨A1, k.l, c1⟩, rfl, rfl, h4, knew_of h3.rd h4.size fun h0 => ?_⟩
  obtain ⟨g, e, ho⟩ := (rd_row h3.rw_ (by have := h3.le; omega)).2 h0
  exact ⟨_, e, h3.fr g ho, h3.rw_.lt ho⟩
end Go.Proofs.Ytfhonfeopkhdeaa.BC
