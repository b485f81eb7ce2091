/-
  slabvaultref03.File in memory: what is stored to it; Of, Read, Cut, Start. No premise.
-/
import Derived.Test.YtadmpjikkpnjnaaDoorSR1
namespace Go.Proofs.YtadmpjikkpnjnaaDoor
open Go.RowKit Go.Shelf Go.Proofs.YtadmpjikkpnjnaaDoorW.PrintWords

theorem RefAt.cells {w : World} {o : Nat → Nat} {i p : Nat} {vb vr : Value} {lf : Int} {L : List Rw} {F : FM} (h : RefAt w o i p vb vr lf L F) :
    w.cell? ⟨p, 0, none⟩ = some vb ∧ w.cell? ⟨p, 1, none⟩ = some (.int .i64 F.most) ∧ w.cell? ⟨p, 2, none⟩ = some (.bool F.off) ∧ w.cell? ⟨p, 3, none⟩ = some (.bool (decide (0 ≤ F.left))) ∧ w.cell? ⟨p, 4, none⟩ = some (.int .i64 lf) ∧ w.cell? ⟨p, 5, none⟩ = some vr := by
  refine ⟨blk_cell h.blk 0, blk_cell h.blk 1, blk_cell h.blk 2, blk_cell h.blk 3, blk_cell h.blk 4, blk_cell h.blk 5⟩
theorem RefAt.ne {w : World} {o : Nat → Nat} {i p : Nat} {vb vr : Value} {lf : Int} {L : List Rw} {F : FM} (h : RefAt w o i p vb vr lf L F) : vb.ownBlock ≠ some p ∧ vr.ownBlock ≠ some p := by
  constructor
  · intro e
    obtain ⟨cs, hc⟩ := ownsRow_is h.ob e
    rw [h.blk] at hc
    injection hc with hc
    injection hc with _ ht
    exact absurd ht (by decide)
  · intro e
    obtain ⟨cs, hc⟩ := ownsRow_is h.rw.own e
    rw [h.blk] at hc
    injection hc with hc
    injection hc with _ ht
    exact absurd ht (by decide)
/-- Its own block is stored to: the rest stays. -/
theorem RefAt.stored {w w' : World} {o o' : Nat → Nat} {i p : Nat} {vb vr : Value} {lf lf' : Int} {L : List Rw} {F F' : FM} (h : RefAt w o i p vb vr lf L F) (hi : i ≠ 9) (ho : o p = i)
    (hk : ∀ k, k < w.heap.size → k ≠ p → w'.heap[k]? = w.heap[k]?) (hs : w.heap.size ≤ w'.heap.size) (ho' : ∀ k, k < w.heap.size → o' k = o k)
    (hb : w'.heap[p]? = some (.cells #[vb, .int .i64 F'.most, .bool F'.off, .bool (decide (0 ≤ F'.left)), .int .i64 lf', vr] 59 (0, 0))) (hlf : 0 ≤ F'.left → lf' = F'.left) (eb : F'.b = F.b) (er : F'.raws = F.raws) : RefAt w' o' i p vb vr lf' L F' := by
  have hp := (Array.getElem?_eq_some_iff.1 h.blk).1
  obtain ⟨n1, n2⟩ := h.ne
  refine ⟨hb, hlf, (ho' p hp).trans ho, ?_, fun g hg => (ho' g (ownsRow_lt h.ob hg)).trans (h.tb g hg), ⟨?_, fun g hg => (ho' g (ownsRow_lt h.rw.own hg)).trans (h.rw.tag g hg), fun r hr => ?_⟩, h.raws.trans er.symm⟩
  · rw [eb]; exact ownsRow_keep h.ob fun g hg hl => hk g hl (fun e => n1 (by rw [hg, e]))
  · exact ownsRow_keep h.rw.own fun g hg hl => hk g hl (fun e => n2 (by rw [hg, e]))
  · obtain ⟨h1, h2⟩ := h.rw.rd r hr
    refine ⟨rd_keep h1 fun a ha _ => hk _ (h2 a ha).2 (fun e => ?_), fun a ha => ⟨(ho' _ (h2 a ha).2).trans (h2 a ha).1, Nat.lt_of_lt_of_le (h2 a ha).2 hs⟩⟩
    have := (h2 a ha).1
    rw [e, ho] at this
    exact hi this
/-- Other bytes. -/
theorem RefAt.bytes {W W' : World} {o o' : Nat → Nat} {i p : Nat} {vb vr v' : Value} {lf : Int} {L : List Rw} {F : FM} (h : RefAt W o i p vb vr lf L F) (h9 : i ≠ 9)
    (hk : ∀ k, k < W.heap.size → k ≠ p → some k ≠ vb.ownBlock → W'.heap[k]? = W.heap[k]?) (ho : ∀ k, k < W.heap.size → o' k = o k) (hs : W.heap.size ≤ W'.heap.size) (b' : List Int)
    (hb : W'.heap[p]? = some (.cells #[v', .int .i64 F.most, .bool F.off, .bool (decide (0 ≤ F.left)), .int .i64 lf, vr] 59 (0, 0))) (hv : Own W' 0 v' b') (ht : ∀ g, v'.ownBlock = some g → o' g = i) :
    RefAt W' o' i p v' vr lf L { F with b := b' } := by
  have hp := (Array.getElem?_eq_some_iff.1 h.blk).1
  obtain ⟨n1, n2⟩ := h.ne
  have hne : ∀ g, vr.ownBlock = some g → some g ≠ vb.ownBlock := fun g hg e => by
    obtain ⟨cs, hc⟩ := ownsRow_is h.rw.own hg
    obtain ⟨cs', hc'⟩ := ownsRow_is h.ob e.symm
    rw [hc] at hc'
    injection hc' with hc'
    injection hc' with _ ht'
    exact absurd ht' (by decide)
  refine ⟨hb, h.lf, (ho p hp).trans h.tp, hv, ht, ⟨?_, fun g hg => (ho g (ownsRow_lt h.rw.own hg)).trans (h.rw.tag g hg), fun r hr => ?_⟩, h.raws⟩
  · exact ownsRow_keep h.rw.own fun g hg hl => hk g hl (fun e => n2 (by rw [hg, e])) (hne g hg)
  · obtain ⟨h1, h2⟩ := h.rw.rd r hr
    refine ⟨rd_keep h1 fun a ha _ => hk _ (h2 a ha).2 (fun e => ?_) (fun e => ?_), fun a ha => ⟨(ho _ (h2 a ha).2).trans (h2 a ha).1, Nat.lt_of_lt_of_le (h2 a ha).2 hs⟩⟩
    · have := (h2 a ha).1
      rw [e, h.tp] at this
      exact h9 this
    · have := (h2 a ha).1
      rw [h.tb _ e.symm] at this
      exact h9 this
/-- One raw write more. -/
theorem RefAt.more {W W' : World} {o o' : Nat → Nat} {i p : Nat} {vb vr v' : Value} {lf : Int} {L : List Rw} {F : FM} (h : RefAt W o i p vb vr lf L F) (h9 : i ≠ 9)
    (hk : ∀ k, k < W.heap.size → k ≠ p → some k ≠ vr.ownBlock → W'.heap[k]? = W.heap[k]?) (ho : ∀ k, k < W.heap.size → o' k = o k) (hs : W.heap.size ≤ W'.heap.size) (r : Rw)
    (hb : W'.heap[p]? = some (.cells #[vb, .int .i64 F.most, .bool F.off, .bool (decide (0 ≤ F.left)), .int .i64 lf, v'] 59 (0, 0))) (hv : W'.ownsRow 0 86 2 v' (L ++ [r]).length (rwv (L ++ [r]))) (ht : ∀ g, v'.ownBlock = some g → o' g = i)
    (hr : Rd W' r.A r.b) (hrt : ∀ a, r.A = some a → o' a.block = 9 ∧ a.block < W'.heap.size) :
    RefAt W' o' i p vb v' lf (L ++ [r]) { F with raws := F.raws ++ [(r.pl, r.b)] } := by
  have hp := (Array.getElem?_eq_some_iff.1 h.blk).1
  obtain ⟨n1, n2⟩ := h.ne
  have hne : ∀ g, vb.ownBlock = some g → some g ≠ vr.ownBlock := fun g hg e => by
    obtain ⟨cs, hc⟩ := ownsRow_is h.ob hg
    obtain ⟨cs', hc'⟩ := ownsRow_is h.rw.own e.symm
    rw [hc] at hc'
    injection hc' with hc'
    injection hc' with _ ht'
    exact absurd ht' (by decide)
  refine ⟨hb, h.lf, (ho p hp).trans h.tp, ownsRow_keep h.ob fun g hg hl => hk g hl (fun e => n1 (by rw [hg, e])) (hne g hg), fun g hg => (ho g (ownsRow_lt h.ob hg)).trans (h.tb g hg), ⟨hv, ht, fun q hq => ?_⟩, ?_⟩
  · rcases List.mem_append.1 hq with hq | hq
    · obtain ⟨h1, h2⟩ := h.rw.rd q hq
      refine ⟨rd_keep h1 fun a ha _ => hk _ (h2 a ha).2 (fun e => ?_) (fun e => ?_), fun a ha => ⟨(ho _ (h2 a ha).2).trans (h2 a ha).1, Nat.lt_of_lt_of_le (h2 a ha).2 hs⟩⟩
      · have := (h2 a ha).1
        rw [e, h.tp] at this
        exact h9 this
      · have := (h2 a ha).1
        rw [h.rw.tag _ e.symm] at this
        exact h9 this
    · rw [List.mem_singleton] at hq
      subst hq
      exact ⟨hr, hrt⟩
  · rw [rws_append, h.raws]
    rfl
theorem ref_end (o o4 : Nat → Nat) (i : Nat) (h0 : i ≠ 0) (h9 : i ≠ 9) (p : Nat) (w W4 w5 w7 : World) (F5 : FM) (vb vr : Value) (lf : Int) (L : List Rw) (hF5 : RefAt W4 o4 i p vb vr lf L F5) (hU5 : Upd o o4 i w W4) (Ax : Option Addr) (cx n : Nat) (x : List Int) (pl : Int) (hn : n = x.length)
    (HX5 : Own w5 W4.heap.size (.slice Ax n cx) x) (HB5 : Below W4.heap.size W4.drew w5) (g7 cap7 : Nat)
    (hown : w7.ownsRow 0 86 2 (.slice (some ⟨g7, 0, none⟩) (L.length + 1) cap7) (L.length + 1) (rwv L ++ [.int .i64 pl, .slice Ax n cx]))
    (hgrow : (w5.alloc (.cells #[.int .i64 pl, .slice Ax n cx] 86)).grownBy w7 vr.ownBlock) (hat : vr.ownBlock = some g7 ∨ g7 = (w5.alloc (.cells #[.int .i64 pl, .slice Ax n cx] 86)).heap.size) (hlt : g7 < w7.heap.size) :
    ∃ o', Upd o o' i w (w7.setCell ⟨p, 5, none⟩ (.slice (some ⟨g7, 0, none⟩) (L.length + 1) cap7)) ∧ RefA (w7.setCell ⟨p, 5, none⟩ (.slice (some ⟨g7, 0, none⟩) (L.length + 1) cap7)) o' i p { F5 with raws := F5.raws ++ [(pl, x)] } := by
  subst hn
  have hb' : Below W4.heap.size W4 w5 := ⟨HB5.os, HB5.tape, HB5.output, HB5.size, HB5.block⟩
  have hs5 : W4.heap.size ≤ w5.heap.size := hb'.size
  obtain ⟨o5, hu5, hn5, hk5⟩ := hU5.noteV hb' HX5 9 (.inr rfl)
  obtain ⟨Wa, hWa⟩ : ∃ Wa, Wa = w5.alloc (.cells #[.int .i64 pl, .slice Ax x.length cx] 86) := ⟨_, rfl⟩
  rw [← hWa] at hgrow hat
  have hsa : w5.heap.size + 1 = Wa.heap.size := by rw [hWa]; simp
  have hba : Below w5.heap.size w5 Wa := by rw [hWa]; exact (Below.refl _ _).alloc (Nat.le_refl _) _
  have hua := hu5.below' hba
  have hvt : ∀ g, vr.ownBlock = some g → o5 g = i := fun g hg => (hk5 g (ownsRow_lt hF5.rw.own hg)).trans (hF5.rw.tag g hg)
  have howa : Wa.ownsRow 0 86 2 vr L.length (rwv L) := ownsRow_keep hF5.rw.own fun g hg hl => (hba.block g (Nat.lt_of_lt_of_le hl hs5)).trans (hb'.block g hl)
  obtain ⟨o7, hu7, ht7, hk7, _⟩ := hua.row (v := vr) (v' := .slice (some ⟨g7, 0, none⟩) (L.length + 1) cap7) hvt hgrow (oth_own howa hgrow (by unfold ctl; decide)) (fun g hg => by
    simp only [Value.ownBlock, Option.some.injEq] at hg
    subst hg
    exact ⟨hlt, hat⟩)
  have hpl4 := (Array.getElem?_eq_some_iff.1 hF5.blk).1
  have hk : ∀ k, k < W4.heap.size → o7 k = o4 k := fun k hk => (hk7 k (by omega)).trans (hk5 k hk)
  have hop : o7 p = i := (hk p hpl4).trans hF5.tp
  have hnv := hF5.ne.2
  have hp7 : w7.heap[p]? = _ := (hgrow.block p (by omega) (fun e => hnv e.symm)).trans ((hba.block p (by omega)).trans ((hb'.block p hpl4).trans hF5.blk))
  have hp8 := blk_set hp7 5 (.slice (some ⟨g7, 0, none⟩) (L.length + 1) cap7)
  have hs7 := hgrow.size
  refine ⟨o7, hu7.setCell (a := ⟨p, 5, none⟩) hop h0 hp7 (by unfold ctl; decide) _, _, _, lf, _, hF5.more (W' := w7.setCell ⟨p, 5, none⟩ (.slice (some ⟨g7, 0, none⟩) (L.length + 1) cap7)) (o' := o7) (v' := .slice (some ⟨g7, 0, none⟩) (L.length + 1) cap7) h9 (fun k hk' hne hnb => ?_) hk (by simp [World.setCell]; omega) ⟨pl, Ax, cx, x⟩ (by simpa using hp8) ?_ ht7 ?_ (fun a ha => ?_)⟩
  · rw [Below.heap_setCell _ _ _ _ (show k ≠ (⟨p, 5, none⟩ : Addr).block from hne)]
    exact (hgrow.block k (by omega) hnb).trans ((hba.block k (by omega)).trans (hb'.block k hk'))
  · rw [rwv_append, List.length_append]
    refine ownsRow_keep hown fun g hg _ => Below.heap_setCell _ _ _ _ (fun e => ?_)
    simp only [Value.ownBlock, Option.some.injEq] at hg
    subst hg
    rcases hat with h | h
    · exact hnv (h.trans (by rw [e]))
    · have e' : g7 = p := e
      omega
  · obtain ⟨A', c', hv, hr⟩ := own_reads HX5
    injection hv with e1 e2 e3
    subst e1
    refine rd_keep (w := w5) hr fun a ha h0' => ?_
    obtain ⟨hn1, hn2, hn3⟩ := hn5 a.block (by rw [show Ax = some a from ha]; rfl)
    refine (Below.heap_setCell _ _ _ _ (fun e => ?_)).trans ((hgrow.block _ (by omega) (fun e => ?_)).trans (hba.block _ hn3))
    · have e' : a.block = p := e
      omega
    · have := hvt _ e.symm
      rw [hn1] at this
      exact h9 this.symm
  · obtain ⟨hn1, hn2, hn3⟩ := hn5 a.block (by rw [show Ax = some a from ha]; rfl)
    refine ⟨(hk7 _ (by omega)).trans hn1, ?_⟩
    simp [World.setCell]
    omega
def RMadePost (o : Nat → Nat) (i : Nat) (b : List Int) (most : Int) (w : World) (e : Ending) (w' : World) : Prop :=
  ∃ p o', e = .returned (.pointer (some ⟨p, 0, none⟩)) ∧ RefA w' o' i p (mkF b most) ∧ Upd o o' i w w' ∧ Below w.heap.size w w' ∧ w.heap.size ≤ p
set_option maxHeartbeats 1600000 in
theorem refOf_bad (B : Option Addr) (c : Nat) (b : List Int) (most : Int) (w : World) (h : ofB b most) :
    Calls Tryd.prog 20 #[.slice B b.length c, .int .i64 most] w fun e w' => e = .returned (.pointer none) ∧ w = w' := by
  unfold ofB at h
  by_cases h1 : most < 0
  · clear h
    go_enter Tryd.func20, Tryd.ntmps20
    go_wp2_with fail
    go_ret
    exact ⟨rfl, rfl⟩
  by_cases h2 : 4194304 < most
  · clear h
    go_enter Tryd.func20, Tryd.ntmps20
    go_wp2_with fail
    go_ret
    exact ⟨rfl, rfl⟩
  · have h3 : most < b.length := by omega
    clear h
    go_enter Tryd.func20, Tryd.ntmps20
    go_wp2_with fail
    go_ret
    exact ⟨rfl, rfl⟩
set_option maxHeartbeats 1600000 in
theorem refOf_any (o : Nat → Nat) (i : Nat) (B : Option Addr) (c : Nat) (b : List Int) (most : Int) (w : World) (hfr : Fr o w) (hr : Rd w B b) (h : ¬ ofB b most) :
    Calls Tryd.prog 20 #[.slice B b.length c, .int .i64 most] w (RMadePost o i b most w) := by
  have HR := Lib.hid hr
  have HFR := Lib.hid hfr
  unfold ofB at h
  have h1 : ¬ most < 0 := by omega
  have h2 : ¬ 4194304 < most := by omega
  have h3 : ¬ most < b.length := by omega
  have HOE := Lib.hid (own_empty w w.heap.size (Nat.le_refl _))
  have HBA := Lib.hid ((Below.refl w.heap.size w).alloc (Nat.le_refl _) (.cells #[] 5))
  clear hr hfr h
  go_enter Tryd.func20, Tryd.ntmps20
  go_wp2_with (at_builtin; refine app w.heap.size rfl _ _ rfl (.slice (some ⟨w.heap.size, 0, none⟩) 0 0) [] b B c rfl rfl HOE.out (HR.out.below HBA.out) (by simp) (by simp; omega) ?_; intro v w1 ho g1; have HB := Lib.hid (HBA.out.grown g1 (by simp) (by simp [Value.ownBlock])); rw [List.nil_append] at ho; obtain ⟨Av, cv, rfl, ho2, _, _⟩ := own_split ho; have HO := Lib.hid ho2; clear ho ho2 g1)
  go_ret
  obtain ⟨o1, hu1, hn1, hk1⟩ := (Upd.refl (i := i) HFR.out).noteV HB.out HO.out i (.inl rfl)
  have hba : Below w1.heap.size w1 (w1.alloc (.cells #[.slice Av b.length cv, .int .i64 most, .bool false, .bool false, .int .i64 0, .slice none 0 0] 59)) := (Below.refl _ _).alloc (Nat.le_refl _) _
  have hu2 := hu1.note hba w1.heap.size i (.inl rfl) (Nat.le_refl _) (by simp)
  refine ⟨w1.heap.size, tg o1 w1.heap.size i, rfl, ⟨_, .slice none 0 0, 0, [], World.alloc_heap_new w1 _, fun h => absurd h (by show ¬ (0 : Int) ≤ -1; decide), tg_same _ _ _, own_weaken (own_step HO.out hba) (Nat.zero_le _), fun g hg => ?_, raws_nil _ _ _ _, rfl⟩, hu2, HB.out.trans (hba.mono HB.out.size), HB.out.size⟩
  obtain ⟨t1, _, t3⟩ := hn1 g hg
  rw [tg_other _ (by omega)]
  exact t1
end Go.Proofs.YtadmpjikkpnjnaaDoor
