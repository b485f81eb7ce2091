/-
  store.File.raw where the power does not fail. No premise.
-/
import Derived.Test.YtadmpjikkpnjnaaDoorSt2
namespace Go.Proofs.YtadmpjikkpnjnaaDoor
open Go.RowKit Go.Shelf Go.Proofs.YtadmpjikkpnjnaaDoorW.PrintWords

/-- append(v, ys...): v a row of the call's own; where the new row lies. -/
theorem run_appV {W : World} {v : Value} {b ys : List Int} (HO : Own W 0 v b) {A : Option Addr} {c : Nat} (HR : Rd W A ys) (hl : b.length + ys.length ≤ 100000000000000) (ty : TypeId) :
    ∃ A' c' w3, (Builtin.append_ #[25, 25] ty #[v, .slice A ys.length c]).run Tryd.prog W = .ok (.slice A' (b ++ ys).length c') w3 ∧ Own w3 0 (.slice A' (b ++ ys).length c') (b ++ ys) ∧ W.grownBy w3 v.ownBlock ∧
      ∀ g, Value.ownBlock (.slice A' (b ++ ys).length c') = some g → g < w3.heap.size ∧ (v.ownBlock = some g ∨ g = W.heap.size) := by
  obtain ⟨i0, hi', hz0, hz1, hz2⟩ := info_parts infoB
  rcases Nat.eq_zero_or_pos ys.length with h0 | h0
  · have e : ys = [] := List.length_eq_zero_iff.1 h0
    subst e
    obtain ⟨Av, cv, rfl, _, _, _⟩ := own_split HO
    have h1 := append_zero (base := 0) (size := 1) (n := b.length) (xs := nums .u8 b) 25 ty Tryd.underlying25 hi' HO A c
    refine ⟨Av, cv, W, by rw [List.append_nil]; exact h1, by rw [List.append_nil]; exact HO, World.grownBy.refl _ _, fun g hg => ⟨?_, .inl ?_⟩⟩
    · rw [List.append_nil] at hg
      exact own_hi HO hg
    · rw [List.append_nil] at hg
      exact hg
  · obtain ⟨ad, rfl, hc⟩ := HR.2.2 h0
    obtain ⟨g, cap, w', hr, h2, h3, h4, h5⟩ := run_append_lies (P := Tryd.prog) W 25 ty 0 5 i0 (.int .u8 0) 1 1 Tryd.underlying25 hi' hz0 hz1 hz2 rfl (by decide) v b.length (nums .u8 b) HO ad ys.length c (nums .u8 ys) (by simp [nums])
      (by
        intro j u hu
        have hj : j < ys.length := by
          have := (List.getElem?_eq_some_iff.1 hu).1
          rwa [nums_length] at this
        rw [hc j hj, ← hu]
        simp [nums, List.getD_eq_getElem?_getD, List.getElem?_eq_getElem hj])
      (by intro u hu; simp only [nums, List.mem_map] at hu; obtain ⟨q, _, rfl⟩ := hu; rfl) h0 (by simp only [maxLen]; omega) (by omega) (Nat.zero_le _) W.heap.size rfl
    refine ⟨some ⟨g, 0, none⟩, cap, w', by rw [List.length_append]; exact hr, ?_, h3, fun g' hg' => ?_⟩
    · unfold Own
      rw [nums_append, List.length_append]
      exact h2
    · simp only [Value.ownBlock, Option.some.injEq] at hg'
      subst hg'
      exact ⟨h5, h4⟩
/-- .. at a step of a region that draws. -/
theorem step_appV {ops : Array Oper} {o : Oper} {a : Act} {w : World} {K : Act → World → Prop} {Q : Exit → Act → World → Prop} {E : Prop} (hgd : o.guard = none) (s x : Operand)
    (ho : o.op = .call { callee := .builtin .append, args := #[s, x], argTypes := #[25, 25] }) (v : Value) (b ys : List Int) (A : Option Addr) (c : Nat) (hs : a.eval s = v) (hx : a.eval x = .slice A ys.length c)
    (HO : Own w 0 v b) (HR : Rd w A ys) (hl : b.length + ys.length ≤ 100000000000000)
    (h : ∀ A' m c' w3, Own w3 0 (.slice A' m c') (b ++ ys) → w.grownBy w3 v.ownBlock → (∀ g, Value.ownBlock (.slice A' m c') = some g → g < w3.heap.size ∧ (v.ownBlock = some g ∨ g = w.heap.size)) → K (a.put o.dst (.slice A' m c')) w3) :
    if Region.wanted o (yielded ops a.tmps) = true then Oper.wp Tryd.prog o a w K Q else E := by
  have hw : Region.wanted o (yielded ops a.tmps) = true := by simp [Region.wanted, hgd]
  rw [if_pos hw]
  obtain ⟨A', c', w3, hr, h1, h2, h3⟩ := run_appV HO HR hl o.type (c := c)
  unfold Oper.wp execOp
  simp only [ho, resolve, invoke, builtin, Sem.run_bind, Sem.run_pure, Result.andThen_ok, List.map_toArray, List.map_cons, List.map_nil, hs, hx, hr]
  exact h A' _ c' w3 h1 h2 h3
/-- Other bytes. -/
theorem FileAt.bytes {W W' : World} {o o' : Nat → Nat} {i p : Nat} {vb vr v' : Value} {L : List Rw} {F : FM} (h : FileAt W o i p vb vr L F) (h9 : i ≠ 9)
    (hk : ∀ k, k < W.heap.size → k ≠ p → some k ≠ vb.ownBlock → W'.heap[k]? = W.heap[k]?) (ho : ∀ k, k < W.heap.size → o' k = o k) (hs : W.heap.size ≤ W'.heap.size) (b' : List Int)
    (hb : W'.heap[p]? = some (.cells #[.bool true, v', .int .i64 F.most, .bool F.off, .int .i64 F.left, vr] 78 (0, 0))) (hv : Own W' 0 v' b') (ht : ∀ g, v'.ownBlock = some g → o' g = i) :
    FileAt W' o' i p v' vr L { F with b := b' } := by
  have hp := (Array.getElem?_eq_some_iff.1 h.blk).1
  obtain ⟨n1, n2⟩ := h.ne
  have hne : ∀ g, vr.ownBlock = some g → some g ≠ vb.ownBlock := fun g hg e => by
    obtain ⟨cs, hc⟩ := ownsRow_is h.rw.own hg
    obtain ⟨cs', hc'⟩ := ownsRow_is h.ob e.symm
    rw [hc] at hc'
    injection hc' with hc'
    injection hc' with _ ht'
    exact absurd ht' (by decide)
  refine ⟨hb, (ho p hp).trans h.tp, hv, ht, ⟨?_, fun g hg => (ho g (ownsRow_lt h.rw.own hg)).trans (h.rw.tag g hg), fun r hr => ?_⟩, h.raws⟩
  · exact ownsRow_keep h.rw.own fun g hg hl => hk g hl (fun e => n2 (by rw [hg, e])) (hne g hg)
  · obtain ⟨h1, h2⟩ := h.rw.rd r hr
    refine ⟨rd_keep h1 fun a ha _ => hk _ (h2 a ha).2 (fun e => ?_) (fun e => ?_), fun a ha => ⟨(ho _ (h2 a ha).2).trans (h2 a ha).1, Nat.lt_of_lt_of_le (h2 a ha).2 hs⟩⟩
    · have := (h2 a ha).1
      rw [e, h.tp] at this
      exact h9 this
    · have := (h2 a ha).1
      rw [h.tb _ e.symm] at this
      exact h9 this
/-- One raw write more. -/
theorem FileAt.more {W W' : World} {o o' : Nat → Nat} {i p : Nat} {vb vr v' : Value} {L : List Rw} {F : FM} (h : FileAt W o i p vb vr L F) (h9 : i ≠ 9)
    (hk : ∀ k, k < W.heap.size → k ≠ p → some k ≠ vr.ownBlock → W'.heap[k]? = W.heap[k]?) (ho : ∀ k, k < W.heap.size → o' k = o k) (hs : W.heap.size ≤ W'.heap.size) (r : Rw)
    (hb : W'.heap[p]? = some (.cells #[.bool true, vb, .int .i64 F.most, .bool F.off, .int .i64 F.left, v'] 78 (0, 0))) (hv : W'.ownsRow 0 88 2 v' (L ++ [r]).length (rwv (L ++ [r]))) (ht : ∀ g, v'.ownBlock = some g → o' g = i)
    (hr : Rd W' r.A r.b) (hrt : ∀ a, r.A = some a → o' a.block = 9 ∧ a.block < W'.heap.size) :
    FileAt W' o' i p vb v' (L ++ [r]) { F with raws := F.raws ++ [(r.pl, r.b)] } := by
  have hp := (Array.getElem?_eq_some_iff.1 h.blk).1
  obtain ⟨n1, n2⟩ := h.ne
  have hne : ∀ g, vb.ownBlock = some g → some g ≠ vr.ownBlock := fun g hg e => by
    obtain ⟨cs, hc⟩ := ownsRow_is h.ob hg
    obtain ⟨cs', hc'⟩ := ownsRow_is h.rw.own e.symm
    rw [hc] at hc'
    injection hc' with hc'
    injection hc' with _ ht'
    exact absurd ht' (by decide)
  refine ⟨hb, (ho p hp).trans h.tp, ownsRow_keep h.ob fun g hg hl => hk g hl (fun e => n1 (by rw [hg, e])) (hne g hg), fun g hg => (ho g (ownsRow_lt h.ob hg)).trans (h.tb g hg), ⟨hv, ht, fun q hq => ?_⟩, ?_⟩
  · rcases List.mem_append.1 hq with hq | hq
    · obtain ⟨h1, h2⟩ := h.rw.rd q hq
      refine ⟨rd_keep h1 fun a ha _ => hk _ (h2 a ha).2 (fun e => ?_) (fun e => ?_), fun a ha => ⟨(ho _ (h2 a ha).2).trans (h2 a ha).1, Nat.lt_of_lt_of_le (h2 a ha).2 hs⟩⟩
      · have := (h2 a ha).1
        rw [e, h.tp] at this
        exact h9 this
      · have := (h2 a ha).1
        rw [h.rw.tag _ e.symm] at this
        exact h9 this
    · rw [List.mem_singleton] at hq
      subst hq
      exact ⟨hr, hrt⟩
  · rw [rws_append, h.raws]
    rfl
theorem oth_own {W W' : World} {base e size n : Nat} {v : Value} {xs : List Value} (h : W.ownsRow base e size v n xs) (hg : W.grownBy W' v.ownBlock) (he : ¬ ctl e) : KC W W' :=
  ⟨KeepsOthers.of_grownBy hg (fun j ob ej hj => by
    obtain ⟨cs, hcs⟩ := ownsRow_is h ej
    rw [hcs] at hj
    cases hj
    rfl), fun i cs t ht hi => (hg.block i (Array.getElem?_eq_some_iff.1 hi).1 (fun ej => by
      obtain ⟨cs', hcs⟩ := ownsRow_is h ej.symm
      rw [hcs] at hi
      injection hi with hi
      injection hi with _ e2
      exact he (e2 ▸ ht))).trans hi⟩
/-- A row of i's own that has grown. -/
theorem Upd.row {o o' : Nat → Nat} {i : Nat} {a b c : World} (h : Upd o o' i a b) {v v' : Value} (hv : ∀ g, v.ownBlock = some g → o' g = i) (hg : b.grownBy c v.ownBlock) (ho : KC b c)
    (hn : ∀ g, v'.ownBlock = some g → g < c.heap.size ∧ (v.ownBlock = some g ∨ g = b.heap.size)) : ∃ o'', Upd o o'' i a c ∧ (∀ g, v'.ownBlock = some g → o'' g = i) ∧ (∀ k, k < b.heap.size → o'' k = o' k) ∧ (∀ k, o' k = 9 → k < b.heap.size → o'' k = 9) := by
  cases e : v'.ownBlock with
  | none => exact ⟨o', h.grown hg hv ho, (fun g hg => by cases hg), fun _ _ => rfl, fun _ h _ => h⟩
  | some g =>
    obtain ⟨h1, h2⟩ := hn g e
    have hgo : o' g = i ∨ b.heap.size ≤ g := by
      rcases h2 with h2 | h2
      · exact .inl (hv g h2)
      · exact .inr (by omega)
    have hk : ∀ k, k < b.heap.size → tg o' g i k = o' k := fun k hk => by
      by_cases e2 : k = g
      · subst e2
        rw [tg_same]
        rcases hgo with h3 | h3
        · exact h3.symm
        · omega
      · exact tg_other _ e2
    exact ⟨tg o' g i, h.grow hg hv ho g hgo h1, fun g' hg' => by injection hg' with hg'; subst hg'; exact tg_same _ _ _, hk, fun k h9 hl => (hk k hl).trans h9⟩
/-- What was laid anew, for nobody to turn. -/
theorem Upd.noteV {o o' : Nat → Nat} {i : Nat} {a b c : World} (h : Upd o o' i a b) (hb : Below b.heap.size b c) {v : Value} {l : List Int} (hv : Own c b.heap.size v l) (t : Nat) (ht : t = i ∨ t = 9) :
    ∃ o'', Upd o o'' i a c ∧ (∀ g, v.ownBlock = some g → o'' g = t ∧ b.heap.size ≤ g ∧ g < c.heap.size) ∧ (∀ k, k < b.heap.size → o'' k = o' k) := by
  cases e : v.ownBlock with
  | none => exact ⟨o', h.below' hb, (fun g hg => by cases hg), fun _ _ => rfl⟩
  | some g =>
    have h1 := own_lo hv e
    have h2 := own_hi hv e
    exact ⟨tg o' g t, h.note hb g t ht h1 h2, fun g' hg' => by injection hg' with hg'; subst hg'; exact ⟨tg_same _ _ _, h1, h2⟩, fun k hk => tg_other _ (by omega)⟩
theorem raw_end (o o4 : Nat → Nat) (i : Nat) (h0 : i ≠ 0) (h9 : i ≠ 9) (p : Nat) (w W4 w5 w7 : World) (F5 : FM) (vb vr : Value) (L : List Rw) (hF5 : FileAt W4 o4 i p vb vr L F5) (hU5 : Upd o o4 i w W4) (Ax : Option Addr) (cx : Nat) (x : List Int) (pl : Int)
    (HX5 : Own w5 W4.heap.size (.slice Ax x.length cx) x) (HB5 : Below W4.heap.size W4.drew w5) (g7 cap7 : Nat)
    (hown : w7.ownsRow 0 88 2 (.slice (some ⟨g7, 0, none⟩) (L.length + 1) cap7) (L.length + 1) (rwv L ++ [.int .i64 pl, .slice Ax x.length cx]))
    (hgrow : (w5.alloc (.cells #[.int .i64 pl, .slice Ax x.length cx] 88)).grownBy w7 vr.ownBlock) (hat : vr.ownBlock = some g7 ∨ g7 = (w5.alloc (.cells #[.int .i64 pl, .slice Ax x.length cx] 88)).heap.size) (hlt : g7 < w7.heap.size) :
    ∃ o', Upd o o' i w (w7.setCell ⟨p, 5, none⟩ (.slice (some ⟨g7, 0, none⟩) (L.length + 1) cap7)) ∧ FileA (w7.setCell ⟨p, 5, none⟩ (.slice (some ⟨g7, 0, none⟩) (L.length + 1) cap7)) o' i p { F5 with raws := F5.raws ++ [(pl, x)] } := by
  have hb' : Below W4.heap.size W4 w5 := ⟨HB5.os, HB5.tape, HB5.output, HB5.size, HB5.block⟩
  have hs5 : W4.heap.size ≤ w5.heap.size := hb'.size
  obtain ⟨o5, hu5, hn5, hk5⟩ := hU5.noteV hb' HX5 9 (.inr rfl)
  obtain ⟨Wa, hWa⟩ : ∃ Wa, Wa = w5.alloc (.cells #[.int .i64 pl, .slice Ax x.length cx] 88) := ⟨_, rfl⟩
  rw [← hWa] at hgrow hat
  have hsa : w5.heap.size + 1 = Wa.heap.size := by rw [hWa]; simp
  have hba : Below w5.heap.size w5 Wa := by rw [hWa]; exact (Below.refl _ _).alloc (Nat.le_refl _) _
  have hua := hu5.below' hba
  have hvt : ∀ g, vr.ownBlock = some g → o5 g = i := fun g hg => (hk5 g (ownsRow_lt hF5.rw.own hg)).trans (hF5.rw.tag g hg)
  have howa : Wa.ownsRow 0 88 2 vr L.length (rwv L) := ownsRow_keep hF5.rw.own fun g hg hl => (hba.block g (Nat.lt_of_lt_of_le hl hs5)).trans (hb'.block g hl)
  obtain ⟨o7, hu7, ht7, hk7, _⟩ := hua.row (v := vr) (v' := .slice (some ⟨g7, 0, none⟩) (L.length + 1) cap7) hvt hgrow (oth_own howa hgrow (by unfold ctl; decide)) (fun g hg => by
    simp only [Value.ownBlock, Option.some.injEq] at hg
    subst hg
    exact ⟨hlt, hat⟩)
  have hpl4 := (Array.getElem?_eq_some_iff.1 hF5.blk).1
  have hk : ∀ k, k < W4.heap.size → o7 k = o4 k := fun k hk => (hk7 k (by omega)).trans (hk5 k hk)
  have hop : o7 p = i := (hk p hpl4).trans hF5.tp
  have hnv := hF5.ne.2
  have hp7 : w7.heap[p]? = _ := (hgrow.block p (by omega) (fun e => hnv e.symm)).trans ((hba.block p (by omega)).trans ((hb'.block p hpl4).trans hF5.blk))
  have hp8 := blk_set hp7 5 (.slice (some ⟨g7, 0, none⟩) (L.length + 1) cap7)
  have hs7 := hgrow.size
  refine ⟨o7, hu7.setCell (a := ⟨p, 5, none⟩) hop h0 hp7 (by unfold ctl; decide) _, _, _, _, hF5.more (W' := w7.setCell ⟨p, 5, none⟩ (.slice (some ⟨g7, 0, none⟩) (L.length + 1) cap7)) (o' := o7) (v' := .slice (some ⟨g7, 0, none⟩) (L.length + 1) cap7) h9 (fun k hk' hne hnb => ?_) hk (by simp [World.setCell]; omega) ⟨pl, Ax, cx, x⟩ (by simpa using hp8) ?_ ht7 ?_ (fun a ha => ?_)⟩
  · rw [Below.heap_setCell _ _ _ _ (show k ≠ (⟨p, 5, none⟩ : Addr).block from hne)]
    exact (hgrow.block k (by omega) hnb).trans ((hba.block k (by omega)).trans (hb'.block k hk'))
  · rw [rwv_append, List.length_append]
    refine ownsRow_keep hown fun g hg _ => Below.heap_setCell _ _ _ _ (fun e => ?_)
    simp only [Value.ownBlock, Option.some.injEq] at hg
    subst hg
    rcases hat with h | h
    · exact hnv (h.trans (by rw [e]))
    · have e' : g7 = p := e
      omega
  · have hrd := HX5
    obtain ⟨A', c', hv, hr⟩ := own_reads HX5
    injection hv with e1 e2 e3
    subst e1
    refine rd_keep (w := w5) hr fun a ha h0' => ?_
    obtain ⟨hn1, hn2, hn3⟩ := hn5 a.block (by rw [show Ax = some a from ha]; rfl)
    refine (Below.heap_setCell _ _ _ _ (fun e => ?_)).trans ((hgrow.block _ (by omega) (fun e => ?_)).trans (hba.block _ hn3))
    · have e' : a.block = p := e
      omega
    · have := hvt _ e.symm
      rw [hn1] at this
      exact h9 this.symm
  · obtain ⟨hn1, hn2, hn3⟩ := hn5 a.block (by rw [show Ax = some a from ha]; rfl)
    refine ⟨(hk7 _ (by omega)).trans hn1, ?_⟩
    simp [World.setCell]
    omega
theorem infoR : (Tryd.prog.info? 88).map (fun i => (i.zero, i.size, i.bytes)) = some (some (.agg #[.int .i64 0, .slice none 0 0]), 2, 32) := by kernel_rfl
theorem infoRR : (Tryd.prog.info? 86).map (fun i => (i.zero, i.size, i.bytes)) = some (some (.agg #[.int .i64 0, .slice none 0 0]), 2, 32) := by kernel_rfl
set_option maxRecDepth 100000 in
set_option maxHeartbeats 1600000 in
theorem raw_pos (o : Nat → Nat) (i : Nat) (h0 : i ≠ 0) (h9 : i ≠ 9) (p : Nat) (F : FM) (at_ : Nat) (A : Option Addr) (c : Nat) (x : List Int) (w : World) (hF : FileA w o i p F) (hfr : Fr o w) (hl : 0 < F.left) (hl2 : F.left ≤ 9223372036854775807)
    (hat : at_ ≤ F.b.length) (hr : Rd w A x) (hA : 0 < x.length → ∀ a, A = some a → o a.block ≠ i) (hx : x.length ≤ 1000000) (hc : x.length ≤ c) (hbl : F.b.length ≤ 10000000) (hrl : F.raws.length ≤ 1000000000) :
    Calls Tryd.prog 40 #[.pointer (some ⟨p, 0, none⟩), .int .i64 at_, .slice A x.length c] w (RawPost o i p F at_ x w) := by
  obtain ⟨vb, vr, L, hF⟩ := hF
  obtain ⟨Av, cv, hvb, _, _, _⟩ := own_split hF.ob
  obtain ⟨vl, hvl⟩ : ∃ vl, vl = F.b.length := ⟨_, rfl⟩
  rw [← hvl] at hvb
  subst hvb
  clear hvl
  obtain ⟨c0, c1, c2, c3, c4, c5⟩ := hF.cells
  have hfz4 : w.frozen? ⟨p, 4, none⟩ = false := blk_frozen hF.blk 4
  have hb1 := blk_set hF.blk 4 (.int .i64 (F.left - 1))
  have hF1 : FileAt (w.setCell ⟨p, 4, none⟩ (.int .i64 (F.left - 1))) o i p (.slice Av vl cv) vr L { F with left := F.left - 1 } :=
    hF.stored h9 hF.tp (fun k hk hne => Below.heap_setCell _ _ _ _ hne) (by simp [World.setCell]) (fun _ _ => rfl) (by simpa using hb1) rfl rfl
  have HF1 := Lib.hid hF1
  have HU1 := Lib.hid ((Upd.refl (i := i) hfr).setCell (a := ⟨p, 4, none⟩) hF.tp h0 hF.blk (by unfold ctl; decide) (.int .i64 (F.left - 1)))
  have HR1 := Lib.hid (HU1.out.rd hr hA)
  obtain ⟨_, d1, _, _, _, d5⟩ := hF1.cells
  obtain ⟨dp, dc, hsl, hdp⟩ := slice_dstV hF1.ob at_ hat
  have HDP := Lib.hid hdp
  obtain ⟨n1, n2⟩ := hF1.ne
  have HN1 := Lib.hid n1
  have HN2 := Lib.hid n2
  obtain ⟨n, hn⟩ : ∃ n, n = Nat.min x.length (F.b.length - at_) := ⟨_, rfl⟩
  have hnx : n ≤ x.length := by rw [hn]; exact Nat.min_le_left _ _
  obtain ⟨A2, hcut, hcr, hcc⟩ := cut_suf A x c (n : Int) (by omega) (by omega) hc
  rw [Int.toNat_natCast] at hcut hcr hcc
  have HN := Lib.hid hn
  have HCR := Lib.hid hcr
  obtain ⟨b1, hb1e⟩ : ∃ b1, b1 = splice F.b at_ (x.take (F.b.length - at_)) := ⟨_, rfl⟩
  obtain ⟨xr, hxr⟩ : ∃ xr, xr = x.drop n := ⟨_, rfl⟩
  rw [← hxr] at hcut hcr hcc
  have HXR := Lib.hid hxr
  have HB1 := Lib.hid hb1e
  generalize hW1 : w.setCell ⟨p, 4, none⟩ (.int .i64 (F.left - 1)) = W1 at *
  clear hF hF1 hb1 hdp hn hcr hxr hb1e n1 n2 hfr
  go_enter Tryd.func40, Tryd.ntmps40
  go_wp2_with ((with_reducible refine gate_builtin (b := .copy) (xs := #[.tmp 36, .tmp 37]) rfl ?_); refine cpyV rfl _ _ rfl (.slice Av vl cv) F.b x at_ dp A dc c rfl rfl HDP.out HF1.out.ob HR1.out hat ?_; intro w2 h1 h2; rw [← HN.out])
  have hp1 := HF1.out.blk
  have hpl := (Array.getElem?_eq_some_iff.1 hp1).1
  have hp2 : w2.heap[p]? = _ := (h2.block p hpl (fun e => HN1.out e.symm)).trans hp1
  have e1 : w2.cell? ⟨p, 1, none⟩ = some (.slice Av vl cv) := blk_cell hp2 1
  have e5 : w2.cell? ⟨p, 5, none⟩ = some vr := blk_cell hp2 5
  have ef1 : w2.frozen? ⟨p, 1, none⟩ = false := blk_frozen hp2 1
  rw [← HB1.out] at h1
  have hlb : b1.length = F.b.length := by rw [HB1.out, length_splice]; rw [List.length_take]; omega
  have HLB := Lib.hid hlb
  have HP2 := Lib.hid hp2
  have H1 := Lib.hid h1
  have H2 := Lib.hid h2
  have hs2 := h2.size
  have HU2 := Lib.hid (HU1.out.grown h2 (fun k hk => HF1.out.tb k hk) (oth_own HF1.out.ob h2 (by unfold ctl; decide)))
  clear hp1 hp2 h1 h2 d1 d5 c0 c1 c2 c3 c4 c5 hlb hsl hW1
  have HXR2 := Lib.hid (show Rd w2 A2 xr by rw [HXR.out]; exact HCR.out _ (HU2.out.rd hr hA))
  go_region_law (refine step_appV rfl (.tmp 43) (.tmp 46) rfl (.slice Av vl cv) b1 xr A2 (c - n) (by simp [Act.eval]) (by simp [Act.eval]) H1.out HXR2.out (by have := HLB.out; have := hnx; have := HXR.out; rw [this]; simp; omega) ?_; intro A' m' c' w3 h1 h2 h3; have hp3 := (h2.block p (Nat.lt_of_lt_of_le hpl hs2) (fun e => HN1.out e.symm)).trans HP2.out; have e31 := blk_frozen hp3 1; obtain ⟨v31, e32⟩ := cell_in hp3 (i := 1) (by simp); have H13 := Lib.hid h1; have H23 := Lib.hid h2; have H33 := Lib.hid h3; have HP3 := Lib.hid hp3; clear h1 h2 h3 hp3)
  obtain ⟨o4, hU4, ht4, hk4, _⟩ := (HU2.out.drew).row (v := .slice Av vl cv) (v' := .slice A' m' c') HF1.out.tb H23.out (oth_own (W := w2.drew) H1.out H23.out (by unfold ctl; decide)) H33.out
  have hp4 := blk_set HP3.out 1 (.slice A' m' c')
  have hop : o4 p = i := (hk4 p (Nat.lt_of_lt_of_le hpl hs2)).trans HF1.out.tp
  have HU5 := Lib.hid (hU4.setCell (a := ⟨p, 1, none⟩) hop h0 HP3.out (by unfold ctl; decide) (.slice A' m' c'))
  have hs3 := H23.out.size
  have hlay : b1 ++ xr = layL F.b at_ x := by
    rw [HB1.out, HXR.out, HN.out]
    exact lay_copy F.b at_ x hat
  have hF5 := HF1.out.bytes (W' := w3.setCell ⟨p, 1, none⟩ (.slice A' m' c')) (o' := o4) (v' := .slice A' m' c') h9 (fun k hk hne hnb => by
      rw [Below.heap_setCell _ _ _ _ (show k ≠ (⟨p, 1, none⟩ : Addr).block from hne)]
      exact (H23.out.block k (Nat.lt_of_lt_of_le hk hs2) hnb).trans (H2.out.block k hk hnb)) (fun k hk => hk4 k (Nat.lt_of_lt_of_le hk hs2)) (by simp [World.setCell]; exact Nat.le_trans hs2 hs3) (b1 ++ xr) (by simpa using hp4)
      (own_setCell H13.out (fun e => by
        obtain ⟨cs, hc⟩ := ownsRow_is H13.out e.symm
        rw [HP3.out] at hc
        injection hc with hc
        injection hc with _ ht'
        exact absurd ht' (by decide)) _) ht4
  rw [hlay] at hF5
  have HF5 := Lib.hid hF5
  have e45 := hF5.cells.2.2.2.2.2
  have HR5 := Lib.hid (HU5.out.rd hr hA)
  obtain ⟨W4, hW4⟩ : ∃ W4, W4 = w3.setCell ⟨p, 1, none⟩ (.slice A' m' c') := ⟨_, rfl⟩
  rw [← hW4] at HF5 HU5 e45 HR5 ⊢
  obtain ⟨iR, hiR, hr0, hr1, hr2⟩ := info_parts infoR
  have HLL := Lib.hid (show L.length ≤ 1000000000 by have := rws_length L; rw [HF1.out.raws] at this; simp only at this; omega)
  have hp5 := hF5.blk
  rw [← hW4] at hp5
  have HP5 := Lib.hid hp5
  have hpl4 := (Array.getElem?_eq_some_iff.1 hp5).1
  have HNV := Lib.hid (show vr.ownBlock ≠ some p from HF5.out.ne.2)
  clear hF5 hp4 hop hW4 hlay H13 H23 H33 HP3 e31 e32 hU4 ht4 hk4 hs3 H1 H2 HP2 e1 e5 ef1 HLB HU2 HXR2 hs2 HDP hcut hcc hpl HR1 hp5
  go_wp2_with fail
  have HFR5 := Lib.hid (show ∀ w5, Below W4.drew.heap.size W4.drew w5 → w5.cell? ⟨p, 5, none⟩ = some vr from fun w5 hb => (World.cell?_of_block (w := W4) (hb.block p hpl4)).trans e45)
  have e45d : W4.drew.cell? ⟨p, 5, none⟩ = some vr := e45
  go_region_law
    (first
      | (go_simp; go_at_call 36; refine (clone_any A c x _ (show Rd W4.drew A x from HR5.out) (by omega)).mono ?_; rintro e w5 ⟨vx, rfl, hx5, hb5⟩; obtain ⟨Ax, cx, rfl, hx6, hrx, _⟩ := own_split hx5; have HX5 := Lib.hid hx6; have HRX := Lib.hid hrx; have HB5 := Lib.hid hb5; have HB6 := Lib.hid hb5; have e55 := HFR5.out _ HB6.out; have e56 := HFR5.out _ (HB6.out.alloc HB6.out.size (.cells #[.int .i64 at_, .slice Ax x.length cx] 88)); clear hx5 hx6 hrx hb5)
      | (refine step_append_lies _ rfl (.tmp 54) (.tmp 59) 60 rfl 0 88 iR (.agg #[.int .i64 0, .slice none 0 0]) 2 32 Tryd.underlying60 hiR hr0 hr1 hr2 rfl (by decide) vr L.length (rwv L) (by simp [Act.eval]) (ownsRow_keep HF5.out.rw.own fun g hg hl => (Below.heap_alloc _ _ _ (Nat.lt_of_lt_of_le hl HB5.out.size)).trans (HB5.out.block g hl)) _ 1 1 [.int .i64 at_, .slice Ax x.length cx] (by simp [Act.eval]) rfl (World.news_of_block (World.alloc_heap_new _ _)) (by simp [Value.oneCell']) (by decide) (by simp only [maxLen]; have := HLL.out; omega) (by have := HLL.out; omega) (Nat.zero_le _) _ rfl ?_; intro g7 cap7 w7 hown hgrow hat hlt; have hp7 := (hgrow.block p (Nat.lt_of_lt_of_le hpl4 (by have := HB6.out.size; simp at this ⊢; omega)) (fun e => HNV.out e.symm)).trans ((HB6.out.alloc HB6.out.size _).block p hpl4 |>.trans HP5.out); have S6 := blk_cell hp7 5; have e76 := blk_frozen hp7 5; have HP7 := Lib.hid hp7; clear hp7))
  all_goals
    obtain ⟨o8, hU8, hF8⟩ := raw_end o o4 i h0 h9 p w W4 w5 w7 _ _ vr L HF5.out HU5.out Ax cx x at_ HX5.out HB5.out g7 cap7 hown hgrow hat hlt
    have HU8 := Lib.hid hU8
    have HF8 := Lib.hid hF8
    clear hU8 hF8 hown hgrow hat hlt
    go_wp2_with fail
    go_ret
    refine ⟨o8, by simp; omega, HU8.out, ?_⟩
    have e : rawF F at_ x = { F with b := layL F.b at_ x, left := F.left - 1, raws := F.raws ++ [((at_ : Int), x)] } := by
      unfold rawF
      rw [if_neg (by omega), if_pos hl]
    rw [e]
    exact HF8.out
set_option maxRecDepth 100000 in
set_option maxHeartbeats 1600000 in
theorem raw_neg (o : Nat → Nat) (i : Nat) (h0 : i ≠ 0) (h9 : i ≠ 9) (p : Nat) (F : FM) (at_ : Nat) (A : Option Addr) (c : Nat) (x : List Int) (w : World) (hF : FileA w o i p F) (hfr : Fr o w) (hl : F.left < 0) (hl2 : -9223372036854775808 ≤ F.left)
    (hat : at_ ≤ F.b.length) (hr : Rd w A x) (hA : 0 < x.length → ∀ a, A = some a → o a.block ≠ i) (hx : x.length ≤ 1000000) (hc : x.length ≤ c) (hbl : F.b.length ≤ 10000000) (hrl : F.raws.length ≤ 1000000000) :
    Calls Tryd.prog 40 #[.pointer (some ⟨p, 0, none⟩), .int .i64 at_, .slice A x.length c] w (RawPost o i p F at_ x w) := by
  obtain ⟨vb, vr, L, hF⟩ := hF
  obtain ⟨Av, cv, hvb, _, _, _⟩ := own_split hF.ob
  obtain ⟨vl, hvl⟩ : ∃ vl, vl = F.b.length := ⟨_, rfl⟩
  rw [← hvl] at hvb
  subst hvb
  clear hvl
  obtain ⟨c0, c1, c2, c3, c4, c5⟩ := hF.cells
  have hF1 : FileAt w o i p (.slice Av vl cv) vr L F := hF
  have HF1 := Lib.hid hF1
  have HU1 := Lib.hid (Upd.refl (i := i) hfr)
  have HR1 := Lib.hid (HU1.out.rd hr hA)
  obtain ⟨_, d1, _, _, _, d5⟩ := hF1.cells
  obtain ⟨dp, dc, hsl, hdp⟩ := slice_dstV hF1.ob at_ hat
  have HDP := Lib.hid hdp
  obtain ⟨n1, n2⟩ := hF1.ne
  have HN1 := Lib.hid n1
  have HN2 := Lib.hid n2
  obtain ⟨n, hn⟩ : ∃ n, n = Nat.min x.length (F.b.length - at_) := ⟨_, rfl⟩
  have hnx : n ≤ x.length := by rw [hn]; exact Nat.min_le_left _ _
  obtain ⟨A2, hcut, hcr, hcc⟩ := cut_suf A x c (n : Int) (by omega) (by omega) hc
  rw [Int.toNat_natCast] at hcut hcr hcc
  have HN := Lib.hid hn
  have HCR := Lib.hid hcr
  obtain ⟨b1, hb1e⟩ : ∃ b1, b1 = splice F.b at_ (x.take (F.b.length - at_)) := ⟨_, rfl⟩
  obtain ⟨xr, hxr⟩ : ∃ xr, xr = x.drop n := ⟨_, rfl⟩
  rw [← hxr] at hcut hcr hcc
  have HXR := Lib.hid hxr
  have HB1 := Lib.hid hb1e
  clear hF hF1 hdp hn hcr hxr hb1e n1 n2 hfr
  go_enter Tryd.func40, Tryd.ntmps40
  go_wp2_with ((with_reducible refine gate_builtin (b := .copy) (xs := #[.tmp 36, .tmp 37]) rfl ?_); refine cpyV rfl _ _ rfl (.slice Av vl cv) F.b x at_ dp A dc c rfl rfl HDP.out HF1.out.ob HR1.out hat ?_; intro w2 h1 h2; rw [← HN.out])
  have hp1 := HF1.out.blk
  have hpl := (Array.getElem?_eq_some_iff.1 hp1).1
  have hp2 : w2.heap[p]? = _ := (h2.block p hpl (fun e => HN1.out e.symm)).trans hp1
  have e1 : w2.cell? ⟨p, 1, none⟩ = some (.slice Av vl cv) := blk_cell hp2 1
  have e5 : w2.cell? ⟨p, 5, none⟩ = some vr := blk_cell hp2 5
  have ef1 : w2.frozen? ⟨p, 1, none⟩ = false := blk_frozen hp2 1
  rw [← HB1.out] at h1
  have hlb : b1.length = F.b.length := by rw [HB1.out, length_splice]; rw [List.length_take]; omega
  have HLB := Lib.hid hlb
  have HP2 := Lib.hid hp2
  have H1 := Lib.hid h1
  have H2 := Lib.hid h2
  have hs2 := h2.size
  have HU2 := Lib.hid (HU1.out.grown h2 (fun k hk => HF1.out.tb k hk) (oth_own HF1.out.ob h2 (by unfold ctl; decide)))
  clear hp1 hp2 h1 h2 d1 d5 c0 c1 c2 c3 c4 c5 hlb hsl
  have HXR2 := Lib.hid (show Rd w2 A2 xr by rw [HXR.out]; exact HCR.out _ (HU2.out.rd hr hA))
  go_region_law (refine step_appV rfl (.tmp 43) (.tmp 46) rfl (.slice Av vl cv) b1 xr A2 (c - n) (by simp [Act.eval]) (by simp [Act.eval]) H1.out HXR2.out (by have := HLB.out; have := hnx; have := HXR.out; rw [this]; simp; omega) ?_; intro A' m' c' w3 h1 h2 h3; have hp3 := (h2.block p (Nat.lt_of_lt_of_le hpl hs2) (fun e => HN1.out e.symm)).trans HP2.out; have e31 := blk_frozen hp3 1; obtain ⟨v31, e32⟩ := cell_in hp3 (i := 1) (by simp); have H13 := Lib.hid h1; have H23 := Lib.hid h2; have H33 := Lib.hid h3; have HP3 := Lib.hid hp3; clear h1 h2 h3 hp3)
  obtain ⟨o4, hU4, ht4, hk4, _⟩ := (HU2.out.drew).row (v := .slice Av vl cv) (v' := .slice A' m' c') HF1.out.tb H23.out (oth_own (W := w2.drew) H1.out H23.out (by unfold ctl; decide)) H33.out
  have hp4 := blk_set HP3.out 1 (.slice A' m' c')
  have hop : o4 p = i := (hk4 p (Nat.lt_of_lt_of_le hpl hs2)).trans HF1.out.tp
  have HU5 := Lib.hid (hU4.setCell (a := ⟨p, 1, none⟩) hop h0 HP3.out (by unfold ctl; decide) (.slice A' m' c'))
  have hs3 := H23.out.size
  have hlay : b1 ++ xr = layL F.b at_ x := by
    rw [HB1.out, HXR.out, HN.out]
    exact lay_copy F.b at_ x hat
  have hF5 := HF1.out.bytes (W' := w3.setCell ⟨p, 1, none⟩ (.slice A' m' c')) (o' := o4) (v' := .slice A' m' c') h9 (fun k hk hne hnb => by
      rw [Below.heap_setCell _ _ _ _ (show k ≠ (⟨p, 1, none⟩ : Addr).block from hne)]
      exact (H23.out.block k (Nat.lt_of_lt_of_le hk hs2) hnb).trans (H2.out.block k hk hnb)) (fun k hk => hk4 k (Nat.lt_of_lt_of_le hk hs2)) (by simp [World.setCell]; exact Nat.le_trans hs2 hs3) (b1 ++ xr) (by simpa using hp4)
      (own_setCell H13.out (fun e => by
        obtain ⟨cs, hc⟩ := ownsRow_is H13.out e.symm
        rw [HP3.out] at hc
        injection hc with hc
        injection hc with _ ht'
        exact absurd ht' (by decide)) _) ht4
  rw [hlay] at hF5
  have HF5 := Lib.hid hF5
  have e45 := hF5.cells.2.2.2.2.2
  have HR5 := Lib.hid (HU5.out.rd hr hA)
  obtain ⟨W4, hW4⟩ : ∃ W4, W4 = w3.setCell ⟨p, 1, none⟩ (.slice A' m' c') := ⟨_, rfl⟩
  rw [← hW4] at HF5 HU5 e45 HR5 ⊢
  obtain ⟨iR, hiR, hr0, hr1, hr2⟩ := info_parts infoR
  have HLL := Lib.hid (show L.length ≤ 1000000000 by have := rws_length L; rw [HF1.out.raws] at this; omega)
  have hp5 := hF5.blk
  rw [← hW4] at hp5
  have HP5 := Lib.hid hp5
  have hpl4 := (Array.getElem?_eq_some_iff.1 hp5).1
  have HNV := Lib.hid (show vr.ownBlock ≠ some p from HF5.out.ne.2)
  clear hF5 hp4 hop hW4 hlay H13 H23 H33 HP3 e31 e32 hU4 ht4 hk4 hs3 H1 H2 HP2 e1 e5 ef1 HLB HU2 HXR2 hs2 HDP hcut hcc hpl HR1 hp5
  go_wp2_with fail
  have HFR5 := Lib.hid (show ∀ w5, Below W4.drew.heap.size W4.drew w5 → w5.cell? ⟨p, 5, none⟩ = some vr from fun w5 hb => (World.cell?_of_block (w := W4) (hb.block p hpl4)).trans e45)
  have e45d : W4.drew.cell? ⟨p, 5, none⟩ = some vr := e45
  go_region_law
    (first
      | (go_simp; go_at_call 36; refine (clone_any A c x _ (show Rd W4.drew A x from HR5.out) (by omega)).mono ?_; rintro e w5 ⟨vx, rfl, hx5, hb5⟩; obtain ⟨Ax, cx, rfl, hx6, hrx, _⟩ := own_split hx5; have HX5 := Lib.hid hx6; have HRX := Lib.hid hrx; have HB5 := Lib.hid hb5; have HB6 := Lib.hid hb5; have e55 := HFR5.out _ HB6.out; have e56 := HFR5.out _ (HB6.out.alloc HB6.out.size (.cells #[.int .i64 at_, .slice Ax x.length cx] 88)); clear hx5 hx6 hrx hb5)
      | (refine step_append_lies _ rfl (.tmp 54) (.tmp 59) 60 rfl 0 88 iR (.agg #[.int .i64 0, .slice none 0 0]) 2 32 Tryd.underlying60 hiR hr0 hr1 hr2 rfl (by decide) vr L.length (rwv L) (by simp [Act.eval]) (ownsRow_keep HF5.out.rw.own fun g hg hl => (Below.heap_alloc _ _ _ (Nat.lt_of_lt_of_le hl HB5.out.size)).trans (HB5.out.block g hl)) _ 1 1 [.int .i64 at_, .slice Ax x.length cx] (by simp [Act.eval]) rfl (World.news_of_block (World.alloc_heap_new _ _)) (by simp [Value.oneCell']) (by decide) (by simp only [maxLen]; have := HLL.out; omega) (by have := HLL.out; omega) (Nat.zero_le _) _ rfl ?_; intro g7 cap7 w7 hown hgrow hat hlt; have hp7 := (hgrow.block p (Nat.lt_of_lt_of_le hpl4 (by have := HB6.out.size; simp at this ⊢; omega)) (fun e => HNV.out e.symm)).trans ((HB6.out.alloc HB6.out.size _).block p hpl4 |>.trans HP5.out); have S6 := blk_cell hp7 5; have e76 := blk_frozen hp7 5; have HP7 := Lib.hid hp7; clear hp7))
  all_goals
    obtain ⟨o8, hU8, hF8⟩ := raw_end o o4 i h0 h9 p w W4 w5 w7 _ _ vr L HF5.out HU5.out Ax cx x at_ HX5.out HB5.out g7 cap7 hown hgrow hat hlt
    have HU8 := Lib.hid hU8
    have HF8 := Lib.hid hF8
    clear hU8 hF8 hown hgrow hat hlt
    go_wp2_with fail
    go_ret
    refine ⟨o8, by simp; omega, HU8.out, ?_⟩
    have e : rawF F at_ x = { F with b := layL F.b at_ x, raws := F.raws ++ [((at_ : Int), x)] } := by
      unfold rawF
      rw [if_neg (by omega), if_neg (by omega)]
    rw [e]
    exact HF8.out
theorem raw_any (o : Nat → Nat) (i : Nat) (h0 : i ≠ 0) (h9 : i ≠ 9) (p : Nat) (F : FM) (at_ : Nat) (A : Option Addr) (c : Nat) (x : List Int) (w : World) (hF : FileA w o i p F) (hfr : Fr o w) (hl1 : -9223372036854775808 ≤ F.left) (hl2 : F.left ≤ 9223372036854775807)
    (hat : at_ ≤ F.b.length) (hr : Rd w A x) (hA : 0 < x.length → ∀ a, A = some a → o a.block ≠ i) (hx : x.length ≤ 1000000) (hc : x.length ≤ c) (hbl : F.b.length ≤ 10000000) (hrl : F.raws.length ≤ 1000000000) :
    Calls Tryd.prog 40 #[.pointer (some ⟨p, 0, none⟩), .int .i64 at_, .slice A x.length c] w (RawPost o i p F at_ x w) := by
  rcases Int.lt_trichotomy F.left 0 with h | h | h
  · exact raw_neg o i h0 h9 p F at_ A c x w hF hfr h hl1 hat hr hA hx hc hbl hrl
  · exact raw_cut o i h0 h9 p F at_ A c x w hF hfr h
  · exact raw_pos o i h0 h9 p F at_ A c x w hF hfr h hl2 hat hr hA hx hc hbl hrl
end Go.Proofs.YtadmpjikkpnjnaaDoor
