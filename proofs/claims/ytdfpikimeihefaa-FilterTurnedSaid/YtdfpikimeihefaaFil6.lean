/-
  filter.Undo. No premise.
-/
import Derived.Test.YtdfpikimeihefaaFil5
namespace Go.Proofs.Ytdfpikimeihefaa
open Go.RowKit Go.Shelf Go.Proofs.YtdfpikimeihefaaW.PrintWords
attribute [local go_sem] Oper.semAt_some

theorem ud_head (w : World) : ((w.alloc (.cells #[.slice none 0 0] 28)).alloc (.cells #[.int .i64 0] 23)).heap[w.heap.size]? = some (.cells #[.slice none 0 0] 28 (0, 0)) ∧ ((w.alloc (.cells #[.slice none 0 0] 28)).alloc (.cells #[.int .i64 0] 23)).heap[w.heap.size + 1]? = some (.cells #[.int .i64 0] 23 (0, 0)) := by
  refine ⟨(Below.heap_alloc _ _ _ (by simp)).trans (World.alloc_heap_new w _), ?_⟩
  have := World.alloc_heap_new (w.alloc (.cells #[.slice none 0 0] 28)) (.cells #[.int .i64 0] 23)
  rw [World.size_alloc] at this
  exact this
/-- The two results are stored. -/
theorem ud_stored {W : World} {s : Nat} {u y : Value} (h6 : W.heap[s]? = some (.cells #[u] 28 (0, 0))) (h7 : W.heap[s + 1]? = some (.cells #[y] 23 (0, 0))) (v x : Value) :
    ((W.setCell ⟨s, 0, none⟩ v).setCell ⟨s + 1, 0, none⟩ x).heap[s]? = some (.cells #[v] 28 (0, 0)) ∧ ((W.setCell ⟨s, 0, none⟩ v).setCell ⟨s + 1, 0, none⟩ x).heap[s + 1]? = some (.cells #[x] 23 (0, 0)) := by
  have a6 := blk_set h6 0 v
  have a7 := (Below.heap_setCell W ⟨s, 0, none⟩ v (s + 1) (by simp)).trans h7
  have b7 := blk_set a7 0 x
  exact ⟨(Below.heap_setCell _ ⟨s + 1, 0, none⟩ x s (by simp)).trans a6, b7⟩
theorem blk1 {W : World} {g : Nat} {t : TypeId} {v : Value} (h : W.heap[g]? = some (.cells #[v] t (0, 0))) : W.cell? ⟨g, 0, none⟩ = some v := by
  have := blk_cell h 0
  simp only [List.getElem?_toArray, List.getElem?_cons_zero] at this
  exact this
theorem ud_round {w W w4 : World} {bx bs : Nat} {A : Option Addr} {c : Nat} {l : List Fl} {v v4 : Value} {x x' : List Int} (st : UnSt w bx bs A c l v x W) (hb : Below W.heap.size W w4) (ho : Own w4 w.heap.size v4 x') (h1 : w.heap.size + 1 < bx) (h2 : bx ≠ bs) (hR : Fls w A l) (N : Nat) :
    KeepsFrom N W (w4.setCell ⟨bx, 0, none⟩ v4) ∧ Same (bkS bs A l) W (w4.setCell ⟨bx, 0, none⟩ v4) ∧ UnSt w bx bs A c l v4 x' (w4.setCell ⟨bx, 0, none⟩ v4) := by
  refine ⟨((keeps_below hb).trans (KeepsOthers.setCell _ _ _)).from _, ?_, (st.keep hb).step ho h1 h2⟩
  rintro i (rfl | ⟨h0, ad, rfl, rfl⟩)
  · exact (Below.heap_setCell _ _ _ _ (by show i ≠ bx; omega)).trans (hb.block _ (blk_lt st.bs))
  · obtain ⟨ad', e, hc⟩ := hR.2 h0
    cases e
    have h3 := cell_lt (hc 0 h0).1
    rw [add_block] at h3
    have := st.low.size
    exact (Below.heap_setCell _ _ _ _ (by show ad.block ≠ bx; omega)).trans (hb.block _ (by omega))
theorem ud_bad {w W : World} {bx bs : Nat} {A : Option Addr} {c : Nat} {l : List Fl} {v : Value} {x : List Int} (st : UnSt w bx bs A c l v x W) (e : Int) (N : Nat) :
    KeepsFrom N W ((W.setCell ⟨w.heap.size, 0, none⟩ (.slice none 0 0)).setCell ⟨w.heap.size + 1, 0, none⟩ (.int .i64 e)) ∧
    ((W.setCell ⟨w.heap.size, 0, none⟩ (.slice none 0 0)).setCell ⟨w.heap.size + 1, 0, none⟩ (.int .i64 e)).heap[w.heap.size]? = some (.cells #[.slice none 0 0] 28 (0, 0)) ∧
    ((W.setCell ⟨w.heap.size, 0, none⟩ (.slice none 0 0)).setCell ⟨w.heap.size + 1, 0, none⟩ (.int .i64 e)).heap[w.heap.size + 1]? = some (.cells #[.int .i64 e] 23 (0, 0)) ∧
    Below w.heap.size w ((W.setCell ⟨w.heap.size, 0, none⟩ (.slice none 0 0)).setCell ⟨w.heap.size + 1, 0, none⟩ (.int .i64 e)) := by
  obtain ⟨h1, h2⟩ := ud_stored st.r6 st.r7 (.slice none 0 0) (.int .i64 e)
  exact ⟨((KeepsOthers.setCell W _ _).trans (KeepsOthers.setCell _ _ _)).from _, h1, h2, (st.low.setCell (p := ⟨w.heap.size, 0, none⟩) (Nat.le_refl _) _).setCell (p := ⟨w.heap.size + 1, 0, none⟩) (by show w.heap.size ≤ w.heap.size + 1; omega) _⟩
theorem ud_put {w W : World} {D : Nat} {u y : Value} (h6 : W.heap[w.heap.size]? = some (.cells #[u] 28 (0, 0))) (h7 : W.heap[w.heap.size + 1]? = some (.cells #[y] 23 (0, 0))) (hl : Below w.heap.size w W) (hD : w.heap.size + 1 < D) (o : Obj) :
    (W.putObj D o).cell? ⟨w.heap.size, 0, none⟩ = some u ∧ (W.putObj D o).cell? ⟨w.heap.size + 1, 0, none⟩ = some y ∧ Below w.heap.size w (W.putObj D o) := by
  refine ⟨blk1 ((World.putObj_heap_other (by omega)).trans h6), blk1 ((World.putObj_heap_other (by omega)).trans h7), ?_⟩
  exact hl.grown (grownBy_putObj' W D o) hl.size (fun k e => by cases e; omega)
theorem own_put {W : World} {B D : Nat} {u : Value} {y : List Int} (h : Own W B u y) (hK : W.heap[D]? = some (.deferred (some []))) (o : Obj) : Own (W.putObj D o) B u y := by
  refine own_other h (grownBy_putObj' W D o) ?_
  rcases h.2 with ⟨e, _⟩ | ⟨g, cap, cur, e, _, hgb, _⟩
  · exact .inl (by rw [e]; rfl)
  · refine .inr fun e' => ?_
    rw [e] at e'
    have e2 : g = D := by simpa [Value.ownBlock] using e'
    rw [e2, hK] at hgb
    cases hgb
theorem ud_done {w W : World} {bx bs : Nat} {A : Option Addr} {c : Nat} {l : List Fl} {v : Value} {x : List Int} (st : UnSt w bx bs A c l v x W) {u : Value} {y : List Int} (ho : Own W w.heap.size u y) (e : Int) {D : Nat} (hD : w.heap.size + 1 < D) (hK : W.heap[D]? = some (.deferred (some []))) (o : Obj) :
    ((W.setCell ⟨w.heap.size, 0, none⟩ u).setCell ⟨w.heap.size + 1, 0, none⟩ (.int .i64 e)).heap[D]? = some (.deferred (some [])) ∧
    (((W.setCell ⟨w.heap.size, 0, none⟩ u).setCell ⟨w.heap.size + 1, 0, none⟩ (.int .i64 e)).putObj D o).cell? ⟨w.heap.size, 0, none⟩ = some u ∧
    (((W.setCell ⟨w.heap.size, 0, none⟩ u).setCell ⟨w.heap.size + 1, 0, none⟩ (.int .i64 e)).putObj D o).cell? ⟨w.heap.size + 1, 0, none⟩ = some (.int .i64 e) ∧
    Own (((W.setCell ⟨w.heap.size, 0, none⟩ u).setCell ⟨w.heap.size + 1, 0, none⟩ (.int .i64 e)).putObj D o) w.heap.size u y ∧
    Below w.heap.size w (((W.setCell ⟨w.heap.size, 0, none⟩ u).setCell ⟨w.heap.size + 1, 0, none⟩ (.int .i64 e)).putObj D o) := by
  obtain ⟨h1, h2⟩ := ud_stored st.r6 st.r7 u (.int .i64 e)
  have hl : Below w.heap.size w ((W.setCell ⟨w.heap.size, 0, none⟩ u).setCell ⟨w.heap.size + 1, 0, none⟩ (.int .i64 e)) := (st.low.setCell (p := ⟨w.heap.size, 0, none⟩) (Nat.le_refl _) _).setCell (p := ⟨w.heap.size + 1, 0, none⟩) (by show w.heap.size ≤ w.heap.size + 1; omega) _
  have hK' : ((W.setCell ⟨w.heap.size, 0, none⟩ u).setCell ⟨w.heap.size + 1, 0, none⟩ (.int .i64 e)).heap[D]? = some (.deferred (some [])) :=
    ((Below.heap_setCell _ ⟨w.heap.size + 1, 0, none⟩ _ D (by show D ≠ w.heap.size + 1; omega)).trans (Below.heap_setCell _ ⟨w.heap.size, 0, none⟩ _ D (by show D ≠ w.heap.size; omega))).trans hK
  obtain ⟨a1, a2, a3⟩ := ud_put h1 h2 hl hD o
  have o1 := own_setCell (p := ⟨w.heap.size, 0, none⟩) ho (own_ne ho st.r6 (by decide)) u
  have e7 : (W.setCell ⟨w.heap.size, 0, none⟩ u).heap[w.heap.size + 1]? = some (.cells #[.int .i64 0] 23 (0, 0)) := (Below.heap_setCell W ⟨w.heap.size, 0, none⟩ u (w.heap.size + 1) (by simp)).trans st.r7
  have o2 := own_setCell (p := ⟨w.heap.size + 1, 0, none⟩) o1 (own_ne o1 e7 (by decide)) (.int .i64 e)
  exact ⟨hK', a1, a2, own_put o2 hK' o, a3⟩
set_option maxRecDepth 100000 in
set_option maxHeartbeats 6400000 in
theorem undo_any (A : Option Addr) (c : Nat) (l : List Fl) (B : Option Addr) (cb : Nat) (b : List Int) (n : Int) (w : World) (hr : Fls w A l) (hrb : Rd w B b) (hb : Bts b) (hl : b.length ≤ 100000) :
    Calls Try.prog 18 #[.slice A l.length c, .slice B b.length cb, .int .i64 n] w (UdPost w l b n) := by
  have HR := Lib.hid hr
  have HRB := Lib.hid hrb
  have HBt := Lib.hid hb
  clear hr hrb hb
  obtain ⟨ck, hck⟩ : ∃ ck, ck = fck l := ⟨_, rfl⟩
  have HCK := Lib.hid hck
  clear hck
  refine (callsIn_wide (n := 6)).1 ?_
  refine callsIn_of_wp_marks Try.func18 rfl trivial ?_ rfl
  simp only [Try.ntmps18, List.size_toArray, List.length_cons, List.length_nil, Nat.reduceAdd, Nat.reduceSub, Array.replicate_succ, Array.replicate_zero, List.push_toArray, List.append_toArray, List.nil_append, List.cons_append]
  gi_wp2
  refine ⟨trivial, ?_⟩
  gi_at_call 10
  have hB0 : Below w.heap.size w ((w.alloc (.cells #[.slice none 0 0] 28)).alloc (.cells #[.int .i64 0] 23)) := ((Below.refl _ w).alloc (Nat.le_refl _) _).alloc (by simp) _
  refine (callsIn_wide.2 (check_any A c l _ (HR.out.below hB0))).mono ?_
  rintro e w1 ⟨rfl, hb1⟩
  rw [← HCK.out]
  obtain ⟨e6, e7⟩ := ud_head w
  have e6' := (hb1.block _ (by simp; omega)).trans e6
  have e7' := (hb1.block _ (by simp)).trans e7
  have HE6 := Lib.hid e6'
  have HE7 := Lib.hid e7'
  have HB1 := Lib.hid (hB0.trans (hb1.mono (by simp; omega)))
  have c6 := blk_cell e6' 0
  have f6 := blk_frozen e6' 0
  have c7 := blk_cell e7' 0
  have f7 := blk_frozen e7' 0
  simp only [List.getElem?_toArray, List.getElem?_cons_zero] at c6 c7
  clear hB0 hb1 e6 e7 e6' e7'
  by_cases hck : ck = 0
  · subst hck
    by_cases hn1 : n < 0
    · have HE := Lib.hid (show udR l b n = ([], 2) by unfold udR; rw [if_neg (by rw [← HCK.out]; decide), if_pos (.inl hn1)])
      gi_wp2
      obtain ⟨g6, g7⟩ := ud_stored HE6.out HE7.out (.slice none 0 0) (.int .i64 2)
      exact ⟨_, ud_res rfl rfl (blk1 g6) (blk1 g7), _, by rw [HE.out], by rw [HE.out]; exact World.ownsRow_nil _ _ _ _, (HB1.out.setCell (p := ⟨w.heap.size, 0, none⟩) (Nat.le_refl _) _).setCell (p := ⟨w.heap.size + 1, 0, none⟩) (by show w.heap.size ≤ w.heap.size + 1; omega) _⟩
    · by_cases hn2 : 4096 < n
      · have HE := Lib.hid (show udR l b n = ([], 2) by unfold udR; rw [if_neg (by rw [← HCK.out]; decide), if_pos (.inr hn2)])
        gi_wp2
        obtain ⟨g6, g7⟩ := ud_stored HE6.out HE7.out (.slice none 0 0) (.int .i64 2)
        exact ⟨_, ud_res rfl rfl (blk1 g6) (blk1 g7), _, by rw [HE.out], by rw [HE.out]; exact World.ownsRow_nil _ _ _ _, (HB1.out.setCell (p := ⟨w.heap.size, 0, none⟩) (Nat.le_refl _) _).setCell (p := ⟨w.heap.size + 1, 0, none⟩) (by show w.heap.size ≤ w.heap.size + 1; omega) _⟩
      · have HE := Lib.hid (show udR l b n = fin (und l.reverse b) n by unfold udR; rw [if_neg (by rw [← HCK.out]; decide), if_neg (by omega)])
        have HOK := Lib.hid (fun k hk => (ok_at HCK.out.symm (k := k) hk).1)
        have hf4 := fck_few HCK.out.symm
        gi_wp2
        refine ⟨trivial, ?_⟩
        gi_at_call 21
        refine (callsIn_wide.2 (clone_any B cb b _ (HRB.out.below HB1.out) (by omega))).mono ?_
        rintro e w2 ⟨v0, rfl, ho, hb2⟩
        have HE6' := Lib.hid ((hb2.block _ (by have := HB1.out.size; have := blk_lt HE6.out; omega)).trans HE6.out)
        have HE7' := Lib.hid ((hb2.block _ (by have := blk_lt HE7.out; omega)).trans HE7.out)
        have HO := Lib.hid (own_weaken ho HB1.out.size)
        have HB2 := Lib.hid (HB1.out.trans (hb2.mono HB1.out.size))
        obtain ⟨Ax, cx, rfl, _, _, _⟩ := own_split ho
        clear ho hb2 c6 f6 c7 f7
        gi_wp2
        refine ⟨trivial, ?_⟩
        gi_at_call 26
        refine (callsIn_wide.2 (backward_any A l.length c _)).mono ?_
        rintro e w3 ⟨rfl, rfl⟩
        gi_wp2
        obtain ⟨bx, hbx⟩ : ∃ bx, bx = w2.heap.size := ⟨_, rfl⟩
        have hbx1 : w.heap.size + 1 < bx := by have := blk_lt HE7'.out; omega
        obtain ⟨W3, hW3⟩ : ∃ W3, W3 = (w2.alloc (.cells #[.slice Ax b.length cx] 28)).alloc (.cells #[.slice A l.length c] 22) := ⟨_, rfl⟩
        have hs3 : W3.heap.size = bx + 2 := by rw [hW3, hbx]; simp
        have hB23 : Below w2.heap.size w2 W3 := by rw [hW3]; exact ((Below.refl _ _).alloc (Nat.le_refl _) _).alloc (by simp) _
        have hX3 : W3.heap[bx]? = some (.cells #[.slice Ax b.length cx] 28 (0, 0)) := by
          rw [hW3, hbx]
          exact (Below.heap_alloc _ _ _ (by simp)).trans (World.alloc_heap_new w2 _)
        have hS3 : W3.heap[bx + 1]? = some (.cells #[.slice A l.length c] 22 (0, 0)) := by
          have := World.alloc_heap_new (w2.alloc (.cells #[.slice Ax b.length cx] 28)) (.cells #[.slice A l.length c] 22)
          rw [World.size_alloc] at this
          rw [hW3, hbx]
          exact this
        have hst : UnSt w bx (bx + 1) A c l (.slice Ax b.length cx) b W3 := ⟨(hB23.block _ (blk_lt HE6'.out)).trans HE6'.out, (hB23.block _ (blk_lt HE7'.out)).trans HE7'.out, hX3, hS3, own_step HO.out hB23, HB2.out.trans (hB23.mono HB2.out.size)⟩
        rw [← hW3, ← hbx]
        clear hW3 hbx hB23 hX3
        have HST := Lib.hid hst
        have HS3 := Lib.hid hS3
        have HR3 := Lib.hid (HR.out.below hst.low)
        have hlow3 := hst.low.size
        clear hst hS3
        refine rangeA rfl (by omega) (gf := 48) (lb := #[.pointer (some ⟨bx + 1, 0, none⟩)]) rfl trivial (enters_of Try.func48 (by kernel_rfl) rfl)
          (backward_seq Fence.wide 5 trivial rfl (by omega) (bx + 1) A c l W3 HR3.out HS3.out)
          ?hS (fun i h => h.elim) (fun h k => h.trans k) ?hKb (fun _ => rfl)
          (fun k W => ∃ v x, UnSt w bx (bx + 1) A c l v x W ∧ und (l.reverse.drop k) x = und l.reverse b ∧ x.length ≤ 100000 ∧ Bts x)
          (fun cd _ W => cd = Code.ret ∧ W.heap[w.heap.size]? = some (.cells #[.slice none 0 0] 28 (0, 0)) ∧ W.heap[w.heap.size + 1]? = some (.cells #[.int .i64 5] 23 (0, 0)) ∧ Below w.heap.size w W ∧ und l.reverse b = ([], 5))
          ?inv ?invx ⟨_, b, HST.out, rfl, hl, HBt.out⟩
          (BoxAx W3 (fun k ptr => #[.slice A l.length c, .slice B b.length cb, .int .i64 n, undef, undef, undef, .pointer (some ⟨w.heap.size, 0, none⟩), .pointer (some ⟨w.heap.size + 1, 0, none⟩), .int .i64 0, .pointer (some ⟨bx, 0, none⟩), undef, ptr, undef, undef, undef, .slice A l.length c, .int .i64 0, .int .i64 0, .bool false, undef, .int .i64 n, .bool (decide (n < 0)), .bool (decide (n < 0)), .int .i64 n, .bool (decide (4096 < n)), .bool (decide (n < 0) || decide (4096 < n)), .slice B b.length cb, .slice Ax b.length cx, .slice A l.length c, .func (.func 48) #[] #[.pointer (some ⟨bx + 1, 0, none⟩)], .int .i64 ((l.length - 1 - k : Nat) : Int), .agg #[.int .i64 (bkF l k).1, .int .i64 (bkF l k).2], undef, undef, undef, undef, undef, undef, undef, undef, undef, undef, undef, undef, undef, undef, undef, undef, undef, undef, undef]) (fun k => #[.int .i64 (bkF l k).1, .int .i64 (bkF l k).2]) 43)
          (BoxAx.aby _ _ _ _) ?assign ?body ?done ?stop
        case hS =>
          rintro i (rfl | ⟨h0, ad, rfl, rfl⟩)
          · omega
          · obtain ⟨ad', e, hc⟩ := HR3.out.2 h0
            cases e
            have h3 := cell_lt (hc 0 h0).1
            rwa [add_block] at h3
        case hKb =>
          intro N W L o o' hL _ _ _ _ i hi
          refine World.putObj_heap_other ?_
          rcases hi with rfl | ⟨h0, ad, rfl, rfl⟩
          · omega
          · obtain ⟨ad', e, hc⟩ := HR3.out.2 h0
            cases e
            have h3 := cell_lt (hc 0 h0).1
            rw [add_block] at h3
            omega
        case inv =>
          rintro k X Y row ⟨v, x, h1, h2⟩ hg ht
          refine ⟨v, x, h1.turn hg (fun r e => ?_), h2⟩
          rcases ht r e with h | ⟨h, ho⟩
          · exact h.elim
          · exact ⟨by omega, ho⟩
        case invx =>
          rintro cd k X Y row ⟨h0, h1, h2, h3, h4⟩ hg ht
          have hr : ∀ r, row = some r → w.heap.size ≤ r ∧ ∃ ob : Obj, X.heap[r]? = some ob ∧ ob.isCells = false := fun r e => by
            rcases ht r e with h | ⟨h, ho⟩
            · exact h.elim
            · exact ⟨by omega, ho⟩
          exact ⟨h0, (grownBy_keeps_cells hg (fun r e => (hr r e).2) h1 rfl).trans h1, (grownBy_keeps_cells hg (fun r e => (hr r e).2) h2 rfl).trans h2, h3.grown hg h3.size (fun k e => (hr k e).1), h4⟩
        case assign =>
          rintro L k W K hk ⟨v, x, h1, h2⟩ hK
          have hws := blk_lt h1.bs
          unfold bkv
          gi_wp2
          refine hK _ _ ((KeepsOthers.alloc W _).from _) (fun i hi => Below.heap_alloc _ _ _ ?_) ⟨v, x, h1.keep ((Below.refl _ W).alloc (Nat.le_refl _) _), h2⟩ ⟨W.heap.size, rfl, by omega, World.alloc_heap_new W _⟩
          rcases hi with rfl | ⟨h0, ad, rfl, rfl⟩
          · exact hws
          · obtain ⟨ad', e, hc⟩ := HR3.out.2 h0
            cases e
            have h3 := cell_lt (hc 0 h0).1
            rw [add_block] at h3
            omega
        case body =>
          rintro L k a' W hk ⟨v, x, hst, hun, hxl, hxb⟩ ⟨p, rfl, hp, hcell0⟩
          show Code.wpIn _ _ _ _ _ { tmps := #[.slice A l.length c, .slice B b.length cb, .int .i64 n, undef, undef, undef, .pointer (some ⟨w.heap.size, 0, none⟩), .pointer (some ⟨w.heap.size + 1, 0, none⟩), .int .i64 0, .pointer (some ⟨bx, 0, none⟩), undef, .pointer (some ⟨p, 0, none⟩), undef, undef, undef, .slice A l.length c, .int .i64 0, .int .i64 0, .bool false, undef, .int .i64 n, .bool (decide (n < 0)), .bool (decide (n < 0)), .int .i64 n, .bool (decide (4096 < n)), .bool (decide (n < 0) || decide (4096 < n)), .slice B b.length cb, .slice Ax b.length cx, .slice A l.length c, .func (.func 48) #[] #[.pointer (some ⟨bx + 1, 0, none⟩)], .int .i64 ((l.length - 1 - k : Nat) : Int), .agg #[.int .i64 (bkF l k).1, .int .i64 (bkF l k).2], undef, undef, undef, undef, undef, undef, undef, undef, undef, undef, undef, undef, undef, undef, undef, undef, undef, undef, undef], defers := [] } W
          have hcell1 : W.heap[p]? = some (.cells #[.int .i64 (bkF l k).1, .int .i64 (bkF l k).2] 43 (0, 0)) := hcell0
          have hok : okF (bkF l k) = true := HOK.out _ (by omega)
          have hon := und_on hk hun
          have hoff := und_off hk hun
          obtain ⟨f, hf⟩ : ∃ f, f = bkF l k := ⟨_, rfl⟩
          rw [← hf] at hok hcell1 hon hoff ⊢
          obtain ⟨kk, d⟩ := f
          simp only at hcell1
          have hc0 := blk_cell hcell1 0
          have hc1 := blk_cell hcell1 1
          simp only [List.getElem?_toArray, List.getElem?_cons_zero, List.getElem?_cons_succ] at hc0 hc1
          obtain ⟨Ay, cy, rfl, _, hry, hcy⟩ := own_split hst.own
          obtain ⟨ix, hix⟩ : ∃ ix : Int, ix = ((l.length - 1 - k : Nat) : Int) := ⟨_, rfl⟩
          rw [← hix]
          have hcx0 := blk1 hst.bx
          have HX := Lib.hid (show Rd W Ay x from hry)
          have HFK := Lib.hid hok
          have HON := Lib.hid hon
          have HOFF := Lib.hid hoff
          have HXB := Lib.hid hxb
          have HU0 := Lib.hid hst
          clear hst hun hxb hcell0 hcell1 hok hon hoff hf hix hry
          by_cases h1 : kk = 1
          · subst h1
            have hd : 1 ≤ d ∧ d ≤ 8 := by have := okF_iff.1 HFK.out; simp only at this; omega
            have hE0 : mxE d = 0 := by unfold mxE; rw [if_pos hd]
            have HU := Lib.hid (show un1 (1, d) x = (mxL unshL d x, 0) by simp [un1, hE0])
            gi_wp2
            refine ⟨trivial, ?_⟩
            gi_at_call 20
            refine (callsIn_wide.2 (fiFind1_any d _)).mono ?_
            rintro e w3 ⟨rfl, hb3, hcell, hsz3⟩
            obtain ⟨w3', hw3'⟩ : ∃ w3', w3' = w3.alloc (.cells #[.func (.func 30) #[] #[.pointer (some ⟨W.heap.size, 0, none⟩)], .func (.func 32) #[] #[.pointer (some ⟨W.heap.size, 0, none⟩)]] 48) := ⟨_, rfl⟩
            have hb3' : Below W.heap.size W w3' := by rw [hw3']; exact hb3.alloc hb3.size _
            have st3 := HU0.out.keep hb3'
            have c9 := blk1 st3.bx
            have hr3 : Rd w3' Ay x := HX.out.below hb3'
            have hc3 : w3'.cell? ⟨W.heap.size, 0 + 1, none⟩ = some (.int .i64 d) := by
              rw [hw3']
              exact (((Below.refl _ w3).alloc (Nat.le_refl _) _).cell (p := ⟨W.heap.size, 1, none⟩) (by show W.heap.size < w3.heap.size; omega)).trans hcell
            have HC3 := Lib.hid hc3
            clear hc3
            have HB3 := Lib.hid hb3'
            have HR3' := Lib.hid hr3
            rw [hw3'] at c9
            have HW3 := Lib.hid hw3'
            clear hb3 hcell hsz3 hb3' hr3 st3 hw3' hcx0
            gi_wp2
            rw [← HW3.out]
            clear c9
            refine ⟨trivial, ?_⟩
            gi_at_call 32
            refine (callsIn_wide.2 (un_shuf W.heap.size 0 d Ay cy x _ HC3.out HR3'.out HXB.out hcy (by omega))).mono ?_
            rintro e w4 ⟨v4, rfl, ho4, hb4⟩
            obtain ⟨A4, ca4, rfl, _, _, _⟩ := own_split ho4
            rw [hE0]
            have hb4' := HB3.out.trans (hb4.mono HB3.out.size)
            have ho4' : Own w4 w.heap.size _ (mxL unshL d x) := own_weaken ho4 (by have := HB3.out.size; have := HU0.out.low.size; omega)
            have c4 := blk1 (HU0.out.keep hb4').bx
            have f4 := blk_frozen (HU0.out.keep hb4').bx 0
            have hrd := ud_round HU0.out hb4' ho4' hbx1 (by omega) HR.out W3.heap.size
            have HRD := Lib.hid hrd
            clear hb4 ho4 hb4' ho4' hrd
            gi_wp2
            exact ⟨HRD.out.1, HRD.out.2.1, _, _, HRD.out.2.2, by have := HON.out (by rw [HU.out]); rw [HU.out] at this; exact this, by have := un1_len (1, d) x hxl; rw [HU.out] at this; exact this, by have := un1_bts' (1, d) HXB.out; rw [HU.out] at this; exact this⟩
          by_cases h2 : kk = 2
          · subst h2
            have hd : 1 ≤ d ∧ d ≤ 8 := by have := okF_iff.1 HFK.out; simp only at this; omega
            have hE0 : mxE d = 0 := by unfold mxE; rw [if_pos hd]
            have HU := Lib.hid (show un1 (2, d) x = (mxL undelL d x, 0) by simp [un1, hE0])
            gi_wp2
            refine ⟨trivial, ?_⟩
            gi_at_call 20
            refine (callsIn_wide.2 (fiFind2_any d _)).mono ?_
            rintro e w3 ⟨rfl, hb3, hcell, hsz3⟩
            obtain ⟨w3', hw3'⟩ : ∃ w3', w3' = w3.alloc (.cells #[.func (.func 34) #[] #[.pointer (some ⟨W.heap.size, 0, none⟩)], .func (.func 36) #[] #[.pointer (some ⟨W.heap.size, 0, none⟩)]] 48) := ⟨_, rfl⟩
            have hb3' : Below W.heap.size W w3' := by rw [hw3']; exact hb3.alloc hb3.size _
            have st3 := HU0.out.keep hb3'
            have c9 := blk1 st3.bx
            have hr3 : Rd w3' Ay x := HX.out.below hb3'
            have hc3 : w3'.cell? ⟨W.heap.size, 0 + 1, none⟩ = some (.int .i64 d) := by
              rw [hw3']
              exact (((Below.refl _ w3).alloc (Nat.le_refl _) _).cell (p := ⟨W.heap.size, 1, none⟩) (by show W.heap.size < w3.heap.size; omega)).trans hcell
            have HC3 := Lib.hid hc3
            clear hc3
            have HB3 := Lib.hid hb3'
            have HR3' := Lib.hid hr3
            rw [hw3'] at c9
            have HW3 := Lib.hid hw3'
            clear hb3 hcell hsz3 hb3' hr3 st3 hw3' hcx0
            gi_wp2
            rw [← HW3.out]
            clear c9
            refine ⟨trivial, ?_⟩
            gi_at_call 36
            refine (callsIn_wide.2 (un_delta W.heap.size 0 d Ay cy x _ HC3.out HR3'.out HXB.out hcy (by omega))).mono ?_
            rintro e w4 ⟨v4, rfl, ho4, hb4⟩
            obtain ⟨A4, ca4, rfl, _, _, _⟩ := own_split ho4
            rw [hE0]
            have hb4' := HB3.out.trans (hb4.mono HB3.out.size)
            have ho4' : Own w4 w.heap.size _ (mxL undelL d x) := own_weaken ho4 (by have := HB3.out.size; have := HU0.out.low.size; omega)
            have c4 := blk1 (HU0.out.keep hb4').bx
            have f4 := blk_frozen (HU0.out.keep hb4').bx 0
            have hrd := ud_round HU0.out hb4' ho4' hbx1 (by omega) HR.out W3.heap.size
            have HRD := Lib.hid hrd
            clear hb4 ho4 hb4' ho4' hrd
            gi_wp2
            exact ⟨HRD.out.1, HRD.out.2.1, _, _, HRD.out.2.2, by have := HON.out (by rw [HU.out]); rw [HU.out] at this; exact this, by have := un1_len (2, d) x hxl; rw [HU.out] at this; exact this, by have := un1_bts' (2, d) HXB.out; rw [HU.out] at this; exact this⟩
          by_cases h3 : kk = 3
          · subst h3
            obtain rfl : d = 0 := by have := okF_iff.1 HFK.out; simp only at this; omega
            gi_wp2
            refine ⟨trivial, ?_⟩
            gi_at_call 20
            refine (callsIn_wide.2 (fiFind3_any 0 _)).mono ?_
            rintro e w3 ⟨rfl, hb3, hcell, hsz3⟩
            obtain ⟨w3', hw3'⟩ : ∃ w3', w3' = w3.alloc (.cells #[.func (.func 38) #[] #[], .func (.func 39) #[] #[]] 48) := ⟨_, rfl⟩
            have hb3' : Below W.heap.size W w3' := by rw [hw3']; exact hb3.alloc hb3.size _
            have st3 := HU0.out.keep hb3'
            have c9 := blk1 st3.bx
            have hr3 : Rd w3' Ay x := HX.out.below hb3'
            have HB3 := Lib.hid hb3'
            have HR3' := Lib.hid hr3
            rw [hw3'] at c9
            have HW3 := Lib.hid hw3'
            clear hb3 hcell hsz3 hb3' hr3 st3 hw3' hcx0
            gi_wp2
            rw [← HW3.out]
            clear c9
            refine ⟨trivial, ?_⟩
            gi_at_call 39
            refine (callsIn_wide.2 (un_match Ay cy x _ HR3'.out HXB.out hcy (by omega))).mono ?_
            have hU0 : un1 (3, 0) x = upk x 65536 := by simp [un1]
            rintro e w4 ⟨v4, rfl, ho4, hb4⟩
            obtain ⟨A4, ca4, rfl, _, _, _⟩ := own_split ho4
            have hb4' := HB3.out.trans (hb4.mono HB3.out.size)
            have ho4' : Own w4 w.heap.size _ (upk x 65536).1 := own_weaken ho4 (by have := HB3.out.size; have := HU0.out.low.size; omega)
            by_cases he : (upk x 65536).2 = 0
            · rw [he]
              have c4 := blk1 (HU0.out.keep hb4').bx
              have f4 := blk_frozen (HU0.out.keep hb4').bx 0
              have hrd := ud_round HU0.out hb4' ho4' hbx1 (by omega) HR.out W3.heap.size
              have HRD := Lib.hid hrd
              clear hb4 ho4 hb4' ho4' hrd
              gi_wp2
              exact ⟨HRD.out.1, HRD.out.2.1, _, _, HRD.out.2.2, by have := HON.out (by rw [hU0]; exact he); rw [hU0] at this; exact this, by have := un1_len (3, 0) x hxl; rw [hU0] at this; exact this, by have := un1_bts' (3, 0) HXB.out; rw [hU0] at this; exact this⟩
            · obtain ⟨er, her⟩ : ∃ er, er = (upk x 65536).2 := ⟨_, rfl⟩
              rw [← her]
              have he0 : er ≠ 0 := by rw [her]; exact he
              have c4 := blk1 (HU0.out.keep hb4').bx
              have f4 := blk_frozen (HU0.out.keep hb4').bx 0
              have hrd := ud_round HU0.out hb4' ho4' hbx1 (by omega) HR.out W3.heap.size
              have c6 := blk1 hrd.2.2.r6
              have c7 := blk1 hrd.2.2.r7
              have f6 := blk_frozen hrd.2.2.r6 0
              have f7 := blk_frozen hrd.2.2.r7 0
              have hbd := ud_bad hrd.2.2 5 W3.heap.size
              have HRD := Lib.hid hrd
              have HBD := Lib.hid hbd
              clear hb4 ho4 hb4' ho4' hrd hbd
              gi_wp2
              exact ⟨HRD.out.1.trans HBD.out.1, rfl, HBD.out.2.1, HBD.out.2.2.1, HBD.out.2.2.2, HOFF.out (by rw [hU0]; exact he)⟩
          have h4 : kk = 4 := by have := okF_iff.1 HFK.out; simp only at this; omega
          subst h4
          obtain rfl : d = 0 := by have := okF_iff.1 HFK.out; simp only at this; omega
          gi_wp2
          refine ⟨trivial, ?_⟩
          gi_at_call 20
          refine (callsIn_wide.2 (fiFind4_any 0 _)).mono ?_
          rintro e w3 ⟨rfl, hb3, hcell, hsz3⟩
          obtain ⟨w3', hw3'⟩ : ∃ w3', w3' = w3.alloc (.cells #[.func (.func 41) #[] #[], .func (.func 42) #[] #[]] 48) := ⟨_, rfl⟩
          have hb3' : Below W.heap.size W w3' := by rw [hw3']; exact hb3.alloc hb3.size _
          have st3 := HU0.out.keep hb3'
          have c9 := blk1 st3.bx
          have hr3 : Rd w3' Ay x := HX.out.below hb3'
          have HB3 := Lib.hid hb3'
          have HR3' := Lib.hid hr3
          rw [hw3'] at c9
          have HW3 := Lib.hid hw3'
          clear hb3 hcell hsz3 hb3' hr3 st3 hw3' hcx0
          gi_wp2
          rw [← HW3.out]
          clear c9
          refine ⟨trivial, ?_⟩
          gi_at_call 42
          refine (callsIn_wide.2 (fiUnseal_any Ay cy x _ HR3'.out HXB.out hcy (by omega))).mono ?_
          have hU0 : un1 (4, 0) x = usF x := by simp [un1]
          rintro e w4 ⟨⟨v4, rfl, hy, hn⟩, hb4⟩
          have hb4' := HB3.out.trans (hb4.mono HB3.out.size)
          by_cases he : (usF x).2 = 0
          · rw [he]
            obtain ⟨rfl, hx1, hx0⟩ := hy he
            have hlt4 : (x.take (x.length - 4)).length = x.length - 4 := by rw [List.length_take]; omega
            have ho4' : Own w4 w.heap.size (.slice Ay (x.length - 4) cy) (x.take (x.length - 4)) := by have := own_cut (HU0.out.keep hb4').own (x.length - 4) (by omega) hx0; rwa [hlt4] at this
            clear hy hn hlt4
            have c4 := blk1 (HU0.out.keep hb4').bx
            have f4 := blk_frozen (HU0.out.keep hb4').bx 0
            have hrd := ud_round HU0.out hb4' ho4' hbx1 (by omega) HR.out W3.heap.size
            have HRD := Lib.hid hrd
            clear hb4 hb4' ho4' hrd
            gi_wp2
            exact ⟨HRD.out.1, HRD.out.2.1, _, _, HRD.out.2.2, by have := HON.out (by rw [hU0]; exact he); rw [hU0, hx1] at this; exact this, by have := un1_len (4, 0) x hxl; rw [hU0, hx1] at this; exact this, by have := un1_bts' (4, 0) HXB.out; rw [hU0, hx1] at this; exact this⟩
          · obtain rfl := hn he
            obtain ⟨er, her⟩ : ∃ er, er = (usF x).2 := ⟨_, rfl⟩
            rw [← her]
            have he0 : er ≠ 0 := by rw [her]; exact he
            clear hy hn
            have c4 := blk1 (HU0.out.keep hb4').bx
            have f4 := blk_frozen (HU0.out.keep hb4').bx 0
            have hrd := ud_round (v4 := .slice none 0 0) (x' := []) HU0.out hb4' (World.ownsRow_nil _ _ _ _) hbx1 (by omega) HR.out W3.heap.size
            have c6 := blk1 hrd.2.2.r6
            have c7 := blk1 hrd.2.2.r7
            have f6 := blk_frozen hrd.2.2.r6 0
            have f7 := blk_frozen hrd.2.2.r7 0
            have hbd := ud_bad hrd.2.2 5 W3.heap.size
            have HRD := Lib.hid hrd
            have HBD := Lib.hid hbd
            clear hb4 hb4' hrd hbd
            gi_wp2
            exact ⟨HRD.out.1.trans HBD.out.1, rfl, HBD.out.2.1, HBD.out.2.2.1, HBD.out.2.2.2, HOFF.out (by rw [hU0]; exact he)⟩
        case done =>
          rintro D W hD ⟨v, x, hst, hun, hxl, hxb⟩ hK
          have hun2 := und_fin hun
          have c9 := blk1 hst.bx
          have c6 := blk1 hst.r6
          have f6 := blk_frozen hst.r6 0
          have c7 := blk1 hst.r7
          have f7 := blk_frozen hst.r7 0
          obtain ⟨Ay, cy, rfl, hoy, _, _⟩ := own_split hst.own
          by_cases hxn : (x.length : Int) = n
          · have HE2 := Lib.hid (show udR l b n = (x, 0) by rw [HE.out, hun2]; unfold fin; rw [if_pos rfl, if_pos hxn])
            have HDN := Lib.hid (fun o => ud_done hst hoy 0 (show w.heap.size + 1 < D by omega) hK o)
            clear hun hun2 hst hoy hK
            gi_wp2
            refine ⟨by simp, .inl ⟨_, _, rfl, run_takeDeferred (HDN.out (.deferred none)).1, ?_⟩⟩
            exact ⟨_, ud_res rfl rfl (HDN.out _).2.1 (HDN.out _).2.2.1, _, by rw [HE2.out], by rw [HE2.out]; exact (HDN.out _).2.2.2.1, (HDN.out _).2.2.2.2⟩
          · have HE2 := Lib.hid (show udR l b n = ([], 5) by rw [HE.out, hun2]; unfold fin; rw [if_pos rfl, if_neg hxn])
            have HDN := Lib.hid (fun o => ud_done (u := .slice none 0 0) (y := []) hst (World.ownsRow_nil _ _ _ _) 5 (show w.heap.size + 1 < D by omega) hK o)
            clear hun hun2 hst hoy hK
            gi_wp2
            refine ⟨by simp, .inl ⟨_, _, rfl, run_takeDeferred (HDN.out (.deferred none)).1, ?_⟩⟩
            exact ⟨_, ud_res rfl rfl (HDN.out _).2.1 (HDN.out _).2.2.1, _, by rw [HE2.out], by rw [HE2.out]; exact (HDN.out _).2.2.2.1, (HDN.out _).2.2.2.2⟩
        case stop =>
          rintro D cd k W hD hk ⟨rfl, h6, h7, hlow, hoff⟩ hK
          have HE2 := Lib.hid (show udR l b n = ([], 5) by rw [HE.out, hoff]; unfold fin; rw [if_neg (by decide)])
          have HP := Lib.hid (ud_put h6 h7 hlow (show w.heap.size + 1 < D by omega) (.deferred none))
          have HK := Lib.hid hK
          clear h6 h7 hoff hK
          gi_wp2
          refine ⟨by simp, .inl ⟨_, _, rfl, run_takeDeferred HK.out, ?_⟩⟩
          exact ⟨_, ud_res rfl rfl HP.out.1 HP.out.2.1, _, by rw [HE2.out], by rw [HE2.out]; exact World.ownsRow_nil _ _ _ _, HP.out.2.2⟩
  · have HE := Lib.hid (show udR l b n = ([], ck) by unfold udR; rw [if_pos (by rw [← HCK.out]; exact hck), HCK.out])
    gi_wp2
    obtain ⟨g6, g7⟩ := ud_stored HE6.out HE7.out (.slice none 0 0) (.int .i64 ck)
    exact ⟨_, ud_res rfl rfl (blk1 g6) (blk1 g7), _, by rw [HE.out], by rw [HE.out]; exact World.ownsRow_nil _ _ _ _, (HB1.out.setCell (p := ⟨w.heap.size, 0, none⟩) (Nat.le_refl _) _).setCell (p := ⟨w.heap.size + 1, 0, none⟩) (by show w.heap.size ≤ w.heap.size + 1; omega) _⟩
end Go.Proofs.Ytdfpikimeihefaa
