/-
  match.tokens' inner function: the bytes that wait are told by runs. No premise.
-/
import Derived.Test.YtdfpikimeihefaaMat1
import Derived.Test.YtdfpikimeihefaaChnI
namespace Go.Proofs.Ytdfpikimeihefaa
open Go.RowKit Go.Shelf Go.Proofs.YtdfpikimeihefaaW.PrintWords
attribute [local go_sem] Oper.semAt_some

/-- append(v, ys...) within a fence. -/
theorem appIn {F : Fence} {n : Nat} {ops : Array Oper} {rest : List Oper} {o : Oper} {a : Act} {Q : Exit → Act → World → Prop} {W : World} (base : Nat) (hgd : o.guard = none) (s x : Operand)
    (ho : o.op = .call { callee := .builtin .append, args := #[s, x], argTypes := #[28, 28] })
    (v : Value) (xs ys : List Int) (ad : Addr) (c : Nat) (hs : a.eval s = v) (hx : a.eval x = .slice (some ad) ys.length c) (HO : Own W base v xs) (HR : Rd W (some ad) ys) (hbase : base ≤ W.heap.size)
    (hl : xs.length + ys.length ≤ 140000000000000)
    (h : ∀ v1 w1, Own w1 base v1 (xs ++ ys) → W.grownBy w1 v.ownBlock → wpListIn F n Try.prog ops Q rest (a.put o.dst v1) w1) :
    wpListIn F n Try.prog ops Q (o :: rest) a W := by
  obtain ⟨i0, hi, hz0, hz1, hz2⟩ := info_parts infoB
  have hcells : ∀ j u, (nums .u8 ys)[j]? = some u → W.cell? (ad.add j) = some u := by
    intro j u hu
    have hj : j < ys.length := by
      have := (List.getElem?_eq_some_iff.1 hu).1
      rwa [nums_length] at this
    rw [rd_cell HR j hj, ← hu]
    simp [nums, rdI, List.getD_eq_getElem?_getD, List.getElem?_eq_getElem hj]
  refine wpListIn_append_own W hgd s x 28 ho base 5 i0 (.int .u8 0) 1 1 Try.underlying28 hi hz0 hz1 hz2 rfl (by decide) v xs.length (nums .u8 xs) hs HO ad ys.length c (nums .u8 ys) hx (by simp [nums]) hcells
    (by intro u hu; simp only [nums, List.mem_map] at hu; obtain ⟨q, _, rfl⟩ := hu; rfl) (by simp only [maxLen]; omega) (by omega) hbase ?_
  intro v' w' h2 h3 _
  refine h v' w' ?_ h3
  unfold Own
  rw [List.length_append, nums_append]
  exact h2
theorem app1In {F : Fence} {n : Nat} {ops : Array Oper} {rest : List Oper} {o : Oper} {a : Act} {Q : Exit → Act → World → Prop} {W : World} (base : Nat) (hgd : o.guard = none) (s x : Operand)
    (ho : o.op = .call { callee := .builtin .append, args := #[s, x], argTypes := #[28, 28] })
    (v : Value) (xs : List Int) (y : Int) (hs : a.eval s = v) (hx : a.eval x = .slice (some ⟨W.heap.size, 0, none⟩) 1 1) (HO : Own W base v xs) (hbase : base ≤ W.heap.size)
    (hl : xs.length + 1 ≤ 140000000000000)
    (h : ∀ v1 w1, Own w1 base v1 (xs ++ [y]) → W.grownBy w1 v.ownBlock → wpListIn F n Try.prog ops Q rest (a.put o.dst v1) w1) :
    wpListIn F n Try.prog ops Q (o :: rest) a (W.alloc (.cells #[.int .u8 y] 5)) := by
  refine appIn base hgd s x ho v xs [y] ⟨W.heap.size, 0, none⟩ 1 hs hx (HO.alloc _) ⟨rfl, by simp, fun _ => ⟨_, rfl, fun j hj => ?_⟩⟩ (by simp; omega) hl ?_
  · have hj0 : j = 0 := by simpa using hj
    subst hj0
    simp [Addr.add]
  · intro v1 w1 h1 h2
    exact h v1 w1 h1 (World.grownBy.trans (World.grownBy_alloc W _ _) h2)

theorem gateIn {F : Fence} {n : Nat} {P : Program} {ops : Array Oper} {rest : List Oper} {o : Oper} {a : Act} {Q : Exit → Act → World → Prop} {W : World} {b : Builtin} {xs : Array Operand} {ts : Array TypeId}
    (_ho : o.op = .call { callee := .builtin b, args := xs, argTypes := ts }) (h : wpListIn F n P ops Q (o :: rest) a W) : wpListIn F n P ops Q (o :: rest) a W := h
/-- Steps that turn rows of bytes of one's own alone: all else lies as it lay. -/
structure Bst (n0 : Nat) (W W' : World) : Prop where
  oth : KeepsOthers W W'
  cel : ∀ (i : Nat) (cs : Array Value) (t : TypeId), t ≠ 5 → W.heap[i]? = some (.cells cs t (0, 0)) → W'.heap[i]? = some (.cells cs t (0, 0))
  low : Below n0 W W'
theorem Bst.refl (n0 : Nat) (W : World) : Bst n0 W W := ⟨KeepsOthers.refl W, fun _ _ _ _ h => h, Below.refl _ _⟩
theorem Bst.trans {n0 : Nat} {X Y Z : World} (h : Bst n0 X Y) (k : Bst n0 Y Z) : Bst n0 X Z :=
  ⟨h.oth.trans k.oth, fun i cs t ht hi => k.cel i cs t ht (h.cel i cs t ht hi), h.low.trans k.low⟩
theorem Bst.alloc {n0 : Nat} {W : World} (h : n0 ≤ W.heap.size) (o : Obj) : Bst n0 W (W.alloc o) :=
  ⟨KeepsOthers.alloc W o, fun i cs t _ hi => blk_grown hi (World.grownBy_alloc W o none) (by simp), (Below.refl _ _).alloc h o⟩
theorem own_is_cells {w : World} {base : Nat} {v : Value} {xs : List Int} (h : Own w base v xs) {j : Nat} (hj : v.ownBlock = some j) : ∃ cs, w.heap[j]? = some (.cells cs 5 (0, 0)) := by
  rcases h.2 with ⟨e, _⟩ | ⟨g, cap, cur, e, _, hgb, _⟩
  · rw [e] at hj; cases hj
  · rw [e] at hj
    cases hj
    exact ⟨cur, hgb⟩
theorem Bst.grown {n0 base : Nat} {W W' : World} {v : Value} {xs : List Int} (ho : Own W base v xs) (hb : n0 ≤ base) (hn : n0 ≤ W.heap.size) (hg : W.grownBy W' v.ownBlock) : Bst n0 W W' :=
  ⟨KeepsOthers.of_grownBy hg (fun j o ej hj => by
      obtain ⟨cs, hcs⟩ := own_is_cells ho ej
      rw [hcs] at hj
      cases hj
      rfl),
   fun i cs t ht hi => blk_grown hi hg (fun e => by
      obtain ⟨cs', hcs'⟩ := own_is_cells ho e.symm
      rw [hi] at hcs'
      cases hcs'
      exact ht rfl),
   (Below.refl _ _).grown hg hn (fun k e => by have := own_base ho k e; omega)⟩

/-- What tokens holds: its three boxes; what is told so far. -/
structure TokSt (w0 : World) (A : Option Addr) (c : Nat) (l : List Int) (fr : Nat) (o : List Int) (v : Value) (w : World) : Prop where
  b0 : w.heap[w0.heap.size]? = some (.cells #[.slice A l.length c] 28 (0, 0))
  b1 : w.heap[w0.heap.size + 1 + 1]? = some (.cells #[.int .i64 fr] 3 (0, 0))
  b2 : w.heap[w0.heap.size + 1]? = some (.cells #[v] 28 (0, 0))
  own : Own w (w0.heap.size + 3) v o
  low : Below w0.heap.size w0 w
theorem TokSt.turn {w0 : World} {A : Option Addr} {c : Nat} {l : List Int} {fr : Nat} {o : List Int} {v : Value} {w w' : World} (h : TokSt w0 A c l fr o v w) {row : Option Nat} (hg : w.grownBy w' row) (hr : ∀ r, row = some r → w0.heap.size ≤ r ∧ ∃ ob : Obj, w.heap[r]? = some ob ∧ ob.isCells = false) : TokSt w0 A c l fr o v w' := by
  have hc : ∀ {i : Nat} {cs : Array Value} {t : TypeId}, w.heap[i]? = some (.cells cs t (0, 0)) → w'.heap[i]? = some (.cells cs t (0, 0)) := fun hi => (grownBy_keeps_cells hg (fun r e => (hr r e).2) hi rfl).trans hi
  refine ⟨hc h.b0, hc h.b1, hc h.b2, own_other h.own hg ?_, h.low.grown hg h.low.size (fun k e => (hr k e).1)⟩
  rcases h.own.2 with ⟨e, _⟩ | ⟨g, cap, cur, e, _, hgb, _⟩
  · exact .inl (by rw [e]; rfl)
  · refine .inr fun e' => ?_
    rw [e] at e'
    obtain ⟨_, ob, ho, hno⟩ := hr g e'.symm
    rw [hgb] at ho
    cases ho
    cases hno
/-- A piece of what is read. -/
theorem rd_piece {W : World} {A : Option Addr} {l : List Int} (h : Rd W A l) (k : Nat) (hk : k * 128 < l.length) : ∃ ad, chv A l.length 128 k = .slice (some ad) ((l.drop (k * 128)).take 128).length ((l.drop (k * 128)).take 128).length ∧ Rd W (some ad) ((l.drop (k * 128)).take 128) := by
  obtain ⟨a0, rfl, _⟩ := h.2.2 (by omega)
  refine ⟨a0.add (k * 128), ?_, ?_⟩
  · unfold chv
    rw [List.length_take, List.length_drop]
    rfl
  · have h2 := ReadsInt.drop_ (c := l.length) h (k * 128) (by omega) (Nat.le_refl _)
    rw [if_neg (by omega)] at h2
    have h3 := ReadsInt.take_ h2 (min 128 (l.length - k * 128)) (by omega)
    unfold Rd
    rw [List.length_take, List.length_drop]
    have e : List.take (min 128 (l.length - k * 128)) (l.drop (k * 128)) = (l.drop (k * 128)).take 128 := by
      rw [← List.length_drop, ← List.take_eq_take_min]
    rw [e] at h3
    exact h3
theorem TokSt.step {w0 : World} {A : Option Addr} {c : Nat} {l : List Int} {fr : Nat} {o o' : List Int} {v v' : Value} {w w' : World} (h : TokSt w0 A c l fr o v w) (hs : Bst w0.heap.size w w') (ho : Own w' (w0.heap.size + 3) v' o') :
    TokSt w0 A c l fr o' v' (w'.setCell ⟨w0.heap.size + 1, 0, none⟩ v') := by
  have e0 := hs.cel _ _ _ (by decide) h.b0
  have e1 := hs.cel _ _ _ (by decide) h.b1
  have e2 := hs.cel _ _ _ (by decide) h.b2
  refine ⟨?_, ?_, ?_, own_setCell ho (own_ne ho e2 (by decide)) _, ?_⟩
  · exact (Below.heap_setCell _ _ _ _ (by simp)).trans e0
  · exact (Below.heap_setCell _ _ _ _ (by simp)).trans e1
  · have := blk_set e2 0 v'
    exact this
  · exact (h.low.trans hs.low).setCell (p := ⟨w0.heap.size + 1, 0, none⟩) (by simp) _
theorem TokSt.from {w0 : World} {A : Option Addr} {c : Nat} {l : List Int} {fr : Nat} {o : List Int} {v : Value} {w : World} (h : TokSt w0 A c l fr o v w) (up : Nat) : TokSt w0 A c l up o v (w.setCell ⟨w0.heap.size + 1 + 1, 0, none⟩ (.int .i64 up)) := by
  refine ⟨?_, ?_, ?_, own_setCell h.own (own_ne h.own h.b1 (by decide)) _, ?_⟩
  · exact (Below.heap_setCell _ _ _ _ (by show w0.heap.size ≠ w0.heap.size + 1 + 1; omega)).trans h.b0
  · have := blk_set h.b1 0 (.int .i64 up)
    exact this
  · exact (Below.heap_setCell _ _ _ _ (by simp)).trans h.b2
  · exact h.low.setCell (p := ⟨w0.heap.size + 1 + 1, 0, none⟩) (by show w0.heap.size ≤ w0.heap.size + 1 + 1; omega) _
def FlushPost (w0 : World) (A : Option Addr) (c : Nat) (l : List Int) (up fr : Nat) (o : List Int) (e : Ending) (w' : World) : Prop :=
  e = .returned (.tuple #[]) ∧ ∃ v', TokSt w0 A c l up (o ++ rnL ((l.take up).drop fr)) v' w'
set_option maxRecDepth 100000 in
set_option maxHeartbeats 2000000 in
theorem flush_any (A : Option Addr) (c : Nat) (l : List Int) (up fr : Nat) (o : List Int) (v : Value) (w0 w : World) (hr : Rd w0 A l) (hc : l.length ≤ c) (hl : l.length ≤ 100000) (h1 : fr ≤ up) (h2 : up ≤ l.length) (ho : o.length ≤ 400000)
    (hst : TokSt w0 A c l fr o v w) :
    Calls Try.prog 63 #[.int .i64 up, .pointer (some ⟨w0.heap.size, 0, none⟩), .pointer (some ⟨w0.heap.size + 1 + 1, 0, none⟩), .pointer (some ⟨w0.heap.size + 1, 0, none⟩)] w (FlushPost w0 A c l up fr o) := by
  have HR := Lib.hid hr
  have HST := Lib.hid hst
  obtain ⟨A', l', hl', hl'n, hcut, hcr, hlc⟩ := cut_int A l c (fr : Int) (up : Int) (by omega) (by omega) (by omega) hc
  have hq := (blk_cell hst.b0 0)
  have hq1 := (blk_cell hst.b1 0)
  simp only [List.getElem?_toArray, List.getElem?_cons_zero] at hq hq1
  clear hr hst
  refine (callsIn_wide (n := 6)).1 ?_
  refine callsIn_of_wp_marks Try.func63 rfl trivial ?_ rfl
  simp only [Try.ntmps63, List.size_toArray, List.length_cons, List.length_nil, Nat.reduceAdd, Nat.reduceSub, Array.replicate_succ, Array.replicate_zero, List.push_toArray, List.append_toArray, List.nil_append, List.cons_append]
  gi_wp2_with (refine ⟨trivial, ?_⟩; gi_at_call 64; refine (callsIn_wide.2 (chunk_any A' l'.length (c - fr) 128 _ (by decide))).mono ?_; rintro e w1 ⟨rfl, rfl⟩)
  have hsz : w0.heap.size + 3 ≤ w.heap.size := by have := blk_lt HST.out.b1; omega
  obtain ⟨bs, hbs⟩ : ∃ bs, bs = w.heap.size := ⟨_, rfl⟩
  have hbs3 : w0.heap.size + 3 ≤ bs := by omega
  obtain ⟨W1, hW1⟩ : ∃ W1, W1 = (w.alloc (.cells #[.slice A' l'.length (c - fr)] 28)).alloc (.cells #[.int .i64 128] 3) := ⟨_, rfl⟩
  have hs1 : W1.heap.size = bs + 2 := by rw [hW1, hbs]; simp
  have hBS : W1.heap[bs]? = some (.cells #[.slice A' l'.length (c - fr)] 28 (0, 0)) := by
    rw [hW1, hbs]
    exact (Below.heap_alloc _ _ _ (by simp)).trans (World.alloc_heap_new w _)
  have hBN : W1.heap[bs + 1]? = some (.cells #[.int .i64 ((128 : Nat) : Int)] 3 (0, 0)) := by
    have := World.alloc_heap_new (w.alloc (.cells #[.slice A' l'.length (c - fr)] 28)) (.cells #[.int .i64 128] 3)
    rw [World.size_alloc] at this
    rw [hW1, hbs]
    exact this
  have hT1 : TokSt w0 A c l fr o v W1 := by
    rw [hW1]
    exact (HST.out.turn (World.grownBy_alloc w _ none) (fun r e => by cases e)).turn (World.grownBy_alloc _ _ none) (fun r e => by cases e)
  rw [← hW1, ← hbs]
  clear hW1 hq hq1 hcut
  have HT1 := Lib.hid hT1
  have HRL := Lib.hid (hcr _ HR.out)
  have HBS := Lib.hid hBS
  have HBN := Lib.hid hBN
  have hll : l'.length ≤ 100000 := by have := hl'n.out; omega
  clear hT1 hcr hbs hBS hBN
  refine rangeI rfl (by omega) (gf := 73) (lb := #[.pointer (some ⟨bs, 0, none⟩), .pointer (some ⟨bs + 1, 0, none⟩)]) rfl trivial (enters_of Try.func73 (by kernel_rfl) rfl)
    (chunk_seq Fence.wide 5 trivial rfl (by omega) bs (bs + 1) A' l'.length (c - fr) 128 (by have := hlc; omega) (by omega) (by decide) (by decide) W1 HBS.out HBN.out)
    (by rintro i (rfl | rfl) <;> omega) (fun i h => h.elim) (fun h k => h.trans k)
    (fun B W L o o' hL _ _ _ _ i hi => World.putObj_heap_other (by rcases hi with rfl | rfl <;> omega)) (fun _ => rfl)
    (fun k W => ∃ v, TokSt w0 A c l fr (o ++ rnK l' k) v W ∧ W.heap[bs]? = some (.cells #[.slice A' l'.length (c - fr)] 28 (0, 0)) ∧ W.heap[bs + 1]? = some (.cells #[.int .i64 ((128 : Nat) : Int)] 3 (0, 0)))
    (fun _ _ _ => False)
    ?inv (fun _ _ _ _ _ h _ _ => h) ⟨v, by rw [rnK, List.append_nil]; exact HT1.out, HBS.out, HBN.out⟩
    (fun k => { tmps := #[.int .i64 up, .pointer (some ⟨w0.heap.size, 0, none⟩), .pointer (some ⟨w0.heap.size + 1 + 1, 0, none⟩), .pointer (some ⟨w0.heap.size + 1, 0, none⟩), undef, chv A' l'.length 128 k, .slice A l.length c, .int .i64 fr, .int .i64 up, .slice A' l'.length (c - fr), .func (.func 73) #[] #[.pointer (some ⟨bs, 0, none⟩), .pointer (some ⟨bs + 1, 0, none⟩)], chv A' l'.length 128 k, undef, undef, undef, undef, undef, undef, undef, undef, undef, undef], defers := [] }) ?assign ?body ?done ?stop
  case inv =>
    rintro k X Y row ⟨v, h1, h2, h3⟩ hg ht
    have hr : ∀ r, row = some r → w0.heap.size ≤ r ∧ ∃ ob : Obj, X.heap[r]? = some ob ∧ ob.isCells = false := fun r e => by
      rcases ht r e with h | ⟨h, ho⟩
      · exact h.elim
      · exact ⟨by omega, ho⟩
    exact ⟨v, h1.turn hg hr, (grownBy_keeps_cells hg (fun r e => (hr r e).2) h2 rfl).trans h2, (grownBy_keeps_cells hg (fun r e => (hr r e).2) h3 rfl).trans h3⟩
  case assign =>
    intro L k W K hK
    gi_wp2
    exact hK
  case body =>
    rintro L k W hk ⟨v, hst, hb1, hb2⟩
    obtain ⟨adk, hch, hrp⟩ := rd_piece HRL.out k ((chN_lt (by decide)).1 hk)
    obtain ⟨pc, hpc⟩ : ∃ pc, pc = (l'.drop (k * 128)).take 128 := ⟨_, rfl⟩
    have hn := (chN_lt (len := l'.length) (sz := 128) (k := k) (by decide)).1 hk
    have hp0 : 1 ≤ pc.length := by rw [hpc, List.length_take, List.length_drop]; omega
    have hp1 : pc.length ≤ 128 := by rw [hpc, List.length_take]; omega
    have hrn : rnK l' (k + 1) = rnK l' k ++ (((pc.length : Int) - 1) :: pc) := by rw [rnK, ← hpc]
    have hrl := rnK_length l' k
    rw [← hpc] at hch hrp
    rw [hch]
    have HP := Lib.hid hrp
    have HST2 := Lib.hid hst
    have HB1 := Lib.hid hb1
    have HB2 := Lib.hid hb2
    have hq2 := blk_cell hst.b2 0
    have hf2 := blk_frozen hst.b2 0
    simp only [List.getElem?_toArray, List.getElem?_cons_zero] at hq2
    have hwsz : w0.heap.size + 3 ≤ W.heap.size := by have := blk_lt hst.b1; omega
    have hk8 : k ≤ 1000 := by omega
    obtain ⟨oo, hoo⟩ : ∃ oo, oo = o ++ rnK l' k := ⟨_, rfl⟩
    have HOL := Lib.hid (show oo.length ≤ 600000 by rw [hoo, List.length_append]; omega)
    obtain ⟨on, hon⟩ : ∃ on, on = o ++ rnK l' (k + 1) := ⟨_, rfl⟩
    have HRN := Lib.hid (show oo ++ ((pc.length : Int) - 1) :: pc = on by rw [hon, hoo, hrn]; simp)
    have HON := Lib.hid hon
    rw [← hoo] at HST2
    clear hst hb1 hb2 hrp hrn hpc hch hrl hoo hon
    gi_wp2_with ((with_reducible refine gateIn (b := .append) (xs := #[.tmp 12, .tmp 17]) rfl ?_); refine app1In (w0.heap.size + 3) rfl _ _ rfl v oo ((pc.length : Int) - 1) rfl rfl HST2.out.own hwsz (by have := HOL.out; omega) ?_)
    intro v3 w3 h3 g3
    have S3 := Lib.hid (Bst.grown (n0 := w0.heap.size) HST2.out.own (by omega) (by omega) g3)
    have H3 := Lib.hid h3
    have hz3 := g3.size
    clear h3 g3
    gi_wp2_with ((with_reducible refine gateIn (b := .append) (xs := #[.tmp 18, .tmp 19]) rfl ?_); refine appIn (w0.heap.size + 3) rfl _ _ rfl v3 (oo ++ [(pc.length : Int) - 1]) pc adk pc.length rfl rfl H3.out (HP.out.below (HST2.out.low.trans S3.out.low)) (by omega) (by rw [List.length_append]; have := HOL.out; simp; omega) ?_)
    intro v4 w4 h4 g4
    have S4 := Lib.hid (S3.out.trans (Bst.grown (n0 := w0.heap.size) H3.out (by omega) (by omega) g4))
    rw [HRN.out] at h4
    have hc4 := blk_cell (S4.out.cel _ _ _ (by decide) HST2.out.b2) 0
    have hf4 := blk_frozen (S4.out.cel _ _ _ (by decide) HST2.out.b2) 0
    simp only [List.getElem?_toArray, List.getElem?_cons_zero] at hc4
    have H4 := Lib.hid h4
    rcases own_cases h4 with ⟨_, h⟩ | ⟨g, cap, rfl⟩
    · have := congrArg List.length h
      rw [← HRN.out] at this
      simp at this
    clear h4 g4
    gi_wp2
    exact ⟨(S4.out.oth.trans (KeepsOthers.setCell _ _ _)).from _, fun i hi => by
      have hne : i ≠ w0.heap.size + 1 := by rcases hi with rfl | rfl <;> omega
      refine (Below.heap_setCell _ _ _ _ hne).trans ?_
      rcases hi with rfl | rfl
      · rw [HB1.out]; exact S4.out.cel _ _ _ (by decide) HB1.out
      · rw [HB2.out]; exact S4.out.cel _ _ _ (by decide) HB2.out,
      _, by rw [← HON.out]; exact HST2.out.step S4.out H4.out, (Below.heap_setCell _ _ _ _ (by show bs ≠ w0.heap.size + 1; omega)).trans (S4.out.cel _ _ _ (by decide) HB1.out), (Below.heap_setCell _ _ _ _ (by show bs + 1 ≠ w0.heap.size + 1; omega)).trans (S4.out.cel _ _ _ (by decide) HB2.out)⟩
  case done =>
    rintro D W hD ⟨v, hst, hb1, hb2⟩ hK
    have hall : rnK l' (chN l'.length 128) = rnL ((l.take up).drop fr) := by
      rw [List.drop_take, rnK_all l' _ (fun j hj => (chN_lt (by decide)).1 hj) (by
        have := (chN_lt (len := l'.length) (sz := 128) (k := chN l'.length 128) (by decide))
        omega)]
      have := hl'.out
      rw [Int.toNat_natCast, show ((up : Int) - (fr : Int)).toNat = up - fr from by omega] at this
      rw [this]
    rw [hall] at hst
    have HS := Lib.hid hst
    have hq1 := blk_cell hst.b1 0
    have hf1 := blk_frozen hst.b1 0
    simp only [List.getElem?_toArray, List.getElem?_cons_zero] at hq1
    have HK := Lib.hid ((KeepsOthers.setCell W ⟨w0.heap.size + 1 + 1, 0, none⟩ (.int .i64 up)).same D _ hK rfl)
    clear hst hb1 hb2 hall hK
    gi_wp2
    refine ⟨by simp, .inl ⟨_, _, rfl, run_takeDeferred HK.out, ?_⟩⟩
    exact ⟨_, results_none rfl _ _ _, rfl, _, (HS.out.from up).turn (grownBy_putObj' _ D _) (fun r e => by cases e; exact ⟨by omega, _, HK.out, rfl⟩)⟩
  case stop =>
    rintro D cd k W _ _ h _
    exact h.elim
end Go.Proofs.Ytdfpikimeihefaa
