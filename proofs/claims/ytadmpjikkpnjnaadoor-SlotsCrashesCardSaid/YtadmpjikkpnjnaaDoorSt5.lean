/-
  store.each, store.File.Write. No premise.
-/
import Derived.Test.YtadmpjikkpnjnaaDoorSt4
namespace Go.Proofs.YtadmpjikkpnjnaaDoor
open Go.RowKit Go.Shelf Go.Proofs.YtadmpjikkpnjnaaDoorW.PrintWords
attribute [local go_sem] Oper.semAt_some

/-- The k-th piece. -/
def pc (x : List Int) (k : Nat) : List Int := (x.drop (k * 16)).take 16
def pcs (a : Nat) (x : List Int) (k : Nat) : List (Int × List Int) := (List.range k).map fun j => (((a + j * 16 : Nat) : Int), pc x j)
theorem pcs_succ (a : Nat) (x : List Int) (k : Nat) : pcs a x (k + 1) = pcs a x k ++ [(((a + k * 16 : Nat) : Int), pc x k)] := by simp [pcs, List.range_succ]
theorem pcs_length (a : Nat) (x : List Int) (k : Nat) : (pcs a x k).length = k := by simp [pcs]
/-- A file behind k raw writes of a write. -/
def FN (F : FM) (a : Nat) (x : List Int) (k : Nat) : FM := { F with b := layL F.b a (x.take (k * 16)), left := if 0 ≤ F.left then F.left - k else F.left, raws := F.raws ++ pcs a x k }
theorem FN_zero (F : FM) (a : Nat) (x : List Int) : FN F a x 0 = F := by
  unfold FN layL pcs
  simp
theorem layL_two (b : List Int) (a : Nat) (y z : List Int) (h : a ≤ b.length) : layL (layL b a y) (a + y.length) z = layL b a (y ++ z) := by
  unfold layL
  have h1 : (b.take a).length = a := by rw [List.length_take]; omega
  have e1 : (b.take a ++ (y ++ b.drop (a + y.length))).take (a + y.length) = b.take a ++ y := by
    rw [← List.append_assoc]
    exact List.take_left' (by rw [List.length_append, h1])
  have e2 : (b.take a ++ (y ++ b.drop (a + y.length))).drop (a + y.length + z.length) = b.drop (a + (y ++ z).length) := by
    rw [← List.append_assoc, List.drop_append]
    rw [List.drop_of_length_le (by rw [List.length_append, h1]; omega), List.nil_append, List.length_append, List.length_append, h1, List.drop_drop]
    congr 1
    omega
  rw [e1, e2]
  simp [List.append_assoc]
theorem take_pc (x : List Int) (k : Nat) : x.take (k * 16) ++ pc x k = x.take ((k + 1) * 16) := by
  unfold pc
  rw [Nat.succ_mul, List.take_add]
theorem FN_succ (F : FM) (a : Nat) (x : List Int) (k : Nat) (ha : a ≤ F.b.length) (hk : k * 16 < x.length) (hl : F.left < 0 ∨ (k : Int) < F.left) : rawF (FN F a x k) (a + k * 16) (pc x k) = FN F a x (k + 1) := by
  have hlen : (x.take (k * 16)).length = k * 16 := by rw [List.length_take]; omega
  have e := layL_two F.b a (x.take (k * 16)) (pc x k) ha
  rw [hlen, take_pc] at e
  have hne : ¬ (FN F a x k).left = 0 := by
    unfold FN
    simp only
    split <;> omega
  unfold rawF
  rw [if_neg hne]
  unfold FN
  simp only [FM.mk.injEq, true_and]
  refine ⟨e, ?_, ?_⟩
  · rcases hl with h | h
    · rw [if_neg (by omega), if_neg (by omega), if_neg (by omega)]
    · rw [if_pos (by omega), if_pos (by omega), if_pos (by omega)]
      omega
  · rw [pcs_succ, List.append_assoc]
theorem FN_length (F : FM) (a : Nat) (x : List Int) (k : Nat) (ha : a ≤ F.b.length) (_hk : k * 16 ≤ x.length + 15) : a + min (k * 16) x.length ≤ (FN F a x k).b.length ∧ (FN F a x k).b.length ≤ max F.b.length (a + x.length) := by
  unfold FN
  simp only
  rw [layL_length _ _ _ ha, List.length_take]
  omega
def wrE (F : FM) (x : List Int) : Int := if 0 ≤ F.left ∧ F.left < (chN x.length 16 : Nat) then 6 else 0
def wrF (F : FM) (a : Nat) (x : List Int) : FM := if 0 ≤ F.left ∧ F.left < (chN x.length 16 : Nat) then { FN F a x F.left.toNat with off := true, left := -1 } else FN F a x (chN x.length 16)
theorem FileA.turn {V V' : World} {o : Nat → Nat} {i p : Nat} {F : FM} {row : Option Nat} (h : FileA V o i p F) (hg : V.grownBy V' row) (hr : ∀ r, row = some r → (o r ≠ i ∧ o r ≠ 9) ∨ ∃ ob : Obj, V.heap[r]? = some ob ∧ ob.isCells = false) : FileA V' o i p F := by
  obtain ⟨vb, vr, L, h⟩ := h
  have hk : ∀ k ob, V.heap[k]? = some ob → ob.isCells = true → (o k = i ∨ o k = 9) → V'.heap[k]? = V.heap[k]? := fun k ob hk hc ho => hg.block k (Array.getElem?_eq_some_iff.1 hk).1 (fun e => by
    rcases hr k e.symm with h1 | ⟨ob', h1, h2⟩
    · rcases ho with h3 | h3
      · exact h1.1 h3
      · exact h1.2 h3
    · rw [hk] at h1
      cases h1
      rw [hc] at h2
      cases h2)
  have hrow : ∀ {e : Nat} {v : Value} {n : Nat} {xs : List Value} {size : Nat}, V.ownsRow 0 e size v n xs → (∀ g, v.ownBlock = some g → o g = i) → V'.ownsRow 0 e size v n xs := fun hv ht => ownsRow_keep hv fun g hg' _ => by
    obtain ⟨cs, hc⟩ := ownsRow_is hv hg'
    exact hk g _ hc rfl (.inl (ht g hg'))
  refine ⟨vb, vr, L, (hk p _ h.blk rfl (.inl h.tp)).trans h.blk, h.tp, hrow h.ob h.tb, h.tb, ⟨hrow h.rw.own h.rw.tag, h.rw.tag, fun r hr' => ?_⟩, h.raws⟩
  obtain ⟨h1, h2⟩ := h.rw.rd r hr'
  refine ⟨rd_keep h1 fun a ha h0 => ?_, fun a ha => ⟨(h2 a ha).1, Nat.lt_of_lt_of_le (h2 a ha).2 hg.size⟩⟩
  obtain ⟨ad, e, hc⟩ := h1.2.2 h0
  rw [ha] at e
  cases e
  obtain ⟨ob, hob, hcell⟩ : ∃ ob : Obj, V.heap[a.block]? = some ob ∧ ob.isCells = true := by
    have h3 := hc 0 h0
    unfold World.cell? at h3
    rw [add_block] at h3
    cases ho : V.heap[a.block]? with
    | none => simp [ho] at h3
    | some ob => exact ⟨ob, rfl, by cases ob <;> simp_all [Obj.isCells]⟩
  exact hk _ _ hob hcell (.inr (h2 a ha).1)
theorem Upd.turn {o o' : Nat → Nat} {i : Nat} {w V V' : World} {row : Option Nat} (h : Upd o o' i w V) (hg : V.grownBy V' row) (hr : ∀ r, row = some r → w.heap.size ≤ r) : Upd o o' i w V' := by
  have hb : ∀ k, k < w.heap.size → V'.heap[k]? = V.heap[k]? := fun k hk => hg.block k (Nat.lt_of_lt_of_le hk h.size) (fun e => by have := hr k e.symm; omega)
  exact ⟨hg.os.trans h.os, hg.tape.trans h.tape, hg.output.trans h.output, Nat.le_trans h.size hg.size, fun k hk hne => (hb k hk).trans (h.blk k hk hne), h.old, h.fresh, h.fr.mono hg.size,
    ⟨⟨Nat.le_trans h.size hg.size, fun k ob hk ho => (hb k (Array.getElem?_eq_some_iff.1 hk).1).trans (h.kc.oth.same k ob hk ho)⟩, fun k cs t ht hk => (hb k (Array.getElem?_eq_some_iff.1 hk).1).trans (h.kc.cel k cs t ht hk)⟩⟩
theorem rd_pc {W : World} {A : Option Addr} {l : List Int} (h : Rd W A l) (k : Nat) (hk : k * 16 < l.length) : ∃ ad, chv A l.length 16 k = .slice (some ad) (pc l k).length (pc l k).length ∧ Rd W (some ad) (pc l k) ∧ ∃ a0, A = some a0 ∧ ad.block = a0.block := by
  obtain ⟨a0, rfl, _⟩ := h.2.2 (by omega)
  refine ⟨a0.add (k * 16), ?_, ?_, a0, rfl, add_block _ _⟩
  · unfold chv pc
    rw [List.length_take, List.length_drop]
    rfl
  · have h2 := ReadsInt.drop_ (c := l.length) h (k * 16) (by omega) (Nat.le_refl _)
    rw [if_neg (by omega)] at h2
    have h3 := ReadsInt.take_ h2 (min 16 (l.length - k * 16)) (by omega)
    unfold Rd pc
    rw [List.length_take, List.length_drop]
    have e : List.take (min 16 (l.length - k * 16)) (l.drop (k * 16)) = (l.drop (k * 16)).take 16 := by
      rw [← List.length_drop, ← List.take_eq_take_min]
    rw [e] at h3
    exact h3
theorem each_res {tmps : Array Value} {W : World} {q : Addr} {v : Value} (h6 : tmps[6]?.getD undef = .pointer (some q)) (c6 : W.cell? q = some v) : (results Tryd.f39 tmps).run Tryd.prog W = .ok v W := by
  simp [results, Tryd.results39, go_sem, h6, c6]
def EachPost (o : Nat → Nat) (i p : Nat) (F : FM) (at_ : Nat) (x : List Int) (w : World) (e : Ending) (w' : World) : Prop :=
  ∃ o', e = .returned (.int .i64 (wrE F x)) ∧ Upd o o' i w w' ∧ FileA w' o' i p (wrF F at_ x)
set_option maxRecDepth 100000 in
set_option maxHeartbeats 2000000 in
theorem each_any (o : Nat → Nat) (i : Nat) (h0 : i ≠ 0) (h9 : i ≠ 9) (p : Nat) (F : FM) (at_ : Nat) (A : Option Addr) (c : Nat) (x : List Int) (w : World) (hF : FileA w o i p F) (hfr : Fr o w) (hl1 : -9223372036854775808 ≤ F.left) (hl2 : F.left ≤ 9223372036854775807)
    (hat : at_ ≤ F.b.length) (hr : Rd w A x) (hA : 0 < x.length → ∀ a, A = some a → o a.block ≠ i) (hx : x.length ≤ 4200000) (hc : x.length ≤ c) (hbl : F.b.length ≤ 4200000) (hrl : F.raws.length ≤ 900000000) :
    Calls Tryd.prog 39 #[.int .i64 at_, .slice A x.length c, .func (.func 40) #[.pointer (some ⟨p, 0, none⟩)] #[]] w (EachPost o i p F at_ x w) := by
  have HF := Lib.hid hF
  have HFR := Lib.hid hfr
  have HR := Lib.hid hr
  clear hF hfr hr
  refine (callsIn_wide (n := 6)).1 ?_
  refine callsIn_of_wp_marks Tryd.func39 rfl trivial ?_ rfl
  simp only [Tryd.ntmps39, List.size_toArray, List.length_cons, List.length_nil, Nat.reduceAdd, Nat.reduceSub, Array.replicate_succ, Array.replicate_zero, List.push_toArray, List.append_toArray, List.nil_append, List.cons_append]
  gi_wp2_with (refine ⟨trivial, ?_⟩; gi_at_call 50; refine (callsIn_wide.2 (pieces_any (at_ : Int) A x.length c _)).mono ?_; rintro e w1 ⟨rfl, rfl⟩)
  obtain ⟨b0, hb0⟩ : ∃ b0, b0 = w.heap.size := ⟨_, rfl⟩
  obtain ⟨mv, hmv⟩ : ∃ mv, mv = Value.func (.func 40) #[.pointer (some ⟨p, 0, none⟩)] #[] := ⟨_, rfl⟩
  obtain ⟨W1, hW1⟩ : ∃ W1, W1 = (((w.alloc (.cells #[mv] 83)).alloc (.cells #[.int .i64 0] 26)).alloc (.cells #[.int .i64 (at_ : Int)] 3)).alloc (.cells #[.slice A x.length c] 25) := ⟨_, rfl⟩
  have hs1 : W1.heap.size = b0 + 4 := by rw [hW1, hb0]; simp
  have hlow : Below w.heap.size w W1 := by
    rw [hW1]
    exact ((((Below.refl w.heap.size w).alloc (Nat.le_refl _) _).alloc (by simp) _).alloc (by simp; omega) _).alloc (by simp; omega) _
  have hL : W1.heap[b0]? = some (.cells #[mv] 83 (0, 0)) := by
    rw [hW1, hb0]
    exact (Below.heap_alloc _ _ _ (by simp; omega)).trans ((Below.heap_alloc _ _ _ (by simp; omega)).trans ((Below.heap_alloc _ _ _ (by simp)).trans (World.alloc_heap_new w _)))
  have hR1 : W1.heap[b0 + 1]? = some (.cells #[.int .i64 0] 26 (0, 0)) := by
    have := World.alloc_heap_new (w.alloc (.cells #[mv] 83)) (.cells #[.int .i64 0] 26)
    rw [World.size_alloc] at this
    rw [hW1, hb0]
    exact (Below.heap_alloc _ _ _ (by simp)).trans ((Below.heap_alloc _ _ _ (by simp)).trans this)
  have hA1 : W1.heap[b0 + 2]? = some (.cells #[.int .i64 (at_ : Int)] 3 (0, 0)) := by
    have := World.alloc_heap_new ((w.alloc (.cells #[mv] 83)).alloc (.cells #[.int .i64 0] 26)) (.cells #[.int .i64 (at_ : Int)] 3)
    rw [World.size_alloc, World.size_alloc] at this
    rw [hW1, hb0]
    exact (Below.heap_alloc _ _ _ (by simp)).trans this
  have hB1 : W1.heap[b0 + 3]? = some (.cells #[.slice A x.length c] 25 (0, 0)) := by
    have := World.alloc_heap_new (((w.alloc (.cells #[mv] 83)).alloc (.cells #[.int .i64 0] 26)).alloc (.cells #[.int .i64 (at_ : Int)] 3)) (.cells #[.slice A x.length c] 25)
    rw [World.size_alloc, World.size_alloc, World.size_alloc] at this
    rw [hW1, hb0]
    exact this
  have hU1 : Upd o o i w W1 := Upd.quiet HFR.out hlow
  have hF1 := HF.out.below hlow
  have hof : ∀ k, b0 ≤ k → o k = 0 := fun k hk => HFR.out k (by omega)
  rw [← hmv, ← hW1, ← hb0]
  have hb0l : w.heap.size ≤ b0 := by omega
  have HL := Lib.hid hL
  have HR1 := Lib.hid hR1
  have HA1 := Lib.hid hA1
  have HB1 := Lib.hid hB1
  have HU1 := Lib.hid hU1
  have HF1 := Lib.hid hF1
  have HOF := Lib.hid hof
  have HMV := Lib.hid hmv
  clear hW1 hlow hL hR1 hA1 hB1 hU1 hF1 hof hb0 hmv
  refine rangeI rfl (by omega) (gf := 53) (lb := #[.pointer (some ⟨b0 + 1 + 1 + 1, 0, none⟩), .pointer (some ⟨b0 + 1 + 1, 0, none⟩)]) rfl trivial (enters_of Tryd.func53 (by kernel_rfl) rfl)
    (pieces_seq (b0 + 3) (b0 + 2) A x.length c at_ hc (by omega) (by omega) W1 (by omega) HB1.out HA1.out)
    (by rintro i (rfl | rfl) <;> omega) (by rintro i rfl; omega) (fun h k => h.trans k)
    (fun B V L o1 o2 hL hLB ho h1 h2 => ⟨fun i cs t ht hi => (World.putObj_heap_other (fun e => by
      subst e
      rw [ho] at hi
      cases hi
      cases h1)).trans hi, by simp, fun k ob hB hk hc => (World.putObj_heap_other (by omega)).trans hk⟩) (fun _ => rfl)
    (fun k V => ∃ o', Upd o o' i w V ∧ FileA V o' i p (FN F at_ x k) ∧ V.heap[b0]? = some (.cells #[mv] 83 (0, 0)) ∧ V.heap[b0 + 1]? = some (.cells #[.int .i64 0] 26 (0, 0)) ∧ o' (b0 + 1) = 0 ∧ o' (b0 + 2) = 0 ∧ (F.left < 0 ∨ (k : Int) ≤ F.left) ∧ b0 + 4 ≤ V.heap.size)
    (fun c k V => c = .ret ∧ ∃ o', Upd o o' i w V ∧ FileA V o' i p (wrF F at_ x) ∧ V.heap[b0 + 1]? = some (.cells #[.int .i64 6] 26 (0, 0)) ∧ wrE F x = 6 ∧ o' (b0 + 2) = 0)
    ?inv ?invx ⟨o, HU1.out, by rw [FN_zero]; exact HF1.out, HL.out, HR1.out, HOF.out _ (by omega), HOF.out _ (by omega), by omega, by omega⟩
    (fun k => { tmps := #[.int .i64 (at_ : Int), .slice A x.length c, mv, undef, undef, .pointer (some ⟨b0, 0, none⟩), .pointer (some ⟨b0 + 1, 0, none⟩), .int .i64 ((at_ + k * 16 : Nat) : Int), chv A x.length 16 k, .int .i64 (at_ : Int), .slice A x.length c, .func (.func 53) #[] #[.pointer (some ⟨b0 + 1 + 1 + 1, 0, none⟩), .pointer (some ⟨b0 + 1 + 1, 0, none⟩)], .int .i64 ((at_ + k * 16 : Nat) : Int), chv A x.length 16 k, undef, undef, undef, undef, undef], defers := [] }) ?assign ?body ?done ?stop
  case inv =>
    rintro k X Y row ⟨o', h1, h2, h3, h4, h5, h6, h7, h8⟩ hg ht
    have hr : ∀ r, row = some r → w.heap.size ≤ r ∧ r ≠ b0 ∧ r ≠ b0 + 1 ∧ ((o' r ≠ i ∧ o' r ≠ 9) ∨ ∃ ob : Obj, X.heap[r]? = some ob ∧ ob.isCells = false) := fun r e => by
      rcases ht r e with h | ⟨h, ho⟩
      · subst h
        exact ⟨by omega, by omega, by omega, .inl (by rw [h6]; exact ⟨fun e => h0 e.symm, by decide⟩)⟩
      · exact ⟨by omega, by omega, by omega, .inr ho⟩
    refine ⟨o', h1.turn hg (fun r e => (hr r e).1), h2.turn hg (fun r e => (hr r e).2.2.2), ?_, ?_, h5, h6, h7, Nat.le_trans h8 hg.size⟩
    · exact (hg.block _ (Array.getElem?_eq_some_iff.1 h3).1 (fun e => (hr _ e.symm).2.1 rfl)).trans h3
    · exact (hg.block _ (Array.getElem?_eq_some_iff.1 h4).1 (fun e => (hr _ e.symm).2.2.1 rfl)).trans h4
  case invx =>
    rintro c k X Y row ⟨hcr, o', h1, h2, h3, h4, h5⟩ hg ht
    have hr : ∀ r, row = some r → w.heap.size ≤ r ∧ r ≠ b0 + 1 ∧ ((o' r ≠ i ∧ o' r ≠ 9) ∨ ∃ ob : Obj, X.heap[r]? = some ob ∧ ob.isCells = false) := fun r e => by
      rcases ht r e with h | ⟨h, ho⟩
      · subst h
        exact ⟨by omega, by omega, .inl (by rw [h5]; exact ⟨fun e => h0 e.symm, by decide⟩)⟩
      · exact ⟨by omega, by omega, .inr ho⟩
    exact ⟨hcr, o', h1.turn hg (fun r e => (hr r e).1), h2.turn hg (fun r e => (hr r e).2.2), (hg.block _ (Array.getElem?_eq_some_iff.1 h3).1 (fun e => (hr _ e.symm).2.1 rfl)).trans h3, h4, h5⟩
  case assign =>
    intro L k V K hK
    gi_wp2
    exact hK
  case body =>
    rintro L k V hk ⟨o', hu, hf, hl, hres, ht1, ht2, hle, hvs⟩
    have hk16 := (chN_lt (len := x.length) (sz := 16) (k := k) (by decide)).1 hk
    obtain ⟨adk, hch, hrp, a0, ha0, hab⟩ := rd_pc (hu.rd HR.out hA) k hk16
    rw [hch]
    have hcl := blk_cell hl 0
    have hcr := blk_cell hres 0
    have hcf := blk_frozen hres 0
    simp only [List.getElem?_toArray, List.getElem?_cons_zero] at hcl hcr
    rw [HMV.out] at hcl
    have hfl := FN_length F at_ x k hat (by omega)
    rw [Nat.min_eq_left (by omega)] at hfl
    have hrl' : (FN F at_ x k).raws.length = F.raws.length + k := by
      unfold FN
      rw [List.length_append, pcs_length]
    have hleft : (FN F at_ x k).left = if 0 ≤ F.left then F.left - k else F.left := rfl
    have hkN : k ≤ 4200000 := by omega
    have hpl : (pc x k).length ≤ 16 := by unfold pc; rw [List.length_take]; omega
    have HRAW := Lib.hid (raw_any o' i h0 h9 p (FN F at_ x k) (at_ + k * 16) (some adk) (pc x k).length (pc x k) V hf hu.fr (by rw [hleft]; split <;> omega) (by rw [hleft]; split <;> omega) hfl.1 hrp
      (fun _ a e => by
        cases e
        rw [hab]
        obtain ⟨ad', e', hcc⟩ := HR.out.2.2 (by omega)
        rw [ha0] at e'
        cases e'
        have := World.block_lt_of_cell? w _ (hcc 0 (by omega))
        rw [add_block] at this
        rw [hu.old _ this]
        exact hA (by omega) _ ha0) (by omega) (Nat.le_refl _) (by omega) (by omega))
    have HU := Lib.hid hu
    have HL2 := Lib.hid hl
    have HRES := Lib.hid hres
    have HT1 := Lib.hid ht1
    have HLE := Lib.hid hle
    have HLEFT := Lib.hid hleft
    clear hu hf hl hres hle hrp hab ha0 hleft hfl hrl' hch hcr hcf
    gi_wp2
    refine ⟨trivial, ?_⟩
    gi_at_call 40
    refine (callsIn_wide.2 HRAW.out).mono ?_
    rintro e W2 ⟨o2, rfl, hu2, hf2⟩
    by_cases hz : (FN F at_ x k).left = 0
    · have hz' : decide ((FN F at_ x k).left ≠ 0) = false := by simp [hz]
      rw [hz']
      have hkl : F.left = (k : Int) := by
        have := HLE.out
        rw [HLEFT.out] at hz
        split at hz <;> omega
      have hwF : rawF (FN F at_ x k) (at_ + k * 16) (pc x k) = wrF F at_ x := by
        unfold rawF wrF
        rw [if_pos hz, if_pos (by omega), show F.left.toNat = k from by omega]
      have hwE : wrE F x = 6 := by unfold wrE; rw [if_pos (by omega)]
      rw [hwF] at hf2
      have hrlt := (Array.getElem?_eq_some_iff.1 HRES.out).1
      have hres2 := (hu2.blk _ hrlt (by rw [HT1.out]; exact fun e => h0 e.symm)).trans HRES.out
      have hset := blk_set hres2 0 (.int .i64 6)
      have hcr2 := blk_cell hres2 0
      have hcf2 := blk_frozen hres2 0
      simp only [List.getElem?_toArray, List.getElem?_cons_zero] at hcr2
      have hat2 : o2 (b0 + 2) = 0 := by
        rcases Nat.lt_or_ge (b0 + 2) V.heap.size with h | h
        · rw [hu2.old _ h]; exact ht2
        · omega
      have hat1 : o2 (b0 + 1) = 0 := (hu2.old _ hrlt).trans HT1.out
      have HU2 := Lib.hid hu2
      have HF2 := Lib.hid hf2
      have HRES2 := Lib.hid hres2
      have HSET := Lib.hid hset
      clear hu2 hf2 hres2 hset
      gi_wp2
      have hg := grownBy_setCell' W2 (b0 + 1) (.int .i64 6)
      refine ⟨keeps_tr (HU2.out.kc.oth.from _) ((KeepsOthers.setCell _ _ _).from _), ⟨?_, keeps_tr (HU2.out.kc.oth.from _) ((KeepsOthers.setCell _ _ _).from _)⟩, rfl, o2, (HU.out.trans HU2.out).turn hg (fun r e => by cases e; omega), HF2.out.turn hg (fun r e => by cases e; exact .inl (by rw [hat1]; exact ⟨fun e => h0 e.symm, by decide⟩)), ?_, hwE, hat2⟩
      · intro i' cs t ht hi'
        exact (HU2.out.kc.trans (KC.setCell (a := ⟨b0 + 1, 0, none⟩) HRES2.out (by unfold ctl; decide) _)).cel i' cs t ht hi'
      · exact HSET.out
    · have hz' : decide ((FN F at_ x k).left ≠ 0) = true := by simp [hz]
      rw [hz']
      have hkl : F.left < 0 ∨ (k : Int) < F.left := by
        have := HLE.out
        rw [HLEFT.out] at hz
        split at hz <;> omega
      rw [FN_succ F at_ x k hat hk16 hkl] at hf2
      have hrlt := (Array.getElem?_eq_some_iff.1 HRES.out).1
      have HU2 := Lib.hid hu2
      have HF2 := Lib.hid hf2
      clear hu2 hf2
      gi_wp2
      refine ⟨HU2.out.kc.oth.from _, ⟨fun i' cs t ht hi' => HU2.out.kc.cel i' cs t ht hi', HU2.out.kc.oth.from _⟩, o2, HU.out.trans HU2.out, HF2.out, HU2.out.kc.cel _ _ _ (.inr (.inr rfl)) HL2.out, (HU2.out.blk _ hrlt (by rw [HT1.out]; exact fun e => h0 e.symm)).trans HRES.out, (HU2.out.old _ hrlt).trans HT1.out, (HU2.out.old _ (by omega)).trans ht2, by omega, Nat.le_trans hvs HU2.out.size⟩
  case done =>
    rintro D V hD ⟨o', hu, hf, hl, hres, ht1, ht2, hle, hvs⟩ hK
    have hcr := blk_cell hres 0
    have hcf := blk_frozen hres 0
    simp only [List.getElem?_toArray, List.getElem?_cons_zero] at hcr
    have HK := Lib.hid ((KeepsOthers.setCell V ⟨b0 + 1, 0, none⟩ (.int .i64 0)).same D _ hK rfl)
    have HU := Lib.hid hu
    have HF2 := Lib.hid hf
    have HRES := Lib.hid hres
    have HT1 := Lib.hid ht1
    have HLE := Lib.hid hle
    have HSET := Lib.hid (blk_set hres 0 (.int .i64 0))
    clear hu hf hl hres hK hle
    gi_wp2
    refine ⟨by simp, .inl ⟨_, _, rfl, run_takeDeferred HK.out, ?_⟩⟩
    have hg := grownBy_setCell' V (b0 + 1) (.int .i64 0)
    have hg2 := grownBy_putObj' (V.setCell ⟨b0 + 1, 0, none⟩ (.int .i64 0)) D (.deferred none)
    have hu3 := (HU.out.turn hg (fun r e => by cases e; omega)).turn hg2 (fun r e => by cases e; omega)
    have hf3 := (HF2.out.turn hg (fun r e => by cases e; exact .inl (by rw [HT1.out]; exact ⟨fun e => h0 e.symm, by decide⟩))).turn hg2 (fun r e => by cases e; exact .inr ⟨_, HK.out, rfl⟩)
    have hc3 : ((V.setCell ⟨b0 + 1, 0, none⟩ (.int .i64 0)).putObj D (.deferred none)).cell? ⟨b0 + 1, 0, none⟩ = some (.int .i64 0) := blk_cell ((World.putObj_heap_other (by omega)).trans HSET.out) 0
    have hE : wrE F x = 0 := by unfold wrE; rw [if_neg (by have := HLE.out; omega)]
    have hW : FN F at_ x (chN x.length 16) = wrF F at_ x := by unfold wrF; rw [if_neg (by have := HLE.out; omega)]
    rw [hW] at hf3
    exact ⟨_, each_res rfl hc3, o', by rw [hE], hu3, hf3⟩
  case stop =>
    rintro D cd k V hD hk ⟨rfl, o', hu, hf, hres, hE, ht2⟩ hK
    have HK := Lib.hid hK
    have HU := Lib.hid hu
    have HF2 := Lib.hid hf
    have HRES := Lib.hid hres
    have HE := Lib.hid hE
    clear hu hf hres hK hE
    gi_wp2
    refine ⟨by simp, .inl ⟨_, _, rfl, run_takeDeferred HK.out, ?_⟩⟩
    have hg2 := grownBy_putObj' V D (.deferred none)
    have hu3 := HU.out.turn hg2 (fun r e => by cases e; omega)
    have hf3 := HF2.out.turn hg2 (fun r e => by cases e; exact .inr ⟨_, HK.out, rfl⟩)
    have hc3 : (V.putObj D (.deferred none)).cell? ⟨b0 + 1, 0, none⟩ = some (.int .i64 6) := blk_cell ((World.putObj_heap_other (by omega)).trans HRES.out) 0
    exact ⟨_, each_res rfl hc3, o', by rw [HE.out], hu3, hf3⟩
end Go.Proofs.YtadmpjikkpnjnaaDoor
