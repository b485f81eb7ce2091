/-
  slabvaultref03.File: Read, Cut, Start, Copy. No premise.
-/
import Derived.Test.YtnmcmenjhmhfjaaSR2
namespace Go.Proofs.Ytnmcmenjhmhfjaa
open Go.RowKit Go.Shelf Go.Proofs.YtnmcmenjhmhfjaaW.PrintWords

set_option maxHeartbeats 800000 in
theorem refCut_any (o : Nat → Nat) (i : Nat) (h0 : i ≠ 0) (h9 : i ≠ 9) (p : Nat) (F : FM) (n : Int) (w : World) (hF : RefA w o i p F) (hfr : Fr o w) :
    Calls Try.prog 29 #[.pointer (some ⟨p, 0, none⟩), .int .i64 n] w fun e w' => e = .returned (.int .i64 (ctE n)) ∧ Upd o o i w w' ∧ RefA w' o i p (ctF F n) := by
  have HF := Lib.hid hF
  have HFR := Lib.hid hfr
  obtain ⟨vb, vr, lf, L, hF1⟩ := hF
  obtain ⟨c0, c1, c2, c3, c4, c5⟩ := hF1.cells
  have hfz3 : w.frozen? ⟨p, 3, none⟩ = false := blk_frozen hF1.blk 3
  have hfz4 := blk_frozen (blk_set hF1.blk 3 (.bool true)) 4
  obtain ⟨v4, hc4⟩ := cell_in (blk_set hF1.blk 3 (.bool true)) (i := 4) (by simp)
  have HF1 := Lib.hid hF1
  clear hF1 hfr
  by_cases hn : n < 0
  · have HE := Lib.hid (show ctE n = 2 by unfold ctE; rw [if_pos hn])
    have HEF := Lib.hid (show ctF F n = F by unfold ctF; rw [if_pos hn])
    go_enter Try.func29, Try.ntmps29
    go_wp2_with fail
    go_ret
    exact ⟨by rw [HE.out] <;> rfl, Upd.refl HFR.out, by rw [HEF.out]; exact HF.out⟩
  · have HE := Lib.hid (show ctE n = 0 by unfold ctE; rw [if_neg hn])
    have HEF := Lib.hid (show ctF F n = { F with left := n } by unfold ctF; rw [if_neg hn])
    go_enter Try.func29, Try.ntmps29
    go_wp2_with fail
    go_ret
    have hset := blk_set (blk_set HF1.out.blk 3 (.bool true)) 4 (.int .i64 n)
    refine ⟨by rw [HE.out] <;> rfl, ((Upd.refl HFR.out).setCell (a := ⟨p, 3, none⟩) HF1.out.tp h0 HF1.out.blk (by unfold ctl; decide) _).setCell (a := ⟨p, 4, none⟩) HF1.out.tp h0 (blk_set HF1.out.blk 3 (.bool true)) (by unfold ctl; decide) _, vb, vr, n, L, ?_⟩
    rw [HEF.out]
    exact HF1.out.stored h9 HF1.out.tp (fun k hk hne => by rw [Below.heap_setCell _ _ _ _ (by exact hne), Below.heap_setCell _ _ _ _ (by exact hne)]) (by simp [World.setCell]) (fun _ _ => rfl) (by rw [hset]; simp [show (0 : Int) ≤ n from by omega]) (fun _ => rfl) rfl rfl
set_option maxHeartbeats 800000 in
theorem refStart_any (o : Nat → Nat) (i : Nat) (h0 : i ≠ 0) (h9 : i ≠ 9) (p : Nat) (F : FM) (w : World) (hF : RefA w o i p F) (hfr : Fr o w) :
    Calls Try.prog 30 #[.pointer (some ⟨p, 0, none⟩)] w fun e w' => e = .returned (.tuple #[]) ∧ Upd o o i w w' ∧ RefA w' o i p { F with off := false } := by
  have HFR := Lib.hid hfr
  obtain ⟨vb, vr, lf, L, hF1⟩ := hF
  obtain ⟨c0, c1, c2, c3, c4, c5⟩ := hF1.cells
  have hfz2 : w.frozen? ⟨p, 2, none⟩ = false := blk_frozen hF1.blk 2
  have HF1 := Lib.hid hF1
  clear hF1 hfr
  go_enter Try.func30, Try.ntmps30
  go_wp2_with fail
  go_end0
  have hset := blk_set HF1.out.blk 2 (.bool false)
  refine ⟨rfl, (Upd.refl HFR.out).setCell (a := ⟨p, 2, none⟩) HF1.out.tp h0 HF1.out.blk (by unfold ctl; decide) _, vb, vr, lf, L, ?_⟩
  exact HF1.out.stored h9 HF1.out.tp (fun k hk hne => Below.heap_setCell _ _ _ _ hne) (by simp [World.setCell]) (fun _ _ => rfl) (by simpa using hset) HF1.out.lf rfl rfl
set_option maxHeartbeats 1600000 in
theorem refRead_any (o : Nat → Nat) (i p : Nat) (F : FM) (a n : Int) (w : World) (hF : RefA w o i p F) (hl : F.b.length ≤ 4200000) (ha1 : -9223372036854775808 ≤ a) (ha2 : a ≤ 9223372036854775807) (hn1 : -9223372036854775808 ≤ n) (hn2 : n ≤ 9223372036854775807) :
    Calls Try.prog 28 #[.pointer (some ⟨p, 0, none⟩), .int .i64 a, .int .i64 n] w (ReadPost F a n w) := by
  obtain ⟨vb, vr, lf, L, hF1⟩ := hF
  obtain ⟨Av, cv, hvb, _, hrd, hcv⟩ := own_split hF1.ob
  obtain ⟨bl, hbl⟩ : ∃ bl, bl = F.b.length := ⟨_, rfl⟩
  rw [← hbl] at hvb
  subst hvb
  have HR := Lib.hid hrd
  obtain ⟨c0, c1, c2, c3, c4, c5⟩ := hF1.cells
  have hpl : p < w.heap.size := (Array.getElem?_eq_some_iff.1 hF1.blk).1
  have HBL := Lib.hid hbl
  rw [← hbl] at hl hcv
  clear hF1 hrd c1 c3 c4 c5 hbl
  by_cases hoff : F.off = true
  · rw [hoff] at c2
    have HE := Lib.hid (show rdE F a n = 6 by unfold rdE; rw [if_pos hoff])
    go_enter Try.func28, Try.ntmps28
    go_wp2_with fail
    go_ret2
    exact ⟨_, ret2 (by rw [HE.out]), by rw [rdL_bad HE.out (by decide)]; exact World.ownsRow_nil _ _ _ _, Below.refl _ _⟩
  · have hoff' : F.off = false := by simpa using hoff
    rw [hoff'] at c2
    by_cases h1 : a < 0
    · have HE := Lib.hid (show rdE F a n = 2 by unfold rdE; rw [if_neg hoff, if_pos (.inl h1)])
      go_enter Try.func28, Try.ntmps28
      go_wp2_with fail
      go_ret2
      exact ⟨_, ret2 (by rw [HE.out]), by rw [rdL_bad HE.out (by decide)]; exact World.ownsRow_nil _ _ _ _, Below.refl _ _⟩
    by_cases h2 : n < 0
    · have HE := Lib.hid (show rdE F a n = 2 by unfold rdE; rw [if_neg hoff, if_pos (.inr h2)])
      go_enter Try.func28, Try.ntmps28
      go_wp2_with fail
      go_ret2
      exact ⟨_, ret2 (by rw [HE.out]), by rw [rdL_bad HE.out (by decide)]; exact World.ownsRow_nil _ _ _ _, Below.refl _ _⟩
    obtain ⟨a, rfl⟩ := Int.eq_ofNat_of_zero_le (show 0 ≤ a by omega)
    obtain ⟨n, rfl⟩ := Int.eq_ofNat_of_zero_le (show 0 ≤ n by omega)
    have hno : ¬ (((a : Int) < 0) ∨ ((n : Int) < 0)) := by omega
    by_cases h3 : bl < a
    · by_cases h4 : 0 < n
      · have HE := Lib.hid (show rdE F a n = 4 by unfold rdE; rw [if_neg hoff, if_neg hno, if_pos (by rw [← HBL.out]; omega)])
        clear hno
        go_enter Try.func28, Try.ntmps28
        go_wp2_with fail
        go_ret2
        exact ⟨_, ret2 (by rw [HE.out]), by rw [rdL_bad HE.out (by decide)]; exact World.ownsRow_nil _ _ _ _, Below.refl _ _⟩
      · have hn0 : n = 0 := by omega
        subst hn0
        have HE := Lib.hid (show rdE F a (0 : Nat) = 0 by unfold rdE; rw [if_neg hoff, if_neg hno, if_neg (by rw [← HBL.out]; omega)])
        have HL := Lib.hid (show rdL F a (0 : Nat) = [] by unfold rdL; rw [if_pos HE.out]; simp)
        clear hno
        go_enter Try.func28, Try.ntmps28
        go_wp2_with fail
        go_ret2
        exact ⟨_, ret2 (by rw [show rdE F a 0 = 0 from HE.out]), by rw [show rdL F a 0 = [] from HL.out]; exact World.ownsRow_nil _ _ _ _, Below.refl _ _⟩
    · by_cases h4 : (bl : Int) - (a : Int) < n
      · have HE := Lib.hid (show rdE F a n = 4 by unfold rdE; rw [if_neg hoff, if_neg hno, if_pos (by rw [← HBL.out]; omega)])
        clear hno
        go_enter Try.func28, Try.ntmps28
        go_wp2_with fail
        go_ret2
        exact ⟨_, ret2 (by rw [HE.out]), by rw [rdL_bad HE.out (by decide)]; exact World.ownsRow_nil _ _ _ _, Below.refl _ _⟩
      · by_cases h5 : n = 0
        · subst h5
          have HE := Lib.hid (show rdE F a (0 : Nat) = 0 by unfold rdE; rw [if_neg hoff, if_neg hno, if_neg (by rw [← HBL.out]; omega)])
          have HL := Lib.hid (show rdL F a (0 : Nat) = [] by unfold rdL; rw [if_pos HE.out]; simp)
          clear hno
          go_enter Try.func28, Try.ntmps28
          go_wp2_with fail
          go_ret2
          exact ⟨_, ret2 (by rw [show rdE F a 0 = 0 from HE.out]), by rw [show rdL F a 0 = [] from HL.out]; exact World.ownsRow_nil _ _ _ _, Below.refl _ _⟩
        · have HE := Lib.hid (show rdE F a n = 0 by unfold rdE; rw [if_neg hoff, if_neg hno, if_neg (by rw [← HBL.out]; omega)])
          have HL := Lib.hid (show rdL F a n = (F.b.drop a).take n by unfold rdL; rw [if_pos HE.out]; simp)
          obtain ⟨A', l', hl', hl'n, hcut, hcr, hlc⟩ := cut_int Av F.b cv (a : Int) ((a : Int) + (n : Int)) (by omega) (by omega) (by rw [← HBL.out]; omega) (by rw [← HBL.out]; exact hcv)
          have hl2 : l' = (F.b.drop a).take n := by
            have := hl'.out
            rw [Int.toNat_natCast, show ((a : Int) + (n : Int) - (a : Int)).toNat = n from by omega] at this
            exact this
          have HL2 := Lib.hid hl2
          have HCR := Lib.hid (hcr _ HR.out)
          have hln := hl'n.out
          rw [← HBL.out] at hcut
          have hn5 : ¬ (n : Int) = 0 := by omega
          have hn6 : ((n : Int) == 0) = false := by rw [beq_eq_false_iff_ne]; exact hn5
          have hl3 : l'.length ≤ 140000000000000 := by omega
          have HOE := Lib.hid (own_empty w w.heap.size (Nat.le_refl _))
          have HBA := Lib.hid ((Below.refl w.heap.size w).alloc (Nat.le_refl _) (.cells #[] 5))
          have d0 : ∀ ob, (w.alloc ob).cell? ⟨p, 0, none⟩ = some (.slice Av bl cv) := fun ob => (World.cell?_of_block (w := w) (Below.heap_alloc _ _ _ hpl)).trans c0
          clear hno hl' hl'n hl2 hcr hln
          go_enter Try.func28, Try.ntmps28
          go_wp2_with (at_builtin; refine app w.heap.size rfl _ _ rfl (.slice (some ⟨w.heap.size, 0, none⟩) 0 0) [] l' A' _ rfl rfl HOE.out (HCR.out.below HBA.out) (by simp) (by simp; omega) ?_; intro v w1 ho g1; have HB := Lib.hid (HBA.out.grown g1 (by simp) (by simp [Value.ownBlock])); rw [List.nil_append] at ho; have HO := Lib.hid ho; clear ho g1)
          go_ret2
          exact ⟨v, ret2 (by rw [HE.out]), by rw [HL.out, ← HL2.out]; exact HO.out, HB.out⟩
def RCopyPost (o : Nat → Nat) (i : Nat) (F : FM) (w : World) (e : Ending) (w' : World) : Prop :=
  ∃ p o', e = .returned (.pointer (some ⟨p, 0, none⟩)) ∧ RefA w' o' i p F ∧ Upd o o' i w w' ∧ Below w.heap.size w w' ∧ w.heap.size ≤ p
theorem rcopy_end (o : Nat → Nat) (i j p : Nat) (w W2 w3 : World) (F : FM) (vb vr : Value) (lf : Int) (L : List Rw) (hF : RefAt w o i p vb vr lf L F) (C : Array Value) (hfr : Fr o w) (hb2 : Below w.heap.size w W2) (hs2 : w.heap.size + 1 ≤ W2.heap.size) (A2 : Option Addr) (n2 c2 : Nat) (ho2 : Own W2 (w.heap.size + 1) (.slice A2 n2 c2) F.b)
    (A3 : Option Addr) (n3 c3 : Nat) (hr : w3.ownsRow W2.heap.size 67 2 (.slice A3 n3 c3) L.length (rwv L)) (hb3 : Below W2.heap.size W2 w3)
    (hq : w3.heap[w.heap.size]? = some (.cells C 66 (0, 0))) (hC : C.setIfInBounds 5 (.slice A3 n3 c3) = #[.slice A2 n2 c2, .int .i64 F.most, .bool F.off, .bool (decide (0 ≤ F.left)), .int .i64 lf, .slice A3 n3 c3]) :
    ∃ o', RefA (w3.setCell ⟨w.heap.size, 5, none⟩ (.slice A3 n3 c3)) o' j w.heap.size F ∧ Upd o o' j w (w3.setCell ⟨w.heap.size, 5, none⟩ (.slice A3 n3 c3)) ∧ Below w.heap.size w (w3.setCell ⟨w.heap.size, 5, none⟩ (.slice A3 n3 c3)) := by
  classical
  have hs3 := hb3.size
  have hq2 := blk_set hq 5 (.slice A3 n3 c3)
  have hsz : (w3.setCell ⟨w.heap.size, 5, none⟩ (.slice A3 n3 c3)).heap.size = w3.heap.size := by simp [World.setCell]
  have hlow : Below w.heap.size w (w3.setCell ⟨w.heap.size, 5, none⟩ (.slice A3 n3 c3)) := (hb2.trans (hb3.mono (by omega))).setCell (p := ⟨w.heap.size, 5, none⟩) (Nat.le_refl _) _
  have h3row : ∀ g, Value.ownBlock (.slice A3 n3 c3) = some g → W2.heap.size ≤ g ∧ g < w3.heap.size := fun g hg => World.ownsRow.lt hr g hg
  have h2row : ∀ g, Value.ownBlock (.slice A2 n2 c2) = some g → w.heap.size + 1 ≤ g ∧ g < W2.heap.size := fun g hg => World.ownsRow.lt ho2 g hg
  obtain ⟨o', ho'⟩ : ∃ o' : Nat → Nat, o' = fun k => if k < w.heap.size then o k else if k = w.heap.size ∨ Value.ownBlock (.slice A2 n2 c2) = some k ∨ Value.ownBlock (.slice A3 n3 c3) = some k then j else 0 := ⟨_, rfl⟩
  have ev : ∀ k, o' k = if k < w.heap.size then o k else if k = w.heap.size ∨ Value.ownBlock (.slice A2 n2 c2) = some k ∨ Value.ownBlock (.slice A3 n3 c3) = some k then j else 0 := fun k => by rw [ho']
  have e1 : o' w.heap.size = j := by rw [ev, if_neg (Nat.lt_irrefl _), if_pos (.inl rfl)]
  have e2 : ∀ g, Value.ownBlock (.slice A2 n2 c2) = some g → o' g = j := fun g hg => by
    have := h2row g hg
    rw [ev, if_neg (by omega), if_pos (.inr (.inl hg))]
  have e3 : ∀ g, Value.ownBlock (.slice A3 n3 c3) = some g → o' g = j := fun g hg => by
    have := h3row g hg
    rw [ev, if_neg (by omega), if_pos (.inr (.inr hg))]
  refine ⟨o', ⟨.slice A2 n2 c2, .slice A3 n3 c3, lf, L, ?_, hF.lf, e1, ?_, e2, ⟨?_, e3, fun r hr' => ?_⟩, hF.raws⟩, ⟨hlow.os, hlow.tape, hlow.output, hlow.size, fun k hk _ => hlow.block k hk, fun k hk => by rw [ev, if_pos hk], fun k hk => ?_, fun k hk => ?_, KC.quiet hlow⟩, hlow⟩
  · rw [hq2, hC]
  · exact row_weaken (own_setR (own_step ho2 hb3) hq (by decide) _)
  · exact row_weaken (row_setF hr hq (by decide) _)
  · obtain ⟨h1, h2⟩ := hF.rw.rd r hr'
    refine ⟨rd_keep h1 fun a ha _ => hlow.block _ (h2 a ha).2, fun a ha => ⟨?_, Nat.lt_of_lt_of_le (h2 a ha).2 hlow.size⟩⟩
    rw [ev, if_pos (h2 a ha).2]
    exact (h2 a ha).1
  · rw [ev, if_neg (by omega)]
    split
    · exact .inr (.inl rfl)
    · exact .inl rfl
  · rw [hsz] at hk
    rw [ev, if_neg (by omega), if_neg]
    rintro (h | h | h)
    · omega
    · have := h2row _ h
      omega
    · have := h3row _ h
      omega
/-- Raw writes that are read. -/
def RdR (w : World) (A : Option Addr) (L : List Rw) : Prop := 0 < L.length → ∃ ad, A = some ad ∧ ∀ j u, (rwv L)[j]? = some u → w.cell? (ad.add j) = some u
theorem row_rdR {w : World} {base e : Nat} {A : Option Addr} {n c : Nat} {L : List Rw} (h : w.ownsRow base e 2 (.slice A n c) L.length (rwv L)) : RdR w A L := by
  intro h0
  rcases h.2 with ⟨_, hn⟩ | ⟨g, cap, cur, h1, _, hg, hnc, _, hcs, ht⟩
  · omega
  · injection h1 with e1 e2 e3
    subst e1
    refine ⟨_, rfl, fun j u hu => ?_⟩
    have hj : j < L.length * 2 := by
      have := (List.getElem?_eq_some_iff.1 hu).1
      rwa [rwv_length] at this
    have e : (⟨g, 0, none⟩ : Addr).add j = ⟨g, j, none⟩ := by unfold Addr.add; split <;> simp_all
    rw [← ht, List.getElem?_take_of_lt hj, Array.getElem?_toList] at hu
    rw [e, blk_cell hg]
    exact hu
theorem RdR.of_eq {w w' : World} {A : Option Addr} {L : List Rw} (h : RdR w A L) (hk : ∀ a, A = some a → w'.heap[a.block]? = w.heap[a.block]?) : RdR w' A L := by
  intro h0
  obtain ⟨ad, e, hc⟩ := h h0
  exact ⟨ad, e, fun j u hu => (World.cell?_of_block (w := w) (by rw [add_block]; exact hk ad e)).trans (hc j u hu)⟩
/-- append(v, ys...) of raw writes of the reference's. -/
theorem appRR {ops : Array Oper} {rest : List Oper} {o : Oper} {a : Act} {Q : Exit → Act → World → Prop} {W : World} (base : Nat) (hgd : o.guard = none) (s x : Operand)
    (ho : o.op = .call { callee := .builtin .append, args := #[s, x], argTypes := #[64, 64] })
    (v : Value) (ys : List Rw) (A : Option Addr) (c : Nat) (hs : a.eval s = v) (hx : a.eval x = .slice A ys.length c) (HO : W.ownsRow base 67 2 v 0 []) (HR : RdR W A ys) (hbase : base ≤ W.heap.size)
    (hl : ys.length ≤ 1000000000)
    (h : ∀ v1 w1, w1.ownsRow base 67 2 v1 ys.length (rwv ys) → W.grownBy w1 v.ownBlock → wpList Try.prog ops Q rest (a.put o.dst v1) w1) :
    wpList Try.prog ops Q (o :: rest) a W := by
  obtain ⟨i0, hi, hz0, hz1, hz2⟩ := info_parts infoRR
  rcases Nat.eq_zero_or_pos ys.length with h0 | h0
  · have e : ys = [] := List.length_eq_zero_iff.1 h0
    subst e
    have hrun := append_zero 64 o.type Try.underlying64 hi HO A c
    refine wpList_plain hgd fun K hK => ?_
    unfold Oper.wp execOp
    simp only [ho, resolve, invoke, builtin, Sem.run_bind, Sem.run_pure, Result.andThen_ok, List.map_toArray, List.map_cons, List.map_nil, hs, hx, List.length_nil, hrun]
    exact hK _ _ (h v W HO (World.grownBy.refl _ _))
  · obtain ⟨ad, rfl, hc⟩ := HR h0
    refine wpList_append_own_wide W hgd s x 64 ho base 67 i0 (.agg #[.int .i64 0, .slice none 0 0]) 2 32 Try.underlying64 hi hz0 hz1 hz2 rfl (by decide) v 0 [] hs HO ad ys.length c (rwv ys) hx (rwv_length ys) hc (fun u hu => rwv_one hu) (by simp only [maxLen]; omega) (by omega) hbase ?_
    intro v' w' h2 h3 _
    rw [Nat.zero_add, List.nil_append] at h2
    exact h v' w' h2 h3
set_option maxHeartbeats 1600000 in
theorem refCopy_any (o : Nat → Nat) (i j p : Nat) (F : FM) (w : World) (hF : RefA w o i p F) (hfr : Fr o w) (hl : F.raws.length ≤ 1000000000) (hb : F.b.length ≤ 4200000) :
    Calls Try.prog 27 #[.pointer (some ⟨p, 0, none⟩)] w (RCopyPost o j F w) := by
  have HFR := Lib.hid hfr
  obtain ⟨vb, vr, lf, L, hF1⟩ := hF
  obtain ⟨Av, cv, hvb, _, hrd, _⟩ := own_split hF1.ob
  subst hvb
  obtain ⟨Ar, cr, hvr, _⟩ := row_split hF1.rw.own
  subst hvr
  obtain ⟨c0, c1, c2, c3, c4, c5⟩ := hF1.cells
  have HF1 := Lib.hid hF1
  have HR := Lib.hid hrd
  have HLL := Lib.hid (show L.length ≤ 1000000000 by have := rws_length L; rw [hF1.raws] at this; omega)
  have hpl : p < w.heap.size := (Array.getElem?_eq_some_iff.1 hF1.blk).1
  have d0 : ∀ ob ob2, ((w.alloc ob).alloc ob2).cell? ⟨p, 0, none⟩ = some (.slice Av F.b.length cv) := fun ob ob2 => (World.cell?_of_block (w := w) ((Below.heap_alloc _ _ _ (by simp; omega)).trans (Below.heap_alloc _ _ _ hpl))).trans c0
  obtain ⟨pl, hplv⟩ : ∃ pl, pl = decide (0 ≤ F.left) := ⟨_, rfl⟩
  rw [← hplv] at c3
  have HPL := Lib.hid hplv
  clear hF1 hfr hrd hplv
  obtain ⟨C0, hC0⟩ : ∃ C0 : Array Value, C0 = #[.slice Av F.b.length cv, .int .i64 F.most, .bool F.off, .bool pl, .int .i64 lf, .slice Ar L.length cr] := ⟨_, rfl⟩
  have HC0 := Lib.hid hC0
  have hb1 : Below w.heap.size w ((w.alloc (.cells C0 66)).alloc (.cells #[] 5)) := ((Below.refl w.heap.size w).alloc (Nat.le_refl _) _).alloc (by simp) _
  have HB1 := Lib.hid hb1
  have hoe : Own ((w.alloc (.cells C0 66)).alloc (.cells #[] 5)) (w.heap.size + 1) (.slice (some ⟨w.heap.size + 1, 0, none⟩) 0 0) [] := by
    have := own_empty (w.alloc (.cells C0 66)) (w.heap.size + 1) (by simp)
    rw [World.size_alloc] at this
    exact this
  have HOE := Lib.hid hoe
  have hq1 : ((w.alloc (.cells C0 66)).alloc (.cells #[] 5)).heap[w.heap.size]? = some (.cells C0 66 (0, 0)) := (Below.heap_alloc _ _ _ (by simp)).trans (World.alloc_heap_new w _)
  have HQ1 := Lib.hid hq1
  have HLR := Lib.hid (row_rdR HF1.out.rw.own)
  have har : ∀ a, Ar = some a → a.block < w.heap.size := fun a ha => ownsRow_lt HF1.out.rw.own (by rw [ha]; rfl)
  have HAR := Lib.hid har
  rw [hC0] at HB1 HOE HQ1
  clear hC0 hb1 hoe hq1 har
  go_enter Try.func27, Try.ntmps27
  go_wp2_with (first
    | ((with_reducible refine gate_builtin (b := .append) (xs := #[.tmp 7, .tmp 11]) rfl ?_); refine app (w.heap.size + 1) rfl _ _ rfl (.slice (some ⟨w.heap.size + 1, 0, none⟩) 0 0) [] F.b Av cv rfl rfl HOE.out (HR.out.below HB1.out) (by simp) (by simp; omega) ?_; intro v1 w1 ho1 g1; rw [List.nil_append] at ho1; obtain ⟨A1, c1', rfl, ho1', _, _⟩ := own_split ho1; have hq2 := (g1.block w.heap.size (by simp; omega) (by simp [Value.ownBlock])).trans HQ1.out; have f0 := blk_frozen hq2 0; obtain ⟨z0, y0⟩ := cell_in hq2 (i := 0) (by simp); have hq3 := blk_set hq2 0 (.slice A1 F.b.length c1'); have HB2 := Lib.hid (HB1.out.grown g1 (by simp; omega) (by simp [Value.ownBlock])); have hs1 := g1.size; have HO1 := Lib.hid ho1'; have HO3 := Lib.hid (own_setR (j := 0) ho1' hq2 (by decide) (.slice A1 F.b.length c1')); have HQ3 := Lib.hid hq3; have HB3 := Lib.hid (HB2.out.setCell (p := ⟨w.heap.size, 0, none⟩) (Nat.le_refl _) (.slice A1 F.b.length c1')); have d5 : ∀ ob, ((w1.setCell ⟨w.heap.size, 0, none⟩ (.slice A1 F.b.length c1')).alloc ob).cell? ⟨p, 5, none⟩ = some (.slice Ar L.length cr) := (fun ob => (World.cell?_of_block (w := w) ((Below.heap_alloc _ _ _ (Nat.lt_of_lt_of_le hpl HB3.out.size)).trans (HB3.out.block p hpl))).trans c5); clear ho1 ho1' hq2 hq3 g1)
    | ((with_reducible refine gate_builtin (b := .append) (xs := #[.tmp 14, .tmp 18]) rfl ?_); refine appRR (w1.setCell ⟨w.heap.size, 0, none⟩ (.slice A1 F.b.length c1')).heap.size rfl _ _ rfl (.slice (some ⟨(w1.setCell ⟨w.heap.size, 0, none⟩ (.slice A1 F.b.length c1')).heap.size, 0, none⟩) 0 0) L Ar cr (by simp [Act.eval, Act.put, World.setCell]) rfl (World.ownsRow_made _ #[] 0 (Nat.le_refl _) (by simp [maxLen]) (by simp)) (HLR.out.of_eq fun a ha => (Below.heap_alloc _ _ _ (Nat.lt_of_lt_of_le (HAR.out a ha) HB3.out.size)).trans (HB3.out.block _ (HAR.out a ha))) (by simp) HLL.out ?_; intro v3 w3 ho3 g3; obtain ⟨A3, c3', rfl, ho3'⟩ := row_split ho3; have HO3r := Lib.hid ho3'; have HB4 := Lib.hid (((Below.refl (w1.setCell ⟨w.heap.size, 0, none⟩ (.slice A1 F.b.length c1')).heap.size (w1.setCell ⟨w.heap.size, 0, none⟩ (.slice A1 F.b.length c1'))).alloc (Nat.le_refl _) (.cells #[] 67)).grown g3 (by simp) (by simp [Value.ownBlock])); have hq5 := (HB4.out.block w.heap.size (by simp [World.setCell]; simp at hs1; omega)).trans HQ3.out; have f5 := blk_frozen hq5 5; obtain ⟨z5, y5⟩ := cell_in hq5 (i := 5) (by simp); have HQ5 := Lib.hid hq5; clear ho3 ho3' g3 hq5))
  go_ret
  obtain ⟨o', h1, h2, h3⟩ := rcopy_end o i j p w _ w3 F _ _ lf L HF1.out _ HFR.out HB3.out (by simp [World.setCell]; simp at hs1; omega) A1 F.b.length c1' HO3.out A3 L.length c3' HO3r.out HB4.out HQ5.out (by simp; exact HPL.out)
  exact ⟨w.heap.size, o', rfl, h1, h2, h3, Nat.le_refl _⟩
end Go.Proofs.Ytnmcmenjhmhfjaa
