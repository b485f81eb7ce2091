/-
  slabvaultref03.File.Write. No premise.
-/
import Derived.Test.YtadmpjikkpnjnaaDoorSR3
namespace Go.Proofs.YtadmpjikkpnjnaaDoor
open Go.RowKit Go.Shelf Go.Proofs.YtadmpjikkpnjnaaDoorW.PrintWords

/-- append(v, ys...), at a step of a region that draws: a row from a block on. -/
theorem step_appO {ops : Array Oper} {o : Oper} {a : Act} {w : World} {K : Act → World → Prop} {Q : Exit → Act → World → Prop} {E : Prop} (hgd : o.guard = none) (s x : Operand)
    (ho : o.op = .call { callee := .builtin .append, args := #[s, x], argTypes := #[25, 25] }) (base : Nat) (v : Value) (ys : List Int) (A : Option Addr) (c : Nat) (hs : a.eval s = v) (hx : a.eval x = .slice A ys.length c)
    (HO : Own w base v []) (HR : Rd w A ys) (h0 : 0 < ys.length) (hl : ys.length ≤ 100000000000000) (hb : base ≤ w.heap.size)
    (h : ∀ A' m c' w3, m = ys.length → Own w3 base (.slice A' m c') ys → w.grownBy w3 v.ownBlock → K (a.put o.dst (.slice A' m c')) w3) :
    if Region.wanted o (yielded ops a.tmps) = true then Oper.wp Tryd.prog o a w K Q else E := by
  have hw : Region.wanted o (yielded ops a.tmps) = true := by simp [Region.wanted, hgd]
  rw [if_pos hw]
  obtain ⟨i0, hi', hz0, hz1, hz2⟩ := info_parts infoB
  obtain ⟨ad, rfl, hc⟩ := HR.2.2 h0
  obtain ⟨v', w', hr, h2, h3, _⟩ := run_append_own_wide (P := Tryd.prog) w base 25 o.type 5 i0 (.int .u8 0) 1 1 Tryd.underlying25 hi' hz0 hz1 hz2 rfl (by decide) v 0 [] HO ad ys.length c (nums .u8 ys) (by simp [nums])
    (by
      intro j u hu
      have hj : j < ys.length := by
        have := (List.getElem?_eq_some_iff.1 hu).1
        rwa [nums_length] at this
      rw [hc j hj, ← hu]
      simp [nums, List.getD_eq_getElem?_getD, List.getElem?_eq_getElem hj])
    (by intro u hu; simp only [nums, List.mem_map] at hu; obtain ⟨q, _, rfl⟩ := hu; rfl) (by simp only [maxLen]; omega) (by omega) hb
  have hown : Own w' base v' ys := by
    unfold Own
    simp only [Nat.zero_add, List.nil_append] at h2
    exact h2
  obtain ⟨A', c', rfl, hown', _, _⟩ := own_split hown
  unfold Oper.wp execOp
  simp only [ho, resolve, invoke, builtin, Sem.run_bind, Sem.run_pure, Result.andThen_ok, List.map_toArray, List.map_cons, List.map_nil, hs, hx, hr]
  exact h A' _ c' w' rfl hown' h3
theorem own_splitL {w : World} {base : Nat} {v : Value} {l : List Int} (h : Own w base v l) : ∃ A m c, v = .slice A m c ∧ Hid (m = l.length) ∧ Own w base (.slice A m c) l := by
  obtain ⟨A, c, h1, h2, _, _⟩ := own_split h
  exact ⟨A, _, c, h1, rfl, h2⟩
theorem Rd.below' {w w' : World} {A : Option Addr} {l : List Int} (h : Rd w A l) (hb : Below w.drew.heap.size w.drew w') : Rd w' A l := (show Rd w.drew A l from h).below hb
def RWritePost (o : Nat → Nat) (i p : Nat) (F : FM) (a : Int) (x : List Int) (w : World) (e : Ending) (w' : World) : Prop :=
  ∃ o', e = .returned (.int .i64 (wE F a x)) ∧ Upd o o' i w w' ∧ RefA w' o' i p (wF F a x)
def RGoPost (o : Nat → Nat) (i p : Nat) (F : FM) (a : Nat) (x : List Int) (w : World) (e : Ending) (w' : World) : Prop :=
  ∃ o', e = .returned (.int .i64 (wrE F x)) ∧ Upd o o' i w w' ∧ RefA w' o' i p (wrF F a x)
set_option maxRecDepth 100000 in
set_option maxHeartbeats 3200000 in
theorem refWrite_go (o : Nat → Nat) (i : Nat) (h0 : i ≠ 0) (h9 : i ≠ 9) (p : Nat) (F : FM) (a : Nat) (A : Option Addr) (c : Nat) (x : List Int) (w : World) (hF : RefA w o i p F) (hfr : Fr o w) (hok : FOk F)
    (ha : a ≤ F.b.length) (hm : (a : Int) + x.length ≤ F.most) (hoff : F.off = false) (hr : Rd w A x) (hA : 0 < x.length → ∀ a, A = some a → o a.block ≠ i) (hc : x.length ≤ c) (hbx : Bts x) (hrl : F.raws.length ≤ 900000000) :
    Calls Tryd.prog 23 #[.pointer (some ⟨p, 0, none⟩), .int .i64 a, .slice A x.length c] w (RGoPost o i p F a x w) := by
  have HF := Lib.hid hF
  have HFR := Lib.hid hfr
  have HR := Lib.hid hr
  have HBX := Lib.hid hbx
  have hlen := hok.len
  have hmost := hok.most
  have hlo := hok.lo
  have hhi := hok.hi
  have HOK := Lib.hid hok
  obtain ⟨vb, vr, lf, L, hF1⟩ := hF
  obtain ⟨Av, cv, hvb, _, _, _⟩ := own_split hF1.ob
  obtain ⟨bl, hbl⟩ : ∃ bl, bl = F.b.length := ⟨_, rfl⟩
  rw [← hbl] at hvb hlen ha
  subst hvb
  have HBL := Lib.hid hbl
  obtain ⟨c0, c1, c2, c3, c4, c5⟩ := hF1.cells
  rw [hoff] at c2
  have hno : ¬ F.most - (a : Int) < (x.length : Int) := by omega
  clear hF1 hfr hr hbx hok c3 c4 c5 hbl
  go_enter Tryd.func23, Tryd.ntmps23
  go_wp2_with fail
  clear c0 c1 c2
  go_loopw [7] (fun t wr => ∃ k : Nat, k * 16 ≤ x.length + 15 ∧ t = .int .i64 ((k * 16 : Nat) : Int) ∧ (F.left < 0 ∨ (k : Int) ≤ F.left) ∧ ∃ o', Hid (Upd o o' i w wr) ∧ Hid (RefA wr o' i p (FN F a x k))) (fun t _ => x.length + 16 - (intOf t).toNat)
  case atStart => exact ⟨0, by omega, by simp, by omega, o, Upd.refl HFR.out, by rw [FN_zero]; exact HF.out⟩
  case round =>
    obtain ⟨k, hk, rfl, hle, o', HU, HFK⟩ := hrel
    obtain ⟨iv, hiv⟩ : ∃ iv, iv = k * 16 := ⟨_, rfl⟩
    have HIV := Lib.hid hiv
    rw [← hiv] at hk ⊢
    clear hiv
    by_cases hlt : iv < x.length
    · obtain ⟨vb2, vr2, lf2, L2, hF2⟩ := HFK.out
      obtain ⟨Ab, cb2, hvb2, _, _, _⟩ := own_split hF2.ob
      obtain ⟨bk, hbk⟩ : ∃ bk, bk = (FN F a x k).b.length := ⟨_, rfl⟩
      rw [← hbk] at hvb2
      subst hvb2
      obtain ⟨c0, c1, c2, c3, c4, c5⟩ := hF2.cells
      obtain ⟨lk, hlk⟩ : ∃ lk, lk = (FN F a x k).left := ⟨_, rfl⟩
      rw [← hlk] at c3
      have hlk2 : lk = if 0 ≤ F.left then F.left - k else F.left := hlk
      have HLK := Lib.hid hlk
      have hfl := FN_length F a x k (by rw [← HBL.out]; exact ha) (by have := HIV.out; omega)
      rw [← HIV.out, Nat.min_eq_left (by omega)] at hfl
      have hrk : (FN F a x k).raws.length = F.raws.length + k := by
        unfold FN
        rw [List.length_append, pcs_length]
      have hf22 : w.heap.size ≤ wr.heap.size := HU.out.size
      have HF2 := Lib.hid hF2
      have hpl : p < wr.heap.size := (Array.getElem?_eq_some_iff.1 hF2.blk).1
      have hoffk : (FN F a x k).off = false := hoff
      rw [hoffk] at c2
      by_cases hz : lk = 0
      · have hkl : F.left = (k : Int) := by rw [hlk2] at hz; split at hz <;> omega
        have hlf : lf2 = 0 := by have := hF2.lf (by rw [← hlk, hz]; exact Int.le_refl _); rw [this, ← hlk, hz]
        have hpb : decide (0 ≤ lk) = true := by rw [hz]; decide
        rw [hpb] at c3
        rw [hlf] at c4
        have hz2 := blk_frozen hF2.blk 2
        have hz3 := blk_frozen (blk_set hF2.blk 2 (.bool true)) 3
        obtain ⟨z3, y3⟩ := cell_in (blk_set hF2.blk 2 (.bool true)) (i := 3) (by simp)
        have hset := blk_set (blk_set hF2.blk 2 (.bool true)) 3 (.bool false)
        have HSET := Lib.hid hset
        have hwF : wrF F a x = { FN F a x k with off := true, left := -1 } := by
          unfold wrF
          have := (chN_lt (len := x.length) (sz := 16) (k := k) (by decide)).2 (by have := HIV.out; omega)
          rw [if_pos (by omega), show F.left.toNat = k from by omega]
        have hwE : wrE F x = 6 := by
          unfold wrE
          have := (chN_lt (len := x.length) (sz := 16) (k := k) (by decide)).2 (by have := HIV.out; omega)
          rw [if_pos (by omega)]
        have HWF := Lib.hid hwF
        have HWE := Lib.hid hwE
        clear hF2 hset hwF hwE hlk hlk2 hpb hz hlf
        go_wp2_with fail
        go_ret
        refine ⟨o', by rw [HWE.out] <;> rfl, (HU.out.setCell (a := ⟨p, 2, none⟩) HF2.out.tp h0 HF2.out.blk (by unfold ctl; decide) _).setCell (a := ⟨p, 3, none⟩) HF2.out.tp h0 (blk_set HF2.out.blk 2 (.bool true)) (by unfold ctl; decide) _, .slice Ab bk cb2, vr2, lf2, L2, ?_⟩
        rw [HWF.out]
        exact HF2.out.stored (F' := { FN F a x k with off := true, left := -1 }) h9 HF2.out.tp (fun q hq hne => by rw [Below.heap_setCell _ _ _ _ (by exact hne), Below.heap_setCell _ _ _ _ (by exact hne)]) (by simp [World.setCell]) (fun _ _ => rfl) (by simpa using HSET.out) (fun h => absurd h (by show ¬ (0 : Int) ≤ -1; decide)) rfl rfl
      · have hkl : F.left < 0 ∨ (k : Int) < F.left := by
          rw [hlk2] at hz
          split at hz <;> omega
        have HSUC := Lib.hid (FN_succ F a x k (by rw [← HBL.out]; exact ha) (by have := HIV.out; omega) hkl)
        -- what stands behind the countdown
        obtain ⟨W1, lf3, F1, hW1, hF3, hU3, hF1b, hF1r, hrest⟩ : ∃ (W1 : World) (lf3 : Int) (F1 : FM), (if 0 < lk then wr.setCell ⟨p, 4, none⟩ (.int .i64 (lk - 1)) else wr) = W1 ∧ RefAt W1 o' i p (.slice Ab bk cb2) vr2 lf3 L2 F1 ∧ Upd o o' i w W1 ∧ F1.b = (FN F a x k).b ∧ F1.raws = (FN F a x k).raws ∧
            rawF (FN F a x k) (a + k * 16) (pc x k) = { F1 with b := layL F1.b (a + k * 16) (pc x k), raws := F1.raws ++ [(((a + k * 16 : Nat) : Int), pc x k)] } := by
          have hne : ¬ (FN F a x k).left = 0 := by rw [← hlk]; exact hz
          by_cases hp : 0 < lk
          · refine ⟨_, lk - 1, { FN F a x k with left := lk - 1 }, if_pos hp, ?_, HU.out.setCell (a := ⟨p, 4, none⟩) HF2.out.tp h0 HF2.out.blk (by unfold ctl; decide) _, rfl, rfl, ?_⟩
            · have hset := blk_set hF2.blk 4 (.int .i64 (lk - 1))
              refine hF2.stored h9 hF2.tp (fun q hq hne => Below.heap_setCell _ _ _ _ hne) (by simp [World.setCell]) (fun _ _ => rfl) ?_ (fun _ => rfl) rfl rfl
              rw [hset, ← hlk]
              simp [show (0 : Int) ≤ lk from by omega, show (1 : Int) ≤ lk from by omega]
            · unfold rawF
              rw [if_neg hne, if_pos (by rw [← hlk]; exact hp), ← hlk]
          · refine ⟨_, lf2, FN F a x k, if_neg hp, hF2, HU.out, rfl, rfl, ?_⟩
            unfold rawF
            rw [if_neg hne, if_neg (by rw [← hlk]; exact hp)]
        rw [HSUC.out] at hrest
        have hk16 : k * 16 < x.length := by have := HIV.out; omega
        obtain ⟨hi, hhi2, hlo2⟩ : ∃ hi : Nat, hi = min (iv + 16) x.length ∧ iv < hi := ⟨_, rfl, by omega⟩
        obtain ⟨Ap, l', hl', hl'n, hcut, hcr, hlc⟩ := cut_int A x c (iv : Int) (hi : Int) (by omega) (by omega) (by omega) hc
        have hlp : l' = pc x k := by
          have := hl'.out
          rw [Int.toNat_natCast, show ((hi : Int) - (iv : Int)).toNat = hi - iv from by omega] at this
          rw [this]
          unfold pc
          rw [← HIV.out]
          have e : hi - iv = min 16 (x.drop iv).length := by rw [List.length_drop]; omega
          rw [e, ← List.take_eq_take_min]
        have hpn : 0 < l'.length ∧ l'.length ≤ 16 := by
          have := hl'n.out
          omega
        have HCR := Lib.hid hcr
        obtain ⟨_, _, _, _, _, d5⟩ := hF3.cells
        have d0 := hF3.cells.1
        have hbe : F1.b.length = bk := by rw [hF1b]; exact hbk.symm
        have hfl2 : a + iv ≤ bk ∧ bk ≤ 4194304 := by
          have := HBL.out
          omega
        have hlay := refLay_any Ab cb2 F1.b (a + iv) Ap (c - iv) l' W1 (own_rdv hF3.ob).1 (hcr _ (hU3.rd HR.out hA)) (by omega) (by omega) (by omega) (by rw [hlp]; exact pc_bts HBX.out k)
        rw [hbe, Int.natCast_add] at hlay
        rw [Int.toNat_natCast] at hcut
        have HLAY := Lib.hid hlay
        have HF3 := Lib.hid hF3
        have HU3 := Lib.hid hU3
        have hpl1 : p < W1.heap.size := (Array.getElem?_eq_some_iff.1 hF3.blk).1
        have HREST := Lib.hid hrest
        have HLP := Lib.hid hlp
        have HLL2 := Lib.hid (show L2.length ≤ 1000000000 by
          have := rws_length L2
          rw [hF3.raws, hF1r] at this
          omega)
        have HHI := Lib.hid hhi2
        have hfz4 : wr.frozen? ⟨p, 4, none⟩ = false := blk_frozen hF2.blk 4
        have hlk3 := hF2.lf
        rw [← hlk] at hlk3
        clear hF2 hF3 hU3 hrest hlp hlay hl' hl'n hcr hF1b hF1r hbk hfl hrk hbe hlk hlk2 HSUC
        have hlkb : -9223372036854775808 ≤ lk ∧ lk ≤ 9223372036854775807 := by
          have e := HLK.out
          have e2 : (FN F a x k).left = if 0 ≤ F.left then F.left - k else F.left := rfl
          rw [e2] at e
          split at e <;> omega
        by_cases hp : 0 < lk
        · rw [if_pos hp] at hW1
          have hpb : decide (0 ≤ lk) = true := by simp; omega
          rw [hpb] at c3
          rw [hlk3 (by omega)] at c4
          have hz' : (lk == 0) = false := by rw [beq_eq_false_iff_ne]; exact hz
          clear hpb hlk3
          -- the round
          by_cases hmin : (iv : Int) + 16 ≤ (x.length : Int)
          · have hhe : (hi : Int) = (iv : Int) + 16 := by omega
            rw [hhe] at hcut
            clear hhi2 hhe
            go_wp2_with (go_at_call 41; refine HLAY.out.mono ?_; rintro e w5 ⟨vl, rfl, hol, hbl5⟩; obtain ⟨Al, ml, cl, rfl, HML, hol2⟩ := own_splitL hol; have hq5 := (hbl5.block p hpl1).trans HF3.out.blk; have f0 := blk_frozen hq5 0; obtain ⟨z0, y0⟩ := cell_in hq5 (i := 0) (by simp); have HQ5 := Lib.hid hq5; have HOL := Lib.hid hol2; have HBL5 := Lib.hid hbl5; clear hol hol2 hbl5 hq5)
            obtain ⟨o4, hu4, hn4, hk4⟩ := HU3.out.noteV HBL5.out HOL.out i (.inl rfl)
            have hp4 := blk_set HQ5.out 0 (.slice Al ml cl)
            have hop : o4 p = i := (hk4 p hpl1).trans HF3.out.tp
            have HU5 := Lib.hid (hu4.setCell (a := ⟨p, 0, none⟩) hop h0 HQ5.out (by unfold ctl; decide) (.slice Al ml cl))
            have hF5 := HF3.out.bytes (W' := w5.setCell ⟨p, 0, none⟩ (.slice Al ml cl)) (o' := o4) (v' := .slice Al ml cl) h9 (fun q hq hne _ => by
                rw [Below.heap_setCell _ _ _ _ (show q ≠ (⟨p, 0, none⟩ : Addr).block from hne)]
                exact HBL5.out.block q hq) hk4 (by have := HBL5.out.size; simp [World.setCell]; exact this) (layL F1.b (a + iv) l') (by simpa using hp4)
                (row_weaken (own_setR HOL.out HQ5.out (by decide) _)) (fun g hg => (hn4 g hg).1)
            have HF5 := Lib.hid hF5
            have e45 := hF5.cells.2.2.2.2.2
            have HRP5 := Lib.hid (HCR.out _ (HU5.out.rd HR.out hA))
            obtain ⟨W4, hW4⟩ : ∃ W4, W4 = w5.setCell ⟨p, 0, none⟩ (.slice Al ml cl) := ⟨_, rfl⟩
            rw [← hW4] at HF5 HU5 e45 HRP5 ⊢
            obtain ⟨iR, hiR, hr0, hr1, hr2⟩ := info_parts infoRR
            have hp5 := hF5.blk
            rw [← hW4] at hp5
            have HP5 := Lib.hid hp5
            have hpl4 := (Array.getElem?_eq_some_iff.1 hp5).1
            have HNV := Lib.hid (show vr2.ownBlock ≠ some p from HF5.out.ne.2)
            have HFR5 := Lib.hid (show ∀ w9, Below W4.drew.heap.size W4.drew w9 → w9.cell? ⟨p, 5, none⟩ = some vr2 from fun w9 hb => (World.cell?_of_block (w := W4) (hb.block p hpl4)).trans e45)
            have e45d : W4.drew.cell? ⟨p, 5, none⟩ = some vr2 := e45
            have e46 : ∀ ob, (W4.drew.alloc ob).cell? ⟨p, 5, none⟩ = some vr2 := fun ob => HFR5.out _ ((Below.refl _ _).alloc (Nat.le_refl _) ob)
            have HOE := Lib.hid (own_empty W4.drew W4.drew.heap.size (Nat.le_refl _))
            have HBE := Lib.hid ((Below.refl W4.drew.heap.size W4.drew).alloc (Nat.le_refl _) (.cells #[] 5))
            have hwr : IntKind.i64.wrap ((a : Int) + (iv : Int)) = (a : Int) + (iv : Int) := by rw [IntKind.wrap_i64]; omega
            clear hF5 hp4 hop hW4 hu4 hn4 hk4 f0 y0 c0 c1 c2 c3 c4 c5 d0 d5 hcut hfz4 hp5 HLAY HOL HBL5 HQ5 HF3 HF2
            go_region_law
              (first
                | (refine step_appO rfl (.tmp 95) (.tmp 96) rfl W4.drew.heap.size (.slice (some ⟨W4.drew.heap.size, 0, none⟩) 0 0) l' Ap (c - iv) (by simp [Act.eval]) (by simp [Act.eval]) HOE.out (Rd.below' HRP5.out HBE.out) hpn.1 (by omega) HBE.out.size ?_; intro Ax m6 cx w6 hm6 hx6 g6; have HM6 := Lib.hid hm6; have HX6 := Lib.hid hx6; have HB6 := Lib.hid (HBE.out.grown g6 HBE.out.size (by simp [Value.ownBlock])); have e55 := HFR5.out _ HB6.out; have e56 := HFR5.out _ (HB6.out.alloc HB6.out.size (.cells #[.int .i64 ((a : Int) + (iv : Int)), .slice Ax m6 cx] 86)); clear hx6 g6 hm6)
                | (refine step_append_lies _ rfl (.tmp 91) (.tmp 99) 57 rfl 0 86 iR (.agg #[.int .i64 0, .slice none 0 0]) 2 32 Tryd.underlying57 hiR hr0 hr1 hr2 rfl (by decide) vr2 L2.length (rwv L2) (by simp [Act.eval]) (ownsRow_keep HF5.out.rw.own fun g hg hl => (HB6.out.alloc HB6.out.size _).block g hl) _ 1 1 [.int .i64 ((a : Int) + (iv : Int)), .slice Ax m6 cx] (by simp [Act.eval]) rfl (World.news_of_block (World.alloc_heap_new _ _)) (by simp [Value.oneCell']) (by decide) (by simp only [maxLen]; have := HLL2.out; omega) (by have := HLL2.out; omega) (Nat.zero_le _) _ rfl ?_; intro g7 cap7 w7 hown hgrow hat hlt7; have hp7 := (hgrow.block p (Nat.lt_of_lt_of_le hpl4 (by have := HB6.out.size; simp at this ⊢; omega)) (fun e => HNV.out e.symm)).trans ((HB6.out.alloc HB6.out.size _).block p hpl4 |>.trans HP5.out); have S6 := blk_cell hp7 5; have e76 := blk_frozen hp7 5; clear hp7))
            all_goals
              obtain ⟨o8, hU8, hF8⟩ := ref_end o o4 i h0 h9 p w W4 w6 w7 _ _ vr2 lf3 L2 HF5.out HU5.out Ax cx m6 l' ((a : Int) + (iv : Int)) HM6.out HX6.out HB6.out g7 cap7 hown hgrow hat hlt7
              rw [HLP.out, HIV.out, show (a : Int) + ((k * 16 : Nat) : Int) = ((a + k * 16 : Nat) : Int) from (Int.natCast_add _ _).symm] at hF8
              have hF9 : RefA (w7.setCell ⟨p, 5, none⟩ (.slice (some ⟨g7, 0, none⟩) (L2.length + 1) cap7)) o8 i p (FN F a x (k + 1)) := by rw [HREST.out]; exact hF8
              have HU8 := Lib.hid hU8
              have HF9 := Lib.hid hF9
              clear hU8 hF8 hF9 hown hgrow hat hlt7
              go_wp2_with fail
              go_roundw
              case rel => exact ⟨k + 1, by have := HIV.out; omega, by rw [Nat.succ_mul, ← HIV.out]; push_cast; rfl, by omega, o8, HU8.out, HF9.out⟩
              case measure => simp [intOf]; omega
          · have hhe : (hi : Int) = (x.length : Int) := by omega
            rw [hhe] at hcut
            clear hhi2 hhe
            go_wp2_with (go_at_call 41; refine HLAY.out.mono ?_; rintro e w5 ⟨vl, rfl, hol, hbl5⟩; obtain ⟨Al, ml, cl, rfl, HML, hol2⟩ := own_splitL hol; have hq5 := (hbl5.block p hpl1).trans HF3.out.blk; have f0 := blk_frozen hq5 0; obtain ⟨z0, y0⟩ := cell_in hq5 (i := 0) (by simp); have HQ5 := Lib.hid hq5; have HOL := Lib.hid hol2; have HBL5 := Lib.hid hbl5; clear hol hol2 hbl5 hq5)
            obtain ⟨o4, hu4, hn4, hk4⟩ := HU3.out.noteV HBL5.out HOL.out i (.inl rfl)
            have hp4 := blk_set HQ5.out 0 (.slice Al ml cl)
            have hop : o4 p = i := (hk4 p hpl1).trans HF3.out.tp
            have HU5 := Lib.hid (hu4.setCell (a := ⟨p, 0, none⟩) hop h0 HQ5.out (by unfold ctl; decide) (.slice Al ml cl))
            have hF5 := HF3.out.bytes (W' := w5.setCell ⟨p, 0, none⟩ (.slice Al ml cl)) (o' := o4) (v' := .slice Al ml cl) h9 (fun q hq hne _ => by
                rw [Below.heap_setCell _ _ _ _ (show q ≠ (⟨p, 0, none⟩ : Addr).block from hne)]
                exact HBL5.out.block q hq) hk4 (by have := HBL5.out.size; simp [World.setCell]; exact this) (layL F1.b (a + iv) l') (by simpa using hp4)
                (row_weaken (own_setR HOL.out HQ5.out (by decide) _)) (fun g hg => (hn4 g hg).1)
            have HF5 := Lib.hid hF5
            have e45 := hF5.cells.2.2.2.2.2
            have HRP5 := Lib.hid (HCR.out _ (HU5.out.rd HR.out hA))
            obtain ⟨W4, hW4⟩ : ∃ W4, W4 = w5.setCell ⟨p, 0, none⟩ (.slice Al ml cl) := ⟨_, rfl⟩
            rw [← hW4] at HF5 HU5 e45 HRP5 ⊢
            obtain ⟨iR, hiR, hr0, hr1, hr2⟩ := info_parts infoRR
            have hp5 := hF5.blk
            rw [← hW4] at hp5
            have HP5 := Lib.hid hp5
            have hpl4 := (Array.getElem?_eq_some_iff.1 hp5).1
            have HNV := Lib.hid (show vr2.ownBlock ≠ some p from HF5.out.ne.2)
            have HFR5 := Lib.hid (show ∀ w9, Below W4.drew.heap.size W4.drew w9 → w9.cell? ⟨p, 5, none⟩ = some vr2 from fun w9 hb => (World.cell?_of_block (w := W4) (hb.block p hpl4)).trans e45)
            have e45d : W4.drew.cell? ⟨p, 5, none⟩ = some vr2 := e45
            have e46 : ∀ ob, (W4.drew.alloc ob).cell? ⟨p, 5, none⟩ = some vr2 := fun ob => HFR5.out _ ((Below.refl _ _).alloc (Nat.le_refl _) ob)
            have HOE := Lib.hid (own_empty W4.drew W4.drew.heap.size (Nat.le_refl _))
            have HBE := Lib.hid ((Below.refl W4.drew.heap.size W4.drew).alloc (Nat.le_refl _) (.cells #[] 5))
            have hwr : IntKind.i64.wrap ((a : Int) + (iv : Int)) = (a : Int) + (iv : Int) := by rw [IntKind.wrap_i64]; omega
            clear hF5 hp4 hop hW4 hu4 hn4 hk4 f0 y0 c0 c1 c2 c3 c4 c5 d0 d5 hcut hfz4 hp5 HLAY HOL HBL5 HQ5 HF3 HF2
            go_region_law
              (first
                | (refine step_appO rfl (.tmp 95) (.tmp 96) rfl W4.drew.heap.size (.slice (some ⟨W4.drew.heap.size, 0, none⟩) 0 0) l' Ap (c - iv) (by simp [Act.eval]) (by simp [Act.eval]) HOE.out (Rd.below' HRP5.out HBE.out) hpn.1 (by omega) HBE.out.size ?_; intro Ax m6 cx w6 hm6 hx6 g6; have HM6 := Lib.hid hm6; have HX6 := Lib.hid hx6; have HB6 := Lib.hid (HBE.out.grown g6 HBE.out.size (by simp [Value.ownBlock])); have e55 := HFR5.out _ HB6.out; have e56 := HFR5.out _ (HB6.out.alloc HB6.out.size (.cells #[.int .i64 ((a : Int) + (iv : Int)), .slice Ax m6 cx] 86)); clear hx6 g6 hm6)
                | (refine step_append_lies _ rfl (.tmp 91) (.tmp 99) 57 rfl 0 86 iR (.agg #[.int .i64 0, .slice none 0 0]) 2 32 Tryd.underlying57 hiR hr0 hr1 hr2 rfl (by decide) vr2 L2.length (rwv L2) (by simp [Act.eval]) (ownsRow_keep HF5.out.rw.own fun g hg hl => (HB6.out.alloc HB6.out.size _).block g hl) _ 1 1 [.int .i64 ((a : Int) + (iv : Int)), .slice Ax m6 cx] (by simp [Act.eval]) rfl (World.news_of_block (World.alloc_heap_new _ _)) (by simp [Value.oneCell']) (by decide) (by simp only [maxLen]; have := HLL2.out; omega) (by have := HLL2.out; omega) (Nat.zero_le _) _ rfl ?_; intro g7 cap7 w7 hown hgrow hat hlt7; have hp7 := (hgrow.block p (Nat.lt_of_lt_of_le hpl4 (by have := HB6.out.size; simp at this ⊢; omega)) (fun e => HNV.out e.symm)).trans ((HB6.out.alloc HB6.out.size _).block p hpl4 |>.trans HP5.out); have S6 := blk_cell hp7 5; have e76 := blk_frozen hp7 5; clear hp7))
            all_goals
              obtain ⟨o8, hU8, hF8⟩ := ref_end o o4 i h0 h9 p w W4 w6 w7 _ _ vr2 lf3 L2 HF5.out HU5.out Ax cx m6 l' ((a : Int) + (iv : Int)) HM6.out HX6.out HB6.out g7 cap7 hown hgrow hat hlt7
              rw [HLP.out, HIV.out, show (a : Int) + ((k * 16 : Nat) : Int) = ((a + k * 16 : Nat) : Int) from (Int.natCast_add _ _).symm] at hF8
              have hF9 : RefA (w7.setCell ⟨p, 5, none⟩ (.slice (some ⟨g7, 0, none⟩) (L2.length + 1) cap7)) o8 i p (FN F a x (k + 1)) := by rw [HREST.out]; exact hF8
              have HU8 := Lib.hid hU8
              have HF9 := Lib.hid hF9
              clear hU8 hF8 hF9 hown hgrow hat hlt7
              go_wp2_with fail
              go_roundw
              case rel => exact ⟨k + 1, by have := HIV.out; omega, by rw [Nat.succ_mul, ← HIV.out]; push_cast; rfl, by omega, o8, HU8.out, HF9.out⟩
              case measure => simp [intOf]; omega
        · rw [if_neg hp] at hW1
          have hpb : decide (0 ≤ lk) = false := by simp; omega
          rw [hpb] at c3
          clear hpb hlk3
          subst hW1
          by_cases hmin : (iv : Int) + 16 ≤ (x.length : Int)
          · have hhe : (hi : Int) = (iv : Int) + 16 := by omega
            rw [hhe] at hcut
            clear hhi2 hhe
            go_wp2_with (go_at_call 41; refine HLAY.out.mono ?_; rintro e w5 ⟨vl, rfl, hol, hbl5⟩; obtain ⟨Al, ml, cl, rfl, HML, hol2⟩ := own_splitL hol; have hq5 := (hbl5.block p hpl1).trans HF3.out.blk; have f0 := blk_frozen hq5 0; obtain ⟨z0, y0⟩ := cell_in hq5 (i := 0) (by simp); have HQ5 := Lib.hid hq5; have HOL := Lib.hid hol2; have HBL5 := Lib.hid hbl5; clear hol hol2 hbl5 hq5)
            obtain ⟨o4, hu4, hn4, hk4⟩ := HU3.out.noteV HBL5.out HOL.out i (.inl rfl)
            have hp4 := blk_set HQ5.out 0 (.slice Al ml cl)
            have hop : o4 p = i := (hk4 p hpl1).trans HF3.out.tp
            have HU5 := Lib.hid (hu4.setCell (a := ⟨p, 0, none⟩) hop h0 HQ5.out (by unfold ctl; decide) (.slice Al ml cl))
            have hF5 := HF3.out.bytes (W' := w5.setCell ⟨p, 0, none⟩ (.slice Al ml cl)) (o' := o4) (v' := .slice Al ml cl) h9 (fun q hq hne _ => by
                rw [Below.heap_setCell _ _ _ _ (show q ≠ (⟨p, 0, none⟩ : Addr).block from hne)]
                exact HBL5.out.block q hq) hk4 (by have := HBL5.out.size; simp [World.setCell]; exact this) (layL F1.b (a + iv) l') (by simpa using hp4)
                (row_weaken (own_setR HOL.out HQ5.out (by decide) _)) (fun g hg => (hn4 g hg).1)
            have HF5 := Lib.hid hF5
            have e45 := hF5.cells.2.2.2.2.2
            have HRP5 := Lib.hid (HCR.out _ (HU5.out.rd HR.out hA))
            obtain ⟨W4, hW4⟩ : ∃ W4, W4 = w5.setCell ⟨p, 0, none⟩ (.slice Al ml cl) := ⟨_, rfl⟩
            rw [← hW4] at HF5 HU5 e45 HRP5 ⊢
            obtain ⟨iR, hiR, hr0, hr1, hr2⟩ := info_parts infoRR
            have hp5 := hF5.blk
            rw [← hW4] at hp5
            have HP5 := Lib.hid hp5
            have hpl4 := (Array.getElem?_eq_some_iff.1 hp5).1
            have HNV := Lib.hid (show vr2.ownBlock ≠ some p from HF5.out.ne.2)
            have HFR5 := Lib.hid (show ∀ w9, Below W4.drew.heap.size W4.drew w9 → w9.cell? ⟨p, 5, none⟩ = some vr2 from fun w9 hb => (World.cell?_of_block (w := W4) (hb.block p hpl4)).trans e45)
            have e45d : W4.drew.cell? ⟨p, 5, none⟩ = some vr2 := e45
            have e46 : ∀ ob, (W4.drew.alloc ob).cell? ⟨p, 5, none⟩ = some vr2 := fun ob => HFR5.out _ ((Below.refl _ _).alloc (Nat.le_refl _) ob)
            have HOE := Lib.hid (own_empty W4.drew W4.drew.heap.size (Nat.le_refl _))
            have HBE := Lib.hid ((Below.refl W4.drew.heap.size W4.drew).alloc (Nat.le_refl _) (.cells #[] 5))
            have hwr : IntKind.i64.wrap ((a : Int) + (iv : Int)) = (a : Int) + (iv : Int) := by rw [IntKind.wrap_i64]; omega
            clear hF5 hp4 hop hW4 hu4 hn4 hk4 f0 y0 c0 c1 c2 c3 c4 c5 d0 d5 hcut hfz4 hp5 HLAY HOL HBL5 HQ5 HF3 HF2
            go_region_law
              (first
                | (refine step_appO rfl (.tmp 95) (.tmp 96) rfl W4.drew.heap.size (.slice (some ⟨W4.drew.heap.size, 0, none⟩) 0 0) l' Ap (c - iv) (by simp [Act.eval]) (by simp [Act.eval]) HOE.out (Rd.below' HRP5.out HBE.out) hpn.1 (by omega) HBE.out.size ?_; intro Ax m6 cx w6 hm6 hx6 g6; have HM6 := Lib.hid hm6; have HX6 := Lib.hid hx6; have HB6 := Lib.hid (HBE.out.grown g6 HBE.out.size (by simp [Value.ownBlock])); have e55 := HFR5.out _ HB6.out; have e56 := HFR5.out _ (HB6.out.alloc HB6.out.size (.cells #[.int .i64 ((a : Int) + (iv : Int)), .slice Ax m6 cx] 86)); clear hx6 g6 hm6)
                | (refine step_append_lies _ rfl (.tmp 91) (.tmp 99) 57 rfl 0 86 iR (.agg #[.int .i64 0, .slice none 0 0]) 2 32 Tryd.underlying57 hiR hr0 hr1 hr2 rfl (by decide) vr2 L2.length (rwv L2) (by simp [Act.eval]) (ownsRow_keep HF5.out.rw.own fun g hg hl => (HB6.out.alloc HB6.out.size _).block g hl) _ 1 1 [.int .i64 ((a : Int) + (iv : Int)), .slice Ax m6 cx] (by simp [Act.eval]) rfl (World.news_of_block (World.alloc_heap_new _ _)) (by simp [Value.oneCell']) (by decide) (by simp only [maxLen]; have := HLL2.out; omega) (by have := HLL2.out; omega) (Nat.zero_le _) _ rfl ?_; intro g7 cap7 w7 hown hgrow hat hlt7; have hp7 := (hgrow.block p (Nat.lt_of_lt_of_le hpl4 (by have := HB6.out.size; simp at this ⊢; omega)) (fun e => HNV.out e.symm)).trans ((HB6.out.alloc HB6.out.size _).block p hpl4 |>.trans HP5.out); have S6 := blk_cell hp7 5; have e76 := blk_frozen hp7 5; clear hp7))
            all_goals
              obtain ⟨o8, hU8, hF8⟩ := ref_end o o4 i h0 h9 p w W4 w6 w7 _ _ vr2 lf3 L2 HF5.out HU5.out Ax cx m6 l' ((a : Int) + (iv : Int)) HM6.out HX6.out HB6.out g7 cap7 hown hgrow hat hlt7
              rw [HLP.out, HIV.out, show (a : Int) + ((k * 16 : Nat) : Int) = ((a + k * 16 : Nat) : Int) from (Int.natCast_add _ _).symm] at hF8
              have hF9 : RefA (w7.setCell ⟨p, 5, none⟩ (.slice (some ⟨g7, 0, none⟩) (L2.length + 1) cap7)) o8 i p (FN F a x (k + 1)) := by rw [HREST.out]; exact hF8
              have HU8 := Lib.hid hU8
              have HF9 := Lib.hid hF9
              clear hU8 hF8 hF9 hown hgrow hat hlt7
              go_wp2_with fail
              go_roundw
              case rel => exact ⟨k + 1, by have := HIV.out; omega, by rw [Nat.succ_mul, ← HIV.out]; push_cast; rfl, by omega, o8, HU8.out, HF9.out⟩
              case measure => simp [intOf]; omega
          · have hhe : (hi : Int) = (x.length : Int) := by omega
            rw [hhe] at hcut
            clear hhi2 hhe
            go_wp2_with (go_at_call 41; refine HLAY.out.mono ?_; rintro e w5 ⟨vl, rfl, hol, hbl5⟩; obtain ⟨Al, ml, cl, rfl, HML, hol2⟩ := own_splitL hol; have hq5 := (hbl5.block p hpl1).trans HF3.out.blk; have f0 := blk_frozen hq5 0; obtain ⟨z0, y0⟩ := cell_in hq5 (i := 0) (by simp); have HQ5 := Lib.hid hq5; have HOL := Lib.hid hol2; have HBL5 := Lib.hid hbl5; clear hol hol2 hbl5 hq5)
            obtain ⟨o4, hu4, hn4, hk4⟩ := HU3.out.noteV HBL5.out HOL.out i (.inl rfl)
            have hp4 := blk_set HQ5.out 0 (.slice Al ml cl)
            have hop : o4 p = i := (hk4 p hpl1).trans HF3.out.tp
            have HU5 := Lib.hid (hu4.setCell (a := ⟨p, 0, none⟩) hop h0 HQ5.out (by unfold ctl; decide) (.slice Al ml cl))
            have hF5 := HF3.out.bytes (W' := w5.setCell ⟨p, 0, none⟩ (.slice Al ml cl)) (o' := o4) (v' := .slice Al ml cl) h9 (fun q hq hne _ => by
                rw [Below.heap_setCell _ _ _ _ (show q ≠ (⟨p, 0, none⟩ : Addr).block from hne)]
                exact HBL5.out.block q hq) hk4 (by have := HBL5.out.size; simp [World.setCell]; exact this) (layL F1.b (a + iv) l') (by simpa using hp4)
                (row_weaken (own_setR HOL.out HQ5.out (by decide) _)) (fun g hg => (hn4 g hg).1)
            have HF5 := Lib.hid hF5
            have e45 := hF5.cells.2.2.2.2.2
            have HRP5 := Lib.hid (HCR.out _ (HU5.out.rd HR.out hA))
            obtain ⟨W4, hW4⟩ : ∃ W4, W4 = w5.setCell ⟨p, 0, none⟩ (.slice Al ml cl) := ⟨_, rfl⟩
            rw [← hW4] at HF5 HU5 e45 HRP5 ⊢
            obtain ⟨iR, hiR, hr0, hr1, hr2⟩ := info_parts infoRR
            have hp5 := hF5.blk
            rw [← hW4] at hp5
            have HP5 := Lib.hid hp5
            have hpl4 := (Array.getElem?_eq_some_iff.1 hp5).1
            have HNV := Lib.hid (show vr2.ownBlock ≠ some p from HF5.out.ne.2)
            have HFR5 := Lib.hid (show ∀ w9, Below W4.drew.heap.size W4.drew w9 → w9.cell? ⟨p, 5, none⟩ = some vr2 from fun w9 hb => (World.cell?_of_block (w := W4) (hb.block p hpl4)).trans e45)
            have e45d : W4.drew.cell? ⟨p, 5, none⟩ = some vr2 := e45
            have e46 : ∀ ob, (W4.drew.alloc ob).cell? ⟨p, 5, none⟩ = some vr2 := fun ob => HFR5.out _ ((Below.refl _ _).alloc (Nat.le_refl _) ob)
            have HOE := Lib.hid (own_empty W4.drew W4.drew.heap.size (Nat.le_refl _))
            have HBE := Lib.hid ((Below.refl W4.drew.heap.size W4.drew).alloc (Nat.le_refl _) (.cells #[] 5))
            have hwr : IntKind.i64.wrap ((a : Int) + (iv : Int)) = (a : Int) + (iv : Int) := by rw [IntKind.wrap_i64]; omega
            clear hF5 hp4 hop hW4 hu4 hn4 hk4 f0 y0 c0 c1 c2 c3 c4 c5 d0 d5 hcut hfz4 hp5 HLAY HOL HBL5 HQ5 HF3 HF2
            go_region_law
              (first
                | (refine step_appO rfl (.tmp 95) (.tmp 96) rfl W4.drew.heap.size (.slice (some ⟨W4.drew.heap.size, 0, none⟩) 0 0) l' Ap (c - iv) (by simp [Act.eval]) (by simp [Act.eval]) HOE.out (Rd.below' HRP5.out HBE.out) hpn.1 (by omega) HBE.out.size ?_; intro Ax m6 cx w6 hm6 hx6 g6; have HM6 := Lib.hid hm6; have HX6 := Lib.hid hx6; have HB6 := Lib.hid (HBE.out.grown g6 HBE.out.size (by simp [Value.ownBlock])); have e55 := HFR5.out _ HB6.out; have e56 := HFR5.out _ (HB6.out.alloc HB6.out.size (.cells #[.int .i64 ((a : Int) + (iv : Int)), .slice Ax m6 cx] 86)); clear hx6 g6 hm6)
                | (refine step_append_lies _ rfl (.tmp 91) (.tmp 99) 57 rfl 0 86 iR (.agg #[.int .i64 0, .slice none 0 0]) 2 32 Tryd.underlying57 hiR hr0 hr1 hr2 rfl (by decide) vr2 L2.length (rwv L2) (by simp [Act.eval]) (ownsRow_keep HF5.out.rw.own fun g hg hl => (HB6.out.alloc HB6.out.size _).block g hl) _ 1 1 [.int .i64 ((a : Int) + (iv : Int)), .slice Ax m6 cx] (by simp [Act.eval]) rfl (World.news_of_block (World.alloc_heap_new _ _)) (by simp [Value.oneCell']) (by decide) (by simp only [maxLen]; have := HLL2.out; omega) (by have := HLL2.out; omega) (Nat.zero_le _) _ rfl ?_; intro g7 cap7 w7 hown hgrow hat hlt7; have hp7 := (hgrow.block p (Nat.lt_of_lt_of_le hpl4 (by have := HB6.out.size; simp at this ⊢; omega)) (fun e => HNV.out e.symm)).trans ((HB6.out.alloc HB6.out.size _).block p hpl4 |>.trans HP5.out); have S6 := blk_cell hp7 5; have e76 := blk_frozen hp7 5; clear hp7))
            all_goals
              obtain ⟨o8, hU8, hF8⟩ := ref_end o o4 i h0 h9 p w W4 w6 w7 _ _ vr2 lf3 L2 HF5.out HU5.out Ax cx m6 l' ((a : Int) + (iv : Int)) HM6.out HX6.out HB6.out g7 cap7 hown hgrow hat hlt7
              rw [HLP.out, HIV.out, show (a : Int) + ((k * 16 : Nat) : Int) = ((a + k * 16 : Nat) : Int) from (Int.natCast_add _ _).symm] at hF8
              have hF9 : RefA (w7.setCell ⟨p, 5, none⟩ (.slice (some ⟨g7, 0, none⟩) (L2.length + 1) cap7)) o8 i p (FN F a x (k + 1)) := by rw [HREST.out]; exact hF8
              have HU8 := Lib.hid hU8
              have HF9 := Lib.hid hF9
              clear hU8 hF8 hF9 hown hgrow hat hlt7
              go_wp2_with fail
              go_roundw
              case rel => exact ⟨k + 1, by have := HIV.out; omega, by rw [Nat.succ_mul, ← HIV.out]; push_cast; rfl, by omega, o8, HU8.out, HF9.out⟩
              case measure => simp [intOf]; omega
    · have hkN : k = chN x.length 16 := by
        have := chN_lt (len := x.length) (sz := 16) (k := k) (by decide)
        have := chN_lt (len := x.length) (sz := 16) (k := k - 1) (by decide)
        have := HIV.out
        omega
      have hwE : wrE F x = 0 := by unfold wrE; rw [if_neg (by omega)]
      have hwF : wrF F a x = FN F a x k := by unfold wrF; rw [if_neg (by omega), hkN]
      have HWE := Lib.hid hwE
      have HWF := Lib.hid hwF
      clear hwE hwF hkN
      go_wp2_with fail
      go_ret
      exact ⟨o', by rw [HWE.out] <;> rfl, HU.out, by rw [HWF.out]; exact HFK.out⟩
end Go.Proofs.YtadmpjikkpnjnaaDoor
