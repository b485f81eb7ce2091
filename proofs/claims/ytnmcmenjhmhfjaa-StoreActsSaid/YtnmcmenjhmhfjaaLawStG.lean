/-
  StoreActs: the walk. No premise.
-/
import Derived.Test.YtnmcmenjhmhfjaaSaP
namespace Go.Proofs.Ytnmcmenjhmhfjaa
open Go.RowKit Go.Shelf Go.Proofs.YtnmcmenjhmhfjaaW.PrintWords

/-- The box of an act. -/
def Bx (W : World) (x : Nat) (kd pl n : Int) (A : Option Addr) (m c : Nat) : Prop := W.heap[x]? = some (.cells #[.int .i64 kd, .int .i64 pl, .int .i64 n, .slice A m c] 28 (0, 0))
theorem Bx.cells {W : World} {x : Nat} {kd pl n : Int} {A : Option Addr} {m c : Nat} (h : Bx W x kd pl n A m c) : W.cell? ⟨x, 1, none⟩ = some (.int .i64 pl) ∧ W.cell? ⟨x, 2, none⟩ = some (.int .i64 n) ∧ W.cell? ⟨x, 3, none⟩ = some (.slice A m c) :=
  ⟨blk_cell h 1, blk_cell h 2, blk_cell h 3⟩
theorem Bx.below {W W' : World} {x : Nat} {kd pl n : Int} {A : Option Addr} {m c : Nat} (h : Bx W x kd pl n A m c) (hb : Below W.heap.size W W') : Bx W' x kd pl n A m c := (hb.block x (Array.getElem?_eq_some_iff.1 h).1).trans h
theorem Bx.upd {W W' : World} {o o' : Nat → Nat} {i x : Nat} {kd pl n : Int} {A : Option Addr} {m c : Nat} (h : Bx W x kd pl n A m c) (hu : Upd o o' i W W') (ho : o x = 0) (hi : i ≠ 0) : Bx W' x kd pl n A m c ∧ o' x = 0 := by
  have hx := (Array.getElem?_eq_some_iff.1 h).1
  exact ⟨(hu.blk x hx (by rw [ho]; exact fun e => hi e.symm)).trans h, (hu.old x hx).trans ho⟩
theorem SA.put {w W : World} {o : Nat → Nat} {a b c d p q u v : Nat} {F R G S : FM} (h : SA w W o a b c d p q u v F R G S) (D : Dst a b c d) {g : Nat} (j : Nat) (val : Value) (ho : o g = 0) (hg : w.heap.size ≤ g) : SA w (W.setCell ⟨g, j, none⟩ val) o a b c d p q u v F R G S := by
  have hk : ∀ i, i ≠ 0 → ∀ k, k < W.heap.size → o k = i ∨ o k = 9 → (W.setCell ⟨g, j, none⟩ val).heap[k]? = W.heap[k]? ∧ o k = o k := fun i hi k _ hk => ⟨Below.heap_setCell _ _ _ _ (fun e => by
    have e' : k = g := e
    rw [e', ho] at hk
    rcases hk with h1 | h1
    · exact hi h1.symm
    · exact absurd h1 (by decide)), rfl⟩
  have hs : W.heap.size ≤ (W.setCell ⟨g, j, none⟩ val).heap.size := by simp [World.setCell]
  exact ⟨h.f.keep (hk _ D.a0) hs, h.r.keep (hk _ D.b0) hs, h.g.keep (hk _ D.c0) hs, h.s.keep (hk _ D.d0) hs, h.fr.mono hs, h.lo, h.bel.setCell (p := ⟨g, j, none⟩) hg _⟩
theorem own_pre {W : World} {base g m c : Nat} {x : List Int} {z : Int} (h : Own W base (.slice (some ⟨g, 0, none⟩) m c) (x ++ [z])) : Rd W (some ⟨g, 0, none⟩) x := by
  obtain ⟨A', c', hv, hrd⟩ := own_reads h
  injection hv with e1 e2 e3
  subst e1
  have := hrd.take_ x.length (by simp)
  rwa [List.take_left] at this
/-- What a write of an act looks at. -/
structure InS (W : World) (o : Nat → Nat) (x g : Nat) (kd pl n : Int) (A : Option Addr) (y : List Int) (rc base m c : Nat) : Prop where
  bx : Bx W x kd pl n A y.length rc
  ow : Own W base (.slice (some ⟨g, 0, none⟩) m c) (y ++ [90])
  rd : Rd W A y
  ox : o x = 0
  og : o g = 0
theorem InS.upd {W W' : World} {o o' : Nat → Nat} {x g i : Nat} {kd pl n : Int} {A : Option Addr} {y : List Int} {rc base m c : Nat} (h : InS W o x g kd pl n A y rc base m c) (hu : Upd o o' i W W') (hi : i ≠ 0) (hA : 0 < y.length → ∀ a, A = some a → o a.block ≠ i) : InS W' o' x g kd pl n A y rc base m c := by
  obtain ⟨h1, h2⟩ := h.bx.upd hu h.ox hi
  exact ⟨h1, ownsRow_keep h.ow (fun g' hg' hlt => hu.blk g' hlt (by cases hg'; rw [h.og]; exact fun e => hi e.symm)), hu.rd h.rd hA, h2, (hu.old g (own_hi h.ow (k := g) rfl)).trans h.og⟩
theorem InS.below {W W' : World} {o : Nat → Nat} {x g : Nat} {kd pl n : Int} {A : Option Addr} {y : List Int} {rc base m c : Nat} (h : InS W o x g kd pl n A y rc base m c) (hb : Below W.heap.size W W') : InS W' o x g kd pl n A y rc base m c :=
  ⟨h.bx.below hb, own_step h.ow hb, h.rd.below hb, h.ox, h.og⟩
theorem InS.all {W : World} {o : Nat → Nat} {x g : Nat} {kd pl n : Int} {A : Option Addr} {y : List Int} {rc base m c : Nat} (h : InS W o x g kd pl n A y rc base m c) :
    W.cell? ⟨x, 1, none⟩ = some (.int .i64 pl) ∧ W.cell? ⟨x, 3, none⟩ = some (.slice A y.length rc) ∧ (convert 22 9 (.slice (some ⟨g, 0, none⟩) m c)).run Try.prog W = .ok (.string (strOfNums y ++ (⟨#[90]⟩ : ByteArray))) W ∧ (convert 22 9 (.slice A y.length rc)).run Try.prog W = .ok (.string (strOfNums y)) W := by
  have hco := own_str h.ow
  rw [str_snoc] at hco
  exact ⟨h.bx.cells.1, h.bx.cells.2.2, hco, string_of_reads (P := Try.prog) Try.underlying22 Try.underlying5 Try.underlying9 (c := rc) (show ReadsInt W .u8 A y.length y from h.rd)⟩
theorem rdL_len (F : FM) (a n : Int) : (rdL F a n).length ≤ F.b.length := by
  unfold rdL
  split
  · rw [List.length_take, List.length_drop]; omega
  · exact Nat.zero_le _
set_option maxRecDepth 100000 in
set_option maxHeartbeats 6400000 in
theorem storeActs_walk (B : Option Addr) (cb : Nat) (b : List Int) (most : Int) (A : Option Addr) (ca : Nat) (l : List Ac) (w : World) (hrb : ReadsInt w .u8 B b.length b) (hwb : ∀ x ∈ b, (Lit.int .u8 x).wf = true) (hcb : b.length ≤ cb) (hyb : b.length * 1 ≤ 140737488351232) (hwm : (Lit.int .i64 most).wf = true) (hra : Acs w A l) :
    Calls Try.prog 8 #[.slice B b.length cb, .int .i64 most, .slice A l.length ca] w fun e w' => e = .returned (.bool true) ∧ Below w.heap.size w w' := by
  have HRB := Lib.hid (show Rd w B b from hrb)
  have HRA := Lib.hid hra
  have HBB := Lib.hid (wf_bts' hwb)
  have hll := hra.1
  clear hrb hwb hra
  by_cases hofb : ofB b most
  · go_enter Try.func8, Try.ntmps8
    go_wp2_with (first | (go_at_call 10; refine (of_bad B cb b _ w hofb).mono ?_; rintro e w1 ⟨rfl, rfl⟩) | (go_at_call 21; refine (refOf_bad B cb b _ w hofb).mono ?_; rintro e w1 ⟨rfl, rfl⟩) | (go_at_call 11; refine (lives03 _).mono ?_; rintro e w1 ⟨rfl, hb1⟩))
    go_ret
    exact ⟨rfl, hb1⟩
  obtain ⟨F0, hF0⟩ : ∃ F0, F0 = mkF b most := ⟨_, rfl⟩
  have hfb : FB F0 0 := by
    rw [hF0]
    exact ⟨mkF_ok HBB.out hofb, Nat.le_refl _, fun r hr => by cases hr⟩
  have HF0 := Lib.hid hF0
  have HFB := Lib.hid hfb
  have HOF := Lib.hid hofb
  have HFR0 := Lib.hid (show Fr (fun _ => 0) w from fun _ _ => rfl)
  clear hF0 hfb hofb
  go_enter Try.func8, Try.ntmps8
  go_wp2_with fail
  refine (of_any (fun _ => 0) 1 B cb b most w HFR0.out HRB.out HOF.out).mono ?_
  rintro e w1 ⟨p, o1, rfl, hf1, hu1, hb1, _⟩
  rw [← HF0.out] at hf1
  have HF1 := Lib.hid hf1
  have HU1 := Lib.hid hu1
  have HB1 := Lib.hid hb1
  clear hf1 hu1 hb1
  go_wp2_with fail
  refine (refOf_any o1 2 B cb b most w1 HU1.out.fr (HRB.out.below HB1.out) HOF.out).mono ?_
  rintro e w2 ⟨q, o2, rfl, hr2, hu2, hb2, _⟩
  rw [← HF0.out] at hr2
  have HF2 := Lib.hid (HF1.out.upd hu2 (by decide) (by decide))
  have HR2 := Lib.hid hr2
  have HU2 := Lib.hid hu2
  have HB2 := Lib.hid (HB1.out.trans (hb2.mono HB1.out.size))
  clear hr2 hu2 hb2
  go_wp2_with fail
  refine (copy_any o2 1 3 p F0 w2 HF2.out HU2.out.fr (by have := HFB.out.len; omega) HFB.out.each HFB.out.bl).mono ?_
  rintro e w3 ⟨u, o3, rfl, hg3, hu3, hb3, _⟩
  have HG3 := Lib.hid hg3
  have HF3 := Lib.hid (HF2.out.upd hu3 (by decide) (by decide))
  have HR3 := Lib.hid (HR2.out.upd hu3 (by decide) (by decide))
  have HU3 := Lib.hid hu3
  have HB3 := Lib.hid (HB2.out.trans (hb3.mono HB2.out.size))
  clear hg3 hu3 hb3
  go_wp2_with fail
  refine (refCopy_any o3 2 4 q F0 w3 HR3.out HU3.out.fr (by have := HFB.out.len; omega) HFB.out.bl).mono ?_
  rintro e w4 ⟨v, o4, rfl, hs4, hu4, hb4, _⟩
  have HSA := Lib.hid (show SA w w4 o4 1 2 3 4 p q u v F0 F0 F0 F0 from ⟨HF3.out.upd hu4 (by decide) (by decide), HR3.out.upd hu4 (by decide) (by decide), HG3.out.upd hu4 (by decide) (by decide), hs4, hu4.fr,
    fun k hk => (hu4.old k (Nat.lt_of_lt_of_le hk HB3.out.size)).trans ((HU3.out.old k (Nat.lt_of_lt_of_le hk HB2.out.size)).trans ((HU2.out.old k (Nat.lt_of_lt_of_le hk HB1.out.size)).trans (HU1.out.old k hk))), HB3.out.trans (hb4.mono HB3.out.size)⟩)
  clear hs4 hu4 hb4
  clear HF1 HU1 HB1 HF2 HR2 HU2 HB2 HG3 HF3 HR3 HU3 HB3
  go_wp2_with fail
  go_loopw [7, 8, 9, 10, 11] (fun t7 t8 t9 t10 t wr => ∃ i : Nat, i ≤ l.length ∧ i ≤ 40 ∧ t = .int .i64 i ∧ ∃ p q u v : Nat, t7 = .pointer (some ⟨p, 0, none⟩) ∧ t8 = .pointer (some ⟨q, 0, none⟩) ∧ t9 = .pointer (some ⟨u, 0, none⟩) ∧ t10 = .pointer (some ⟨v, 0, none⟩) ∧ ∃ (o : Nat → Nat) (a b c d : Nat) (F G : FM), Hid (Dst a b c d) ∧ Hid (SA w wr o a b c d p q u v F F G G) ∧ Hid (FB F (i * 400)) ∧ Hid (FB G (i * 400))) (fun _ _ _ _ t _ => l.length - (intOf t).toNat)
  case atStart => exact ⟨0, Nat.zero_le _, by omega, rfl, p, q, u, v, rfl, rfl, rfl, rfl, o4, 1, 2, 3, 4, F0, F0, ⟨by decide, by decide, by decide, by decide, by decide, by decide, by decide, by decide, by decide, by decide, by decide, by decide, by decide, by decide⟩, HSA.out, HFB.out.mono (Nat.zero_le _), HFB.out.mono (Nat.zero_le _)⟩
  case round =>
    clear HSA HFB HF0
    obtain ⟨i, hi, hi4, rfl, p, q, u, v, rfl, rfl, rfl, rfl, o, a, bt, c, d, F, G, HD, HSA, HFF, HFG⟩ := hrel
    by_cases hgo : i < l.length ∧ i < 40
    · obtain ⟨hlt, hlt4⟩ := hgo
      have HAC := Lib.hid (HRA.out.below HSA.out.bel)
      obtain ⟨ad, rfl, hc⟩ := HAC.out.2.2 (by omega)
      obtain ⟨hc0, hc1, hc2, hc3⟩ := hc i hlt
      obtain ⟨r, hr⟩ : ∃ r, r = l[i] := ⟨_, rfl⟩
      have hrk0 := HRA.out.2.1 r (by rw [hr]; exact List.getElem_mem hlt)
      rw [← hr] at hc0 hc1 hc2 hc3
      clear hr hc
      obtain ⟨kd, pl, n, RA, x, rc⟩ := r
      simp only at hc0 hc1 hc2 hc3
      obtain ⟨hd1, he1⟩ := fld_cell (by decide) hc1
      obtain ⟨hd2, he2⟩ := fld_cell (by decide) hc2
      obtain ⟨hd3, he3⟩ := fld_cell (by decide) hc3
      have HRK := Lib.hid hrk0
      have hxl := hrk0.rd.2.1
      have hxc : x.length ≤ rc := hrk0.cap
      have hpl : i64B pl := hrk0.pl
      have hn : i64B n := hrk0.n
      unfold i64B at hpl hn
      clear hrk0
      obtain ⟨W, hW⟩ : ∃ W, W = wr.alloc (.cells #[.int .i64 kd, .int .i64 pl, .int .i64 n, .slice RA x.length rc] 28) := ⟨_, rfl⟩
      have hbW : Below wr.heap.size wr W := by rw [hW]; exact (Below.refl _ _).alloc (Nat.le_refl _) _
      have hbx : Bx W wr.heap.size kd pl n RA x.length rc := by unfold Bx; rw [hW]; show (wr.heap.push _)[wr.heap.size]? = _; rw [Array.getElem?_push, if_pos rfl]
      have HSW := Lib.hid (HSA.out.below hbW)
      have HBX := Lib.hid hbx
      have HOX := Lib.hid (show o wr.heap.size = 0 from HSA.out.fr _ (Nat.le_refl _))
      obtain ⟨b1, b2, b3⟩ := hbx.cells
      obtain ⟨bx, hbxe⟩ : ∃ bx, bx = wr.heap.size := ⟨_, rfl⟩
      have HW := Lib.hid hW
      have HBE := Lib.hid hbxe
      clear hbW hbx hW hbxe
      by_cases k0 : kd = 0
      · subst k0
        by_cases hx5 : 5000 < x.length
        · go_wp2_with fail
          rw [← HW.out]
          rw [← HBE.out] at HBX HOX b1 b2 b3 ⊢
          clear hc0 hc1 hc2 hc3 hd1 hd2 hd3 he1 he2 he3
          refine (lives03 _).mono ?_
          rintro e w5 ⟨rfl, hb5⟩
          go_wp2_with fail
          go_ret
          exact ⟨rfl, HSW.out.bel.trans (hb5.mono HSW.out.bel.size)⟩
        have HRW := Lib.hid (HRK.out.rd.below HSW.out.bel)
        have HOE := Lib.hid (own_empty W W.heap.size (Nat.le_refl _))
        have HBA := Lib.hid ((Below.refl W.heap.size W).alloc (Nat.le_refl _) (.cells #[] 5))
        go_upto_region 15 with (fail)
        rw [← HW.out]
        rw [← HBE.out] at HBX HOX b1 b2 b3 ⊢
        clear hc0 hc1 hc2 hc3 hd1 hd2 hd3 he1 he2 he3
        have hbl : bx < W.heap.size := (Array.getElem?_eq_some_iff.1 HBX.out).1
        have hbne : ¬ bx = W.heap.size := by omega
        have hb3a : (W.alloc (.cells #[] 5)).cell? ⟨bx, 3, none⟩ = some (.slice RA x.length rc) := (HBX.out.below HBA.out).cells.2.2
        go_wp2_with (first | ((with_reducible refine gate_builtin (b := .append) (xs := #[.tmp 60, .tmp 62]) rfl ?_); refine app W.heap.size rfl _ _ rfl (.slice (some ⟨W.heap.size, 0, none⟩) 0 0) [] x RA rc rfl rfl HOE.out (HRW.out.below HBA.out) (by simp) (by simp; omega) ?_; intro v1 w1 h1 h2; have H1 := Lib.hid h1; have H2 := Lib.hid (HBA.out.grown h2 (by simp) (by simp [Value.ownBlock])); clear h1 h2) | ((with_reducible refine gate_builtin (b := .append) (xs := #[.tmp 63, .tmp 64]) rfl ?_); refine app1 W.heap.size rfl _ _ rfl v1 ([] ++ x) 90 rfl rfl H1.out H2.out.size (by simp; omega) ?_; intro v2 w2 h4 h5; rw [List.nil_append] at h4; have HB2 := Lib.hid (H2.out.grown h5 H2.out.size (fun k hk => own_base H1.out k hk)); obtain ⟨A2, m2, c2, rfl, HM2, h4'⟩ := own_splitL h4; have HO2 := Lib.hid h4'; obtain ⟨g, rfl⟩ := own_some h4' HM2.out (by simp); have hcap : x.length ≤ c2 := own_cap h4' HM2.out (by simp); clear h4 h4' h5))
        have HINd := Lib.hid ((show InS w2 o bx g 0 pl n RA x rc W.heap.size m2 c2 from ⟨HBX.out.below HB2.out, HO2.out, HRW.out.below HB2.out, HOX.out, by have h1 := own_lo HO2.out (k := g) rfl; have h2 := HSW.out.fr g h1; exact h2⟩).below (Below.refl _ w2).drew)
        have HSd := Lib.hid ((HSW.out.below HB2.out).below (Below.refl _ w2).drew)
        have hglo : w.heap.size ≤ g := Nat.le_trans HSW.out.bel.size (own_lo HO2.out (k := g) rfl)
        have HGL := Lib.hid hglo
        have hm2 : m2 = x.length + 1 := by have := HM2.out; simpa using this
        have hmc : m2 ≤ c2 := by rw [hm2]; have := (own_rdv HO2.out).2.2; simpa using this
        have hz : (strOfNums x).size + 1 ≤ 9223372036854775807 := by rw [strOfNums_size]; omega
        have hz2 : (9223372036854775807 < (strOfNums x).size + 1) = False := eq_false (by omega)
        have HM2b := Lib.hid hm2
        have hm2b : x.length ≤ m2 := by omega
        clear hm2 hb3a b1 b2 b3 hglo
        have hs0 := HINd.out.all
        refine wp_region_held_drew (S := fun W' => W'.cell? ⟨bx, 1, none⟩ = some (.int .i64 pl) ∧ W'.cell? ⟨bx, 3, none⟩ = some (.slice RA x.length rc) ∧ (convert 22 9 (.slice (some ⟨g, 0, none⟩) m2 c2)).run Try.prog W' = .ok (.string (strOfNums x ++ (⟨#[90]⟩ : ByteArray))) W' ∧ (convert 22 9 (.slice RA x.length rc)).run Try.prog W' = .ok (.string (strOfNums x)) W') (by kernel_rfl) hs0 (fun hHeld => ?_)
        refine wpAnyH_take (i := 0) (oi := { dst := some 66, op := Op.move (Operand.tmp 7), type := 24, pos := "law.go:74", after := #[], guard := none }) (v := ?_) rfl (by kernel_rfl) (by kernel_rfl) (by kernel_rfl) (fun _ _ _ h => h) (Or.inl ⟨by rfl, ?_⟩) (by assumption) ?_
        rotate_left
        · (intro wS hSw; (try dsimp only at hSw); go_simp; (try (with_reducible rfl)))
        try simp only [Act.put, List.setIfInBounds_toArray, List.set_cons_zero, List.set_cons_succ]
        refine wpAnyH_take (i := 1) (oi := { dst := some 67, op := Op.fieldAddr 28 (Operand.tmp 12) 1, type := 0, pos := "law.go:74", after := #[], guard := none }) (v := ?_) rfl (by kernel_rfl) (by kernel_rfl) (by kernel_rfl) (fun _ _ _ h => h) (Or.inl ⟨by rfl, ?_⟩) (by assumption) ?_
        rotate_left
        · (intro wS hSw; (try dsimp only at hSw); go_simp; (try (with_reducible rfl)))
        try simp only [Act.put, List.setIfInBounds_toArray, List.set_cons_zero, List.set_cons_succ]
        refine wpAnyH_take (i := 2) (oi := { dst := some 68, op := Op.load 3 (Operand.tmp 67), type := 3, pos := "law.go:74", after := #[{ on := 1, ground := Ground.data }], guard := none }) (v := ?_) rfl (by kernel_rfl) (by kernel_rfl) (by kernel_rfl) (fun _ _ _ h => h) (Or.inl ⟨by rfl, ?_⟩) (by assumption) ?_
        rotate_left
        · (intro wS hSw; (try dsimp only at hSw); go_simp; (try (with_reducible rfl)))
        try simp only [Act.put, List.setIfInBounds_toArray, List.set_cons_zero, List.set_cons_succ]
        refine wpAnyH_take (i := 3) (oi := { dst := some 69, op := Op.move (Operand.tmp 13), type := 22, pos := "law.go:74", after := #[], guard := none }) (v := ?_) rfl (by kernel_rfl) (by kernel_rfl) (by kernel_rfl) (fun _ _ _ h => h) (Or.inl ⟨by rfl, ?_⟩) (by assumption) ?_
        rotate_left
        · (intro wS hSw; (try dsimp only at hSw); go_simp; (try (with_reducible rfl)))
        try simp only [Act.put, List.setIfInBounds_toArray, List.set_cons_zero, List.set_cons_succ]
        refine wpAnyH_take (i := 4) (oi := { dst := some 70, op := Op.fieldAddr 28 (Operand.tmp 12) 3, type := 0, pos := "law.go:74", after := #[], guard := none }) (v := ?_) rfl (by kernel_rfl) (by kernel_rfl) (by kernel_rfl) (fun _ _ _ h => h) (Or.inl ⟨by rfl, ?_⟩) (by assumption) ?_
        rotate_left
        · (intro wS hSw; (try dsimp only at hSw); go_simp; (try (with_reducible rfl)))
        try simp only [Act.put, List.setIfInBounds_toArray, List.set_cons_zero, List.set_cons_succ]
        refine wpAnyH_take (i := 5) (oi := { dst := some 71, op := Op.load 22 (Operand.tmp 70), type := 22, pos := "law.go:74", after := #[{ on := 4, ground := Ground.data }], guard := none }) (v := ?_) rfl (by kernel_rfl) (by kernel_rfl) (by kernel_rfl) (fun _ _ _ h => h) (Or.inl ⟨by rfl, ?_⟩) (by assumption) ?_
        rotate_left
        · (intro wS hSw; (try dsimp only at hSw); go_simp; (try (with_reducible rfl)))
        try simp only [Act.put, List.setIfInBounds_toArray, List.set_cons_zero, List.set_cons_succ]
        refine wpAnyH_take (i := 6) (oi := { dst := some 72, op := Op.call { callee := Callee.builtin Builtin.len, args := #[Operand.tmp 71], argTypes := #[22] }, type := 3, pos := "law.go:74", after := #[{ on := 5, ground := Ground.data }], guard := none }) (v := ?_) rfl (by kernel_rfl) (by kernel_rfl) (by kernel_rfl) (fun _ _ _ h => h) (Or.inl ⟨by rfl, ?_⟩) (by assumption) ?_
        rotate_left
        · (intro wS hSw; (try dsimp only at hSw); go_simp; (try (with_reducible rfl)))
        try simp only [Act.put, List.setIfInBounds_toArray, List.set_cons_zero, List.set_cons_succ]
        refine wpAnyH_take (i := 7) (oi := { dst := some 73, op := Op.slice 22 (Operand.tmp 69) none (some (Operand.tmp 72)) none, type := 22, pos := "law.go:74", after := #[{ on := 3, ground := Ground.data }, { on := 6, ground := Ground.data }], guard := none }) (v := ?_) rfl (by kernel_rfl) (by kernel_rfl) (by kernel_rfl) (fun _ _ _ h => h) (Or.inl ⟨by rfl, ?_⟩) (by assumption) ?_
        rotate_left
        · (intro wS hSw; (try dsimp only at hSw); go_simp; (try (with_reducible rfl)))
        try simp only [Act.put, List.setIfInBounds_toArray, List.set_cons_zero, List.set_cons_succ]
        refine wpAnyH_take (i := 9) (oi := { dst := some 75, op := Op.move (Operand.tmp 8), type := 44, pos := "law.go:74", after := #[], guard := none }) (v := ?_) rfl (by kernel_rfl) (by kernel_rfl) (by kernel_rfl) (fun _ _ _ h => h) (Or.inl ⟨by rfl, ?_⟩) (by assumption) ?_
        rotate_left
        · (intro wS hSw; (try dsimp only at hSw); go_simp; (try (with_reducible rfl)))
        try simp only [Act.put, List.setIfInBounds_toArray, List.set_cons_zero, List.set_cons_succ]
        refine wpAnyH_take (i := 10) (oi := { dst := some 76, op := Op.fieldAddr 28 (Operand.tmp 12) 1, type := 0, pos := "law.go:74", after := #[], guard := none }) (v := ?_) rfl (by kernel_rfl) (by kernel_rfl) (by kernel_rfl) (fun _ _ _ h => h) (Or.inl ⟨by rfl, ?_⟩) (by assumption) ?_
        rotate_left
        · (intro wS hSw; (try dsimp only at hSw); go_simp; (try (with_reducible rfl)))
        try simp only [Act.put, List.setIfInBounds_toArray, List.set_cons_zero, List.set_cons_succ]
        refine wpAnyH_take (i := 11) (oi := { dst := some 77, op := Op.load 3 (Operand.tmp 76), type := 3, pos := "law.go:74", after := #[{ on := 10, ground := Ground.data }], guard := none }) (v := ?_) rfl (by kernel_rfl) (by kernel_rfl) (by kernel_rfl) (fun _ _ _ h => h) (Or.inl ⟨by rfl, ?_⟩) (by assumption) ?_
        rotate_left
        · (intro wS hSw; (try dsimp only at hSw); go_simp; (try (with_reducible rfl)))
        try simp only [Act.put, List.setIfInBounds_toArray, List.set_cons_zero, List.set_cons_succ]
        refine wpAnyH_take (i := 12) (oi := { dst := some 78, op := Op.fieldAddr 28 (Operand.tmp 12) 3, type := 0, pos := "law.go:74", after := #[], guard := none }) (v := ?_) rfl (by kernel_rfl) (by kernel_rfl) (by kernel_rfl) (fun _ _ _ h => h) (Or.inl ⟨by rfl, ?_⟩) (by assumption) ?_
        rotate_left
        · (intro wS hSw; (try dsimp only at hSw); go_simp; (try (with_reducible rfl)))
        try simp only [Act.put, List.setIfInBounds_toArray, List.set_cons_zero, List.set_cons_succ]
        refine wpAnyH_take (i := 13) (oi := { dst := some 79, op := Op.load 22 (Operand.tmp 78), type := 22, pos := "law.go:74", after := #[{ on := 12, ground := Ground.data }], guard := none }) (v := ?_) rfl (by kernel_rfl) (by kernel_rfl) (by kernel_rfl) (fun _ _ _ h => h) (Or.inl ⟨by rfl, ?_⟩) (by assumption) ?_
        rotate_left
        · (intro wS hSw; (try dsimp only at hSw); go_simp; (try (with_reducible rfl)))
        try simp only [Act.put, List.setIfInBounds_toArray, List.set_cons_zero, List.set_cons_succ]
        refine wpAnyH_ready (rs := [8]) (by kernel_rfl) (by simp) ?_
        refine AllReadyH.cons (o := { dst := some 74, op := Op.call { callee := Callee.value (Operand.func 13), args := #[Operand.tmp 66, Operand.tmp 68, Operand.tmp 73], argTypes := #[24, 3, 22] }, type := 29, pos := "law.go:74", after := #[{ on := 0, ground := Ground.data }, { on := 2, ground := Ground.data }, { on := 7, ground := Ground.data }], guard := none }) rfl (fun K hK => ?_) AllReadyH.nil
        go_simp
        refine (write_any o a HD.out.a0 HD.out.a9 p F pl (some ⟨g, 0, none⟩) c2 x _ HSd.out.f HSd.out.fr HFF.out.ok (by omega) (by omega) (own_pre HINd.out.ow) (fun _ a' e => by cases e; rw [HINd.out.og]; exact HD.out.a0.symm) (by omega) hcap (by have := HFF.out.len; omega)).mono ?_
        rintro e w5 ⟨o5, rfl, hu5, hf5⟩
        have HS5 := Lib.hid (HSd.out.setF HD.out hu5 hf5)
        have HIN5 := Lib.hid (HINd.out.upd hu5 HD.out.a0 (HSd.out.arg HD.out.a0 HRK.out.rd))
        clear hu5 hf5
        have hs5 := HIN5.out.all
        refine hK.out _ _ ?_ (fun hHeld => ?_)
        · exact hs5
        clear hK K
        try simp only [Act.put, List.setIfInBounds_toArray, List.set_cons_zero, List.set_cons_succ]
        refine wpAnyH_ready (rs := [14]) (by kernel_rfl) (by simp) ?_
        refine AllReadyH.cons (o := { dst := some 80, op := Op.call { callee := Callee.value (Operand.func 25), args := #[Operand.tmp 75, Operand.tmp 77, Operand.tmp 79], argTypes := #[44, 3, 22] }, type := 3, pos := "law.go:74", after := #[{ on := 9, ground := Ground.data }, { on := 11, ground := Ground.data }, { on := 13, ground := Ground.data }, { on := 8, ground := Ground.chain }], guard := none }) rfl (fun K hK => ?_) AllReadyH.nil
        go_simp
        refine (refWrite_any o5 bt HD.out.b0 HD.out.b9 q F pl RA rc x _ HS5.out.r HS5.out.fr HFF.out.ok (by omega) (by omega) HIN5.out.rd (HS5.out.arg HD.out.b0 HRK.out.rd) (by omega) hxc HRK.out.bts (by have := HFF.out.len; omega)).mono ?_
        rintro e w6 ⟨o6, rfl, hu6, hf6⟩
        have HS6 := Lib.hid (HS5.out.setR HD.out hu6 hf6)
        have HIN6 := Lib.hid (HIN5.out.upd hu6 HD.out.b0 (HS5.out.arg HD.out.b0 HRK.out.rd))
        clear hu6 hf6
        have hs6 := HIN6.out.all
        refine hK.out _ _ ?_ (fun hHeld => ?_)
        · exact hs6
        clear hK K
        try simp only [Act.put, List.setIfInBounds_toArray, List.set_cons_zero, List.set_cons_succ]
        refine wpAnyH_take (i := 15) (oi := { dst := some 81, op := Op.binOp BinOp.neq 3 (Operand.tmp 74) (Operand.tmp 80) 3, type := 4, pos := "law.go:74", after := #[{ on := 8, ground := Ground.data }, { on := 14, ground := Ground.data }], guard := none }) (v := ?_) rfl (by kernel_rfl) (by kernel_rfl) (by kernel_rfl) (fun _ _ _ h => h) (Or.inl ⟨by rfl, ?_⟩) (by assumption) ?_
        rotate_left
        · (intro wS hSw; (try dsimp only at hSw); go_simp; (try (with_reducible rfl)))
        try simp only [Act.put, List.setIfInBounds_toArray, List.set_cons_zero, List.set_cons_succ]
        refine wpAnyH_take (i := 16) (oi := { dst := some 82, op := Op.move (Operand.tmp 81), type := 4, pos := "law.go:74", after := #[{ on := 15, ground := Ground.data }, { on := 14, ground := Ground.chain }], guard := none }) (v := ?_) rfl (by kernel_rfl) (by kernel_rfl) (by kernel_rfl) (fun _ _ _ h => h) (Or.inl ⟨by rfl, ?_⟩) (by assumption) ?_
        rotate_left
        · (intro wS hSw; (try dsimp only at hSw); go_simp; (try (with_reducible rfl)))
        try simp only [Act.put, List.setIfInBounds_toArray, List.set_cons_zero, List.set_cons_succ]
        refine wpAnyH_take (i := 17) (oi := { dst := some 83, op := Op.move (Operand.tmp 13), type := 22, pos := "law.go:74", after := #[{ on := 16, ground := Ground.guard }], guard := some (16, false) }) (v := ?_) rfl (by kernel_rfl) (by kernel_rfl) (by kernel_rfl) (fun _ _ _ h => h) (Or.inl ⟨by rfl, ?_⟩) (by assumption) ?_
        rotate_left
        · (intro wS hSw; (try dsimp only at hSw); go_simp; (try (with_reducible rfl)))
        try simp only [Act.put, List.setIfInBounds_toArray, List.set_cons_zero, List.set_cons_succ]
        refine wpAnyH_take (i := 18) (oi := { dst := some 84, op := Op.convert 22 9 (Operand.tmp 83), type := 9, pos := "law.go:74", after := #[{ on := 17, ground := Ground.data }, { on := 16, ground := Ground.guard }], guard := some (16, false) }) (v := ?_) rfl (by kernel_rfl) (by kernel_rfl) (by kernel_rfl) (fun _ _ _ h => h) (Or.inl ⟨by rfl, ?_⟩) (by assumption) ?_
        rotate_left
        · (intro wS hSw; (try dsimp only at hSw); go_simp; (try (with_reducible rfl)))
        try simp only [Act.put, List.setIfInBounds_toArray, List.set_cons_zero, List.set_cons_succ]
        refine wpAnyH_take (i := 19) (oi := { dst := some 85, op := Op.fieldAddr 28 (Operand.tmp 12) 3, type := 0, pos := "law.go:74", after := #[{ on := 16, ground := Ground.guard }], guard := some (16, false) }) (v := ?_) rfl (by kernel_rfl) (by kernel_rfl) (by kernel_rfl) (fun _ _ _ h => h) (Or.inl ⟨by rfl, ?_⟩) (by assumption) ?_
        rotate_left
        · (intro wS hSw; (try dsimp only at hSw); go_simp; (try (with_reducible rfl)))
        try simp only [Act.put, List.setIfInBounds_toArray, List.set_cons_zero, List.set_cons_succ]
        refine wpAnyH_take (i := 20) (oi := { dst := some 86, op := Op.load 22 (Operand.tmp 85), type := 22, pos := "law.go:74", after := #[{ on := 19, ground := Ground.data }, { on := 16, ground := Ground.guard }], guard := some (16, false) }) (v := ?_) rfl (by kernel_rfl) (by kernel_rfl) (by kernel_rfl) (fun _ _ _ h => h) (Or.inl ⟨by rfl, ?_⟩) (by assumption) ?_
        rotate_left
        · (intro wS hSw; (try dsimp only at hSw); go_simp; (try (with_reducible rfl)))
        try simp only [Act.put, List.setIfInBounds_toArray, List.set_cons_zero, List.set_cons_succ]
        refine wpAnyH_take (i := 21) (oi := { dst := some 87, op := Op.convert 22 9 (Operand.tmp 86), type := 9, pos := "law.go:74", after := #[{ on := 20, ground := Ground.data }, { on := 16, ground := Ground.guard }], guard := some (16, false) }) (v := ?_) rfl (by kernel_rfl) (by kernel_rfl) (by kernel_rfl) (fun _ _ _ h => h) (Or.inl ⟨by rfl, ?_⟩) (by assumption) ?_
        rotate_left
        · (intro wS hSw; (try dsimp only at hSw); go_simp; (try (with_reducible rfl)))
        try simp only [Act.put, List.setIfInBounds_toArray, List.set_cons_zero, List.set_cons_succ]
        refine wpAnyH_take (i := 22) (oi := { dst := some 88, op := Op.binOp BinOp.add 9 (Operand.tmp 87) (Operand.const (Value.string { data := #[90] })) 9, type := 9, pos := "law.go:74", after := #[{ on := 21, ground := Ground.data }, { on := 16, ground := Ground.guard }], guard := some (16, false) }) (v := ?_) rfl (by kernel_rfl) (by kernel_rfl) (by kernel_rfl) (fun _ _ _ h => h) (Or.inl ⟨by rfl, ?_⟩) (by assumption) ?_
        rotate_left
        · (intro wS hSw; (try dsimp only at hSw); go_simp; (try (with_reducible rfl)))
        try simp only [Act.put, List.setIfInBounds_toArray, List.set_cons_zero, List.set_cons_succ]
        refine wpAnyH_take (i := 23) (oi := { dst := some 89, op := Op.binOp BinOp.neq 9 (Operand.tmp 84) (Operand.tmp 88) 9, type := 4, pos := "law.go:74", after := #[{ on := 18, ground := Ground.data }, { on := 22, ground := Ground.data }, { on := 16, ground := Ground.guard }], guard := some (16, false) }) (v := ?_) rfl (by kernel_rfl) (by kernel_rfl) (by kernel_rfl) (fun _ _ _ h => h) (Or.inl ⟨by rfl, ?_⟩) (by assumption) ?_
        rotate_left
        · (intro wS hSw; (try dsimp only at hSw); go_simp; (try (with_reducible rfl)))
        try simp only [Act.put, List.setIfInBounds_toArray, List.set_cons_zero, List.set_cons_succ]
        refine wpAnyH_take (i := 24) (oi := { dst := some 90, op := Op.pick (Operand.tmp 82) (Operand.const (Value.bool true)) (Operand.tmp 89), type := 4, pos := "law.go:74", after := #[{ on := 16, ground := Ground.data }, { on := 23, ground := Ground.data }], guard := none }) (v := ?_) rfl (by kernel_rfl) (by kernel_rfl) (by kernel_rfl) (fun _ _ _ h => h) (Or.inl ⟨by rfl, ?_⟩) (by assumption) ?_
        rotate_left
        · (intro wS hSw; (try dsimp only at hSw); go_simp; (try (with_reducible rfl)))
        try simp only [Act.put, List.setIfInBounds_toArray, List.set_cons_zero, List.set_cons_succ]
        refine wpAnyH_done (by kernel_rfl) ?_ _
        have HFW := Lib.hid (show FB (wF F pl x) (i * 400 + 400) from HFF.out.wF pl (x := x) (show Bts x from HRK.out.bts) (by omega))
        all_goals
          obtain ⟨hq, hfq⟩ := own_cell HIN6.out.ow 0 (by omega) (by simp)
          have hy := (show Bts (x ++ [90]) from HRK.out.bts.append (by unfold Bts; decide)).at 0
          rw [show ((0 : Int)).toNat = 0 from rfl] at hq hfq
          generalize rdI (x ++ [90]) 0 = y at hq hy
          have HS7 := Lib.hid (HS6.out.put HD.out 0 (.int .u8 ((y + 1) % 256)) HIN6.out.og HGL.out)
          have hm1 : 1 ≤ m2 := by have := HM2b.out; omega
          go_wp2_with (first | (go_at_call 23; refine (alike_any o6 a bt p q (wF F pl x) _ HS7.out.f HS7.out.r (by have := HFW.out.len; omega) HFW.out.each HFW.out.bl).mono ?_; rintro e w9 ⟨rfl, hb9⟩))
          go_roundw
          case rel => exact ⟨i + 1, by omega, by omega, by go_num, p, q, u, v, rfl, rfl, rfl, rfl, o6, a, bt, c, d, (wF F pl x), G, HD.out, (HS7.out).below hb9, HFW.out.mono (by omega), HFG.out.mono (by omega)⟩
          case measure => simp [intOf]; omega
      by_cases k1 : kd = 1
      · subst k1
        go_wp2_with fail
        rw [← HW.out]
        rw [← HBE.out] at HBX HOX b1 b2 b3 ⊢
        clear hc0 hc1 hc2 hc3 hd1 hd2 hd3 he1 he2 he3
        refine (read_any o a p F pl n W HSW.out.f HFF.out.bl (by omega) (by omega) (by omega) (by omega)).mono ?_
        rintro e w5 ⟨v1, rfl, ho1, hb5⟩
        obtain ⟨A1, m1, c1, rfl, HM1, ho1'⟩ := own_splitM ho1
        have HO5 := Lib.hid ho1'
        have HB5 := Lib.hid hb5
        have HS5 := Lib.hid (HSW.out.below hb5)
        obtain ⟨s1, s2, s3⟩ := (HBX.out.below hb5).cells
        have hm1 : m1 ≤ 4200000 := by have h1 := HM1.out; have h2 := rdL_len F pl n; have h3 := HFF.out.bl; omega
        have hws := hb5.size
        generalize hre : rdE F pl n = re
        have HRE := Lib.hid hre
        clear ho1 ho1' hb5 b1 b2 b3 hre
        go_wp2_with fail
        refine (refRead_any o bt q F pl n w5 HS5.out.r HFF.out.bl (by omega) (by omega) (by omega) (by omega)).mono ?_
        rintro e w6 ⟨v2, rfl, ho2, hb6⟩
        obtain ⟨A2, m2, c2, rfl, HM2, ho2'⟩ := own_splitM ho2
        have hc2 := own_str ho2'
        have hc1 := own_str (own_step HO5.out hb6)
        have HO6 := Lib.hid (own_step HO5.out hb6)
        have HB6 := Lib.hid (HB5.out.trans (hb6.mono HB5.out.size))
        have hws6 := hb6.size
        have hz : (strOfNums (rdL F pl n)).size ≤ 9223372036854775807 := by rw [strOfNums_size]; have h2 := rdL_len F pl n; have h3 := HFF.out.bl; omega
        rw [HRE.out]
        clear ho2 ho2' hb6
        go_wp2_with fail
        clear hc1 hc2 hz
        go_loopw [18] (fun t ws => ∃ k : Nat, k ≤ m1 ∧ t = .int .i64 k ∧ Hid (∃ l', l'.length = m1 ∧ Own ws W.heap.size (.slice A1 m1 c1) l' ∧ Bts l') ∧ Hid (Below W.heap.size W ws)) (fun t _ => m1 - (intOf t).toNat)
        case atStart => exact ⟨0, Nat.zero_le _, rfl, ⟨_, HM1.out.symm, HO6.out, rdL_bts HFF.out.ok.bts pl n⟩, HB6.out⟩
        case round =>
          obtain ⟨k, hk, rfl, HO1, HBW⟩ := hrel
          by_cases hltk : k < m1
          · obtain ⟨l', hl2, ho1, hbts⟩ := HO1.out
            obtain ⟨ga, rfl⟩ := own_some ho1 hl2.symm (by omega)
            obtain ⟨hq, hfq⟩ := own_cell ho1 (k : Int) (by omega) (by omega)
            rw [Int.toNat_natCast] at hq hfq
            have hbt := hbts.at k
            have hset := own_setc ho1 (k : Int) ((rdI l' k + 1) % 256)
            rw [Int.toNat_natCast] at hset
            have hglo := own_lo ho1 (k := ga) rfl
            have HSET := Lib.hid (show ∃ l2, l2.length = m1 ∧ Own (wr.setCell ⟨ga, k, none⟩ (.int .u8 ((rdI l' k + 1) % 256))) W.heap.size (.slice (some ⟨ga, 0, none⟩) m1 c1) l2 ∧ Bts l2 from ⟨_, by rw [List.length_set]; exact hl2, hset, fun z hz => by
              rcases List.mem_or_eq_of_mem_set hz with h5 | h5
              · exact hbts z h5
              · rw [h5]; omega⟩)
            clear ho1 hset hbts
            generalize rdI l' k = y at *
            go_wp2_with fail
            go_roundw
            case rel => exact ⟨k + 1, by omega, by go_num, HSET.out, HBW.out.setCell (p := ⟨ga, k, none⟩) hglo _⟩
            case measure => simp [intOf]; omega
          · have HS7 := Lib.hid (HSW.out.below HBW.out)
            go_wp2_with (first | (go_at_call 23; refine (alike_any o a bt p q F _ HS7.out.f HS7.out.r (by have := HFF.out.len; omega) HFF.out.each HFF.out.bl).mono ?_; rintro e w9 ⟨rfl, hb9⟩))
            go_roundw
            case rel => exact ⟨i + 1, by omega, by omega, by go_num, p, q, u, v, rfl, rfl, rfl, rfl, o, a, bt, c, d, F, G, HD.out, (HS7.out).below hb9, HFF.out.mono (by omega), HFG.out.mono (by omega)⟩
            case measure => simp [intOf]; omega
      by_cases k2 : kd = 2
      · subst k2
        go_wp2_with fail
        rw [← HW.out]
        rw [← HBE.out] at HBX HOX b1 b2 b3 ⊢
        clear hc0 hc1 hc2 hc3 hd1 hd2 hd3 he1 he2 he3
        obtain ⟨s1, s2, s3⟩ := (HBX.out.below (Below.refl _ W).drew).cells
        have HSD := Lib.hid (HSW.out.below (Below.refl _ W).drew)
        have HBD := Lib.hid (HBX.out.below (Below.refl _ W).drew)
        go_region_held3 (fun W' => W'.cell? ⟨bx, 2, none⟩ = some (.int .i64 n)) (first | exact HBX3.out.cells.2.1 | exact HBX2.out.cells.2.1 | exact HBD.out.cells.2.1)
          (first | (go_at_call 12; refine (cut_any o a HD.out.a0 HD.out.a9 p F n _ HSD.out.f HSD.out.fr).mono ?_; rintro e w5 ⟨rfl, hu5, hf5⟩; have HS5 := Lib.hid (HSD.out.setF HD.out hu5 hf5); have HBX2 := Lib.hid (HBD.out.upd hu5 HOX.out HD.out.a0).1; clear hu5 hf5) | (go_at_call 29; refine (refCut_any o bt HD.out.b0 HD.out.b9 q F n _ HS5.out.r HS5.out.fr).mono ?_; rintro e w6 ⟨rfl, hu6, hf6⟩; have HS6 := Lib.hid (HS5.out.setR HD.out hu6 hf6); have HBX3 := Lib.hid (HBX2.out.upd hu6 HOX.out HD.out.b0).1; clear hu6 hf6))
        have HFC := Lib.hid (HFF.out.ctF (n := n) (by omega))
        all_goals
          go_wp2_with (first | (go_at_call 23; refine (alike_any o a bt p q (ctF F n) _ HS6.out.f HS6.out.r (by have := HFC.out.len; omega) HFC.out.each HFC.out.bl).mono ?_; rintro e w9 ⟨rfl, hb9⟩))
          go_roundw
          case rel => exact ⟨i + 1, by omega, by omega, by go_num, p, q, u, v, rfl, rfl, rfl, rfl, o, a, bt, c, d, (ctF F n), G, HD.out, (HS6.out).below hb9, HFC.out.mono (by omega), HFG.out.mono (by omega)⟩
          case measure => simp [intOf]; omega
      by_cases k3 : kd = 3
      · subst k3
        go_wp2_with fail
        rw [← HW.out]
        rw [← HBE.out] at HBX HOX b1 b2 b3 ⊢
        clear hc0 hc1 hc2 hc3 hd1 hd2 hd3 he1 he2 he3
        refine (start_any o a HD.out.a0 HD.out.a9 p F W HSW.out.f HSW.out.fr).mono ?_
        rintro e w5 ⟨rfl, hu5, hf5⟩
        have HS5 := Lib.hid (HSW.out.setF HD.out hu5 hf5)
        clear hu5 hf5
        go_wp2_with fail
        refine (refStart_any o bt HD.out.b0 HD.out.b9 q F w5 HS5.out.r HS5.out.fr).mono ?_
        rintro e w6 ⟨rfl, hu6, hf6⟩
        have HS6 := Lib.hid (HS5.out.setR HD.out hu6 hf6)
        have HFO := Lib.hid HFF.out.on
        clear hu6 hf6
        go_wp2_with (first | (go_at_call 23; refine (alike_any o a bt p q { F with off := false } _ HS6.out.f HS6.out.r (by have := HFO.out.len; omega) HFO.out.each HFO.out.bl).mono ?_; rintro e w9 ⟨rfl, hb9⟩))
        go_roundw
        case rel => exact ⟨i + 1, by omega, by omega, by go_num, p, q, u, v, rfl, rfl, rfl, rfl, o, a, bt, c, d, { F with off := false }, G, HD.out, (HS6.out).below hb9, HFO.out.mono (by omega), HFG.out.mono (by omega)⟩
        case measure => simp [intOf]; omega
      by_cases k4 : kd = 4
      · subst k4
        go_wp2_with fail
        rw [← HW.out]
        rw [← HBE.out] at HBX HOX b1 b2 b3 ⊢
        clear hc0 hc1 hc2 hc3 hd1 hd2 hd3 he1 he2 he3
        go_wp2_with (first | (go_at_call 23; refine (alike_any o c d u v G _ HSW.out.swap.f HSW.out.swap.r (by have := HFG.out.len; omega) HFG.out.each HFG.out.bl).mono ?_; rintro e w9 ⟨rfl, hb9⟩))
        go_roundw
        case rel => exact ⟨i + 1, by omega, by omega, by go_num, u, v, p, q, rfl, rfl, rfl, rfl, o, c, d, a, bt, G, F, HD.out.swap, (HSW.out.swap).below hb9, HFG.out.mono (by omega), HFF.out.mono (by omega)⟩
        case measure => simp [intOf]; omega
      by_cases k5 : kd = 5
      · subst k5
        go_wp2_with fail
        rw [← HW.out]
        rw [← HBE.out] at HBX HOX b1 b2 b3 ⊢
        clear hc0 hc1 hc2 hc3 hd1 hd2 hd3 he1 he2 he3
        refine (copy_any o a c p F W HSW.out.f HSW.out.fr (by have := HFF.out.len; omega) HFF.out.each HFF.out.bl).mono ?_
        rintro e w5 ⟨u5, o5, rfl, hg5, hu5, _, _⟩
        have HS5 := Lib.hid (HSW.out.setG HD.out hu5 hg5)
        clear hu5 hg5
        go_wp2_with fail
        refine (refCopy_any o5 bt d q F w5 HS5.out.r HS5.out.fr (by have := HFF.out.len; omega) HFF.out.bl).mono ?_
        rintro e w6 ⟨v6, o6, rfl, hg6, hu6, _, _⟩
        have HS6 := Lib.hid (HS5.out.setS HD.out hu6 hg6)
        clear hu6 hg6
        go_wp2_with (first | (go_at_call 23; refine (alike_any o6 a bt p q F _ HS6.out.f HS6.out.r (by have := HFF.out.len; omega) HFF.out.each HFF.out.bl).mono ?_; rintro e w9 ⟨rfl, hb9⟩))
        go_roundw
        case rel => exact ⟨i + 1, by omega, by omega, by go_num, p, q, u5, v6, rfl, rfl, rfl, rfl, o6, a, bt, c, d, F, F, HD.out, (HS6.out).below hb9, HFF.out.mono (by omega), HFF.out.mono (by omega)⟩
        case measure => simp [intOf]; omega
      have n0 : (kd == 0) = false := by rw [beq_eq_false_iff_ne]; exact k0
      have n1 : (kd == 1) = false := by rw [beq_eq_false_iff_ne]; exact k1
      have n2 : (kd == 2) = false := by rw [beq_eq_false_iff_ne]; exact k2
      have n3 : (kd == 3) = false := by rw [beq_eq_false_iff_ne]; exact k3
      have n4 : (kd == 4) = false := by rw [beq_eq_false_iff_ne]; exact k4
      have n5 : (kd == 5) = false := by rw [beq_eq_false_iff_ne]; exact k5
      go_wp2_with fail
      rw [← HW.out]
      rw [← HBE.out] at HBX HOX b1 b2 b3 ⊢
      clear hc0 hc1 hc2 hc3 hd1 hd2 hd3 he1 he2 he3
      go_wp2_with (first | (go_at_call 23; refine (alike_any o a bt p q F _ HSW.out.f HSW.out.r (by have := HFF.out.len; omega) HFF.out.each HFF.out.bl).mono ?_; rintro e w9 ⟨rfl, hb9⟩))
      go_roundw
      case rel => exact ⟨i + 1, by omega, by omega, by go_num, p, q, u, v, rfl, rfl, rfl, rfl, o, a, bt, c, d, F, G, HD.out, (HSW.out).below hb9, HFF.out.mono (by omega), HFG.out.mono (by omega)⟩
      case measure => simp [intOf]; omega
    · by_cases hlt : i < l.length
      have h40 : ¬ i < 40 := fun h => hgo ⟨hlt, h⟩
      all_goals
        clear hgo
        go_wp2_with (first | (go_at_call 23; refine (alike_any o c d u v G _ HSA.out.g HSA.out.s (by have := HFG.out.len; omega) HFG.out.each HFG.out.bl).mono ?_; rintro e w9 ⟨rfl, hb9⟩; have HS9 := Lib.hid (HSA.out.below hb9); clear hb9) | (go_at_call 11; refine (lives03 _).mono ?_; rintro e w10 ⟨rfl, hb10⟩))
        go_ret
        exact ⟨rfl, HS9.out.bel.trans (hb10.mono HS9.out.bel.size)⟩
end Go.Proofs.Ytnmcmenjhmhfjaa
