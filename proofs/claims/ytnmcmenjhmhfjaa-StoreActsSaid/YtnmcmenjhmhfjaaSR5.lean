/-
  slabvaultref03.File.Write, whatever it is asked; slabvaultlaw03.alike. No premise.
-/
import Derived.Test.YtnmcmenjhmhfjaaSR4
import Derived.Deep.RegionHeld3
namespace Go.Proofs.Ytnmcmenjhmhfjaa
open Go.RowKit Go.Shelf Go.Proofs.YtnmcmenjhmhfjaaW.PrintWords

set_option maxRecDepth 100000 in
set_option maxHeartbeats 1600000 in
theorem refWrite_any (o : Nat → Nat) (i : Nat) (h0 : i ≠ 0) (h9 : i ≠ 9) (p : Nat) (F : FM) (a : Int) (A : Option Addr) (c : Nat) (x : List Int) (w : World) (hF : RefA w o i p F) (hfr : Fr o w) (hok : FOk F)
    (ha : -9223372036854775808 ≤ a) (ha2 : a ≤ 9223372036854775807) (hr : Rd w A x) (hA : 0 < x.length → ∀ a, A = some a → o a.block ≠ i) (hx : x.length ≤ 150000000000000) (hc : x.length ≤ c) (hbx : Bts x) (hrl : F.raws.length ≤ 900000000) :
    Calls Try.prog 25 #[.pointer (some ⟨p, 0, none⟩), .int .i64 a, .slice A x.length c] w (RWritePost o i p F a x w) := by
  have HF := Lib.hid hF
  have HFR := Lib.hid hfr
  obtain ⟨vb, vr, lf, L, hF1⟩ := hF
  obtain ⟨Av, cv, hvb, _, _, _⟩ := own_split hF1.ob
  obtain ⟨bl, hbl⟩ : ∃ bl, bl = F.b.length := ⟨_, rfl⟩
  rw [← hbl] at hvb
  subst hvb
  obtain ⟨c0, c1, c2, c3, c4, c5⟩ := hF1.cells
  have hlen := hok.len
  have hmost := hok.most
  rw [← hbl] at hlen
  have HBL := Lib.hid hbl
  have HOK := Lib.hid hok
  clear hF1 hok c3 c4 c5 hbl
  by_cases hoff : F.off = true
  · rw [hoff] at c2
    clear hfr hr
    go_enter Try.func25, Try.ntmps25
    go_wp2_with fail
    go_ret
    refine ⟨o, by unfold wE; rw [if_pos hoff] <;> rfl, Upd.refl HFR.out, by unfold wF; rw [if_pos hoff]; exact HF.out⟩
  · have hoff' : F.off = false := by simpa using hoff
    rw [hoff'] at c2
    by_cases h1 : a < 0
    · have HE := Lib.hid (show wE F a x = 2 by unfold wE; rw [if_neg hoff, if_pos (.inl h1)])
      have HEF := Lib.hid (show wF F a x = F by unfold wF; rw [if_neg hoff, if_pos (.inl h1)])
      clear hfr hr
      go_enter Try.func25, Try.ntmps25
      go_wp2_with fail
      go_ret
      exact ⟨o, by rw [HE.out] <;> rfl, Upd.refl HFR.out, by rw [HEF.out]; exact HF.out⟩
    · by_cases h2 : (bl : Int) < a
      · have HE := Lib.hid (show wE F a x = 2 by unfold wE; rw [if_neg hoff, if_pos (.inr (by rw [← HBL.out]; exact h2))])
        have HEF := Lib.hid (show wF F a x = F by unfold wF; rw [if_neg hoff, if_pos (.inr (by rw [← HBL.out]; exact h2))])
        clear hfr hr
        go_enter Try.func25, Try.ntmps25
        go_wp2_with fail
        go_ret
        exact ⟨o, by rw [HE.out] <;> rfl, Upd.refl HFR.out, by rw [HEF.out]; exact HF.out⟩
      · have hno : ¬ (a < 0 ∨ (F.b.length : Int) < a) := by rw [← HBL.out]; omega
        by_cases h3 : F.most - a < x.length
        · have HE := Lib.hid (show wE F a x = 3 by unfold wE; rw [if_neg hoff, if_neg hno, if_pos h3])
          have HEF := Lib.hid (show wF F a x = F by unfold wF; rw [if_neg hoff, if_neg hno, if_pos h3])
          clear hno hfr hr
          go_enter Try.func25, Try.ntmps25
          go_wp2_with fail
          go_ret
          exact ⟨o, by rw [HE.out] <;> rfl, Upd.refl HFR.out, by rw [HEF.out]; exact HF.out⟩
        · obtain ⟨n, rfl⟩ := Int.eq_ofNat_of_zero_le (show 0 ≤ a by omega)
          have HE := show wE F n x = wrE F x by unfold wE; rw [if_neg hoff, if_neg hno, if_neg h3]
          have HEF := show wF F n x = wrF F n x by unfold wF; rw [if_neg hoff, if_neg hno, if_neg h3]; rfl
          refine (refWrite_go o i h0 h9 p F n A c x w HF.out hfr HOK.out (by rw [← HBL.out]; omega) (by omega) hoff' hr hA hc hbx hrl).mono ?_
          rintro e w2 ⟨o2, rfl, hu2, hf2⟩
          exact ⟨o2, by rw [HE], hu2, by rw [HEF]; exact hf2⟩
theorem rws_at {L M : List Rw} (h : rws L = rws M) (k : Nat) (h1 : k < L.length) (h2 : k < M.length) : L[k].pl = M[k].pl ∧ L[k].b = M[k].b := by
  have e : (rws L)[k]? = (rws M)[k]? := by rw [h]
  unfold rws at e
  rw [List.getElem?_map, List.getElem?_map, List.getElem?_eq_getElem h1, List.getElem?_eq_getElem h2] at e
  simp only [Option.map_some, Option.some.injEq, Prod.mk.injEq] at e
  exact e
set_option maxRecDepth 100000 in
set_option maxHeartbeats 3200000 in
theorem alike_any (o : Nat → Nat) (i j p q : Nat) (F : FM) (w : World) (hF : FileA w o i p F) (hR : RefA w o j q F) (hl : F.raws.length ≤ 1000000000) (hbl : ∀ r ∈ F.raws, r.2.length ≤ 1000000000) (hb : F.b.length ≤ 4200000) :
    Calls Try.prog 23 #[.pointer (some ⟨p, 0, none⟩), .pointer (some ⟨q, 0, none⟩)] w fun e w' => e = .returned (.bool true) ∧ Below w.heap.size w w' := by
  have HF := Lib.hid hF
  have HR := Lib.hid hR
  have HBL := Lib.hid hbl
  obtain ⟨vb, vr, lf, L, hR1⟩ := hR
  obtain ⟨Av, cv, hvb, _, hrd, _⟩ := own_split hR1.ob
  subst hvb
  obtain ⟨Ar, cr, hvr, _⟩ := row_split hR1.rw.own
  subst hvr
  have HR1 := Lib.hid hR1
  have hll : L.length = F.raws.length := by have := rws_length L; rw [hR1.raws] at this; omega
  obtain ⟨n, hn⟩ : ∃ n, n = F.raws.length := ⟨_, rfl⟩
  have HLL := Lib.hid (show L.length = n by omega)
  have HN := Lib.hid hn
  have hln : n ≤ 1000000000 := by omega
  have hqc : ∀ w', Below w.heap.size w w' → w'.cell? ⟨q, 0, none⟩ = some (.slice Av F.b.length cv) ∧ w'.cell? ⟨q, 1, none⟩ = some (.int .i64 F.most) ∧ w'.cell? ⟨q, 2, none⟩ = some (.bool F.off) ∧ w'.cell? ⟨q, 5, none⟩ = some (.slice Ar n cr) ∧ (convert 22 9 (.slice Av F.b.length cv)).run Try.prog w' = .ok (.string (strOfNums F.b)) w' := fun w' hb' => by
    have hlt := (Array.getElem?_eq_some_iff.1 HR1.out.blk).1
    obtain ⟨d0, d1, d2, _, _, d5⟩ := HR1.out.cells
    have e : ∀ k v, w.cell? ⟨q, k, none⟩ = some v → w'.cell? ⟨q, k, none⟩ = some v := fun k v h => (World.cell?_of_block (w := w) (hb'.block q hlt)).trans h
    refine ⟨e _ _ d0, e _ _ d1, e _ _ d2, by rw [← HLL.out]; exact e _ _ d5, ?_⟩
    exact own_str (own_step (own_weaken HR1.out.ob (Nat.zero_le _)) hb')
  have HQC := Lib.hid hqc
  clear hF hR1 hrd hbl hqc hll hn
  go_enter Try.func23, Try.ntmps23
  go_wp2_with fail
  refine (raws_any o i p F w HF.out hl HBL.out).mono ?_
  rintro e w1 ⟨v1, L1, rfl, hr1, hrs1, hb1⟩
  obtain ⟨A1, c1, rfl, hrow1⟩ := row_split hr1.own
  have HLL1 := Lib.hid (show L1.length = n by have := rws_length L1; rw [hrs1] at this; have := HN.out; omega)
  rw [HLL1.out]
  have HR1' := Lib.hid hr1
  have HRS1 := Lib.hid hrs1
  have HB1 := Lib.hid hb1
  have HROW1 := Lib.hid hrow1
  clear hr1 hrs1 hb1 hrow1
  go_wp2_with fail
  have hs0 := HQC.out w1.drew (by exact HB1.out.drew)
  obtain ⟨s1, s2, s3, s4, s5⟩ := hs0
  have hb0 : Below w.heap.size w w1.drew := HB1.out.drew
  have hz : (strOfNums F.b).size ≤ 9223372036854775807 := by rw [strOfNums_size]; omega
  have HRB := Lib.hid (fun w' (hb' : Below w.heap.size w w') => (HQC.out w' hb'))
  refine wp_region_held_drew (S := fun W' => W'.cell? ⟨q, 0, none⟩ = some (.slice Av F.b.length cv) ∧ W'.cell? ⟨q, 1, none⟩ = some (.int .i64 F.most) ∧ W'.cell? ⟨q, 2, none⟩ = some (.bool F.off) ∧ W'.cell? ⟨q, 5, none⟩ = some (.slice Ar n cr) ∧ (convert 22 9 (.slice Av F.b.length cv)).run Try.prog W' = .ok (.string (strOfNums F.b)) W') (by kernel_rfl) ⟨s1, s2, s3, s4, s5⟩ (fun hHeld => ?_)
  -- REGION
  refine wpAnyH_take (i := 0) (oi := { dst := some 9, op := Op.move (Operand.tmp 0), type := 24, pos := "law.go:32", after := #[], guard := none }) (v := ?_) rfl (by kernel_rfl) (by kernel_rfl) (by kernel_rfl) (fun _ _ _ h => h) (Or.inl ⟨by rfl, ?_⟩) (by assumption) ?_
  rotate_left
  · (intro wS hSw; (try dsimp only at hSw); go_simp; (try (with_reducible rfl)))
  try simp only [Act.put, List.setIfInBounds_toArray, List.set_cons_zero, List.set_cons_succ]
  refine wpAnyH_take (i := 2) (oi := { dst := some 11, op := Op.move (Operand.tmp 1), type := 44, pos := "law.go:32", after := #[], guard := none }) (v := ?_) rfl (by kernel_rfl) (by kernel_rfl) (by kernel_rfl) (fun _ _ _ h => h) (Or.inl ⟨by rfl, ?_⟩) (by assumption) ?_
  rotate_left
  · (intro wS hSw; (try dsimp only at hSw); go_simp; (try (with_reducible rfl)))
  try simp only [Act.put, List.setIfInBounds_toArray, List.set_cons_zero, List.set_cons_succ]
  refine wpAnyH_take (i := 3) (oi := { dst := some 12, op := Op.nilCheck (Operand.tmp 11), type := 0, pos := "law.go:32", after := #[{ on := 2, ground := Ground.data }], guard := none }) (v := ?_) rfl (by kernel_rfl) (by kernel_rfl) (by kernel_rfl) (fun _ _ _ h => h) (Or.inl ⟨by rfl, ?_⟩) (by assumption) ?_
  rotate_left
  · (intro wS hSw; (try dsimp only at hSw); go_simp; (try (with_reducible rfl)))
  try simp only [Act.put, List.setIfInBounds_toArray, List.set_cons_zero, List.set_cons_succ]
  refine wpAnyH_take (i := 4) (oi := { dst := some 13, op := Op.fieldAddr 66 (Operand.tmp 12) 0, type := 0, pos := "law.go:32", after := #[{ on := 3, ground := Ground.data }], guard := none }) (v := ?_) rfl (by kernel_rfl) (by kernel_rfl) (by kernel_rfl) (fun _ _ _ h => h) (Or.inl ⟨by rfl, ?_⟩) (by assumption) ?_
  rotate_left
  · (intro wS hSw; (try dsimp only at hSw); go_simp; (try (with_reducible rfl)))
  try simp only [Act.put, List.setIfInBounds_toArray, List.set_cons_zero, List.set_cons_succ]
  refine wpAnyH_take (i := 5) (oi := { dst := some 14, op := Op.load 22 (Operand.tmp 13), type := 22, pos := "law.go:32", after := #[{ on := 4, ground := Ground.data }], guard := none }) (v := ?_) rfl (by kernel_rfl) (by kernel_rfl) (by kernel_rfl) (fun _ _ _ h => h) (Or.inl ⟨by rfl, ?_⟩) (by assumption) ?_
  rotate_left
  · (intro wS hSw; (try dsimp only at hSw); go_simp; (try (with_reducible rfl)))
  try simp only [Act.put, List.setIfInBounds_toArray, List.set_cons_zero, List.set_cons_succ]
  refine wpAnyH_take (i := 6) (oi := { dst := some 15, op := Op.call { callee := Callee.builtin Builtin.len, args := #[Operand.tmp 14], argTypes := #[22] }, type := 3, pos := "law.go:32", after := #[{ on := 5, ground := Ground.data }], guard := none }) (v := ?_) rfl (by kernel_rfl) (by kernel_rfl) (by kernel_rfl) (fun _ _ _ h => h) (Or.inl ⟨by rfl, ?_⟩) (by assumption) ?_
  rotate_left
  · (intro wS hSw; (try dsimp only at hSw); go_simp; (try (with_reducible rfl)))
  try simp only [Act.put, List.setIfInBounds_toArray, List.set_cons_zero, List.set_cons_succ]
  refine wpAnyH_ready (rs := [1]) (by kernel_rfl) (by simp) ?_
  refine AllReadyH.cons (o := { dst := some 10, op := Op.call { callee := Callee.value (Operand.func 20), args := #[Operand.tmp 9], argTypes := #[24] }, type := 3, pos := "law.go:32", after := #[{ on := 0, ground := Ground.data }], guard := none }) rfl (fun K hK => ?_) AllReadyH.nil
  go_simp
  refine (len_any o i p F _ (HF.out.below hb0)).mono ?_
  rintro e wl ⟨rfl, rfl⟩
  go_wp2_with fail
  refine hK.out _ _ ?_ (fun hHeld => ?_)
  · exact ⟨s1, s2, s3, s4, s5⟩
  clear hK K
  try simp only [Act.put, List.setIfInBounds_toArray, List.set_cons_zero, List.set_cons_succ]
  refine wpAnyH_take (i := 7) (oi := { dst := some 16, op := Op.binOp BinOp.neq 3 (Operand.tmp 10) (Operand.tmp 15) 3, type := 4, pos := "law.go:32", after := #[{ on := 1, ground := Ground.data }, { on := 6, ground := Ground.data }], guard := none }) (v := ?_) rfl (by kernel_rfl) (by kernel_rfl) (by kernel_rfl) (fun _ _ _ h => h) (Or.inl ⟨by rfl, ?_⟩) (by assumption) ?_
  rotate_left
  · (intro wS hSw; (try dsimp only at hSw); go_simp; (try (with_reducible rfl)))
  try simp only [Act.put, List.setIfInBounds_toArray, List.set_cons_zero, List.set_cons_succ]
  refine wpAnyH_take (i := 8) (oi := { dst := some 17, op := Op.move (Operand.tmp 16), type := 4, pos := "law.go:32", after := #[{ on := 7, ground := Ground.data }, { on := 1, ground := Ground.chain }], guard := none }) (v := ?_) rfl (by kernel_rfl) (by kernel_rfl) (by kernel_rfl) (fun _ _ _ h => h) (Or.inl ⟨by rfl, ?_⟩) (by assumption) ?_
  rotate_left
  · (intro wS hSw; (try dsimp only at hSw); go_simp; (try (with_reducible rfl)))
  try simp only [Act.put, List.setIfInBounds_toArray, List.set_cons_zero, List.set_cons_succ]
  refine wpAnyH_take (i := 9) (oi := { dst := some 18, op := Op.move (Operand.tmp 0), type := 24, pos := "law.go:32", after := #[{ on := 8, ground := Ground.guard }], guard := some (8, false) }) (v := ?_) rfl (by kernel_rfl) (by kernel_rfl) (by kernel_rfl) (fun _ _ _ h => h) (Or.inl ⟨by rfl, ?_⟩) (by assumption) ?_
  rotate_left
  · (intro wS hSw; (try dsimp only at hSw); go_simp; (try (with_reducible rfl)))
  try simp only [Act.put, List.setIfInBounds_toArray, List.set_cons_zero, List.set_cons_succ]
  refine wpAnyH_take (i := 11) (oi := { dst := some 20, op := Op.move (Operand.tmp 1), type := 44, pos := "law.go:32", after := #[{ on := 8, ground := Ground.guard }], guard := some (8, false) }) (v := ?_) rfl (by kernel_rfl) (by kernel_rfl) (by kernel_rfl) (fun _ _ _ h => h) (Or.inl ⟨by rfl, ?_⟩) (by assumption) ?_
  rotate_left
  · (intro wS hSw; (try dsimp only at hSw); go_simp; (try (with_reducible rfl)))
  try simp only [Act.put, List.setIfInBounds_toArray, List.set_cons_zero, List.set_cons_succ]
  refine wpAnyH_take (i := 12) (oi := { dst := some 21, op := Op.nilCheck (Operand.tmp 20), type := 0, pos := "law.go:32", after := #[{ on := 11, ground := Ground.data }, { on := 8, ground := Ground.guard }], guard := some (8, false) }) (v := ?_) rfl (by kernel_rfl) (by kernel_rfl) (by kernel_rfl) (fun _ _ _ h => h) (Or.inl ⟨by rfl, ?_⟩) (by assumption) ?_
  rotate_left
  · (intro wS hSw; (try dsimp only at hSw); go_simp; (try (with_reducible rfl)))
  try simp only [Act.put, List.setIfInBounds_toArray, List.set_cons_zero, List.set_cons_succ]
  refine wpAnyH_take (i := 13) (oi := { dst := some 22, op := Op.fieldAddr 66 (Operand.tmp 21) 1, type := 0, pos := "law.go:32", after := #[{ on := 12, ground := Ground.data }, { on := 8, ground := Ground.guard }], guard := some (8, false) }) (v := ?_) rfl (by kernel_rfl) (by kernel_rfl) (by kernel_rfl) (fun _ _ _ h => h) (Or.inl ⟨by rfl, ?_⟩) (by assumption) ?_
  rotate_left
  · (intro wS hSw; (try dsimp only at hSw); go_simp; (try (with_reducible rfl)))
  try simp only [Act.put, List.setIfInBounds_toArray, List.set_cons_zero, List.set_cons_succ]
  refine wpAnyH_take (i := 14) (oi := { dst := some 23, op := Op.load 3 (Operand.tmp 22), type := 3, pos := "law.go:32", after := #[{ on := 13, ground := Ground.data }, { on := 8, ground := Ground.guard }], guard := some (8, false) }) (v := ?_) rfl (by kernel_rfl) (by kernel_rfl) (by kernel_rfl) (fun _ _ _ h => h) (Or.inl ⟨by rfl, ?_⟩) (by assumption) ?_
  rotate_left
  · (intro wS hSw; (try dsimp only at hSw); go_simp; (try (with_reducible rfl)))
  try simp only [Act.put, List.setIfInBounds_toArray, List.set_cons_zero, List.set_cons_succ]
  refine wpAnyH_ready (rs := [10]) (by kernel_rfl) (by simp) ?_
  refine AllReadyH.cons (o := { dst := some 19, op := Op.call { callee := Callee.value (Operand.func 24), args := #[Operand.tmp 18], argTypes := #[24] }, type := 3, pos := "law.go:32", after := #[{ on := 9, ground := Ground.data }, { on := 8, ground := Ground.chain }, { on := 8, ground := Ground.guard }], guard := some (8, false) }) rfl (fun K hK => ?_) AllReadyH.nil
  go_simp
  refine (most_any o i p F _ (HF.out.below hb0)).mono ?_
  rintro e wl ⟨rfl, rfl⟩
  go_wp2_with fail
  refine hK.out _ _ ?_ (fun hHeld => ?_)
  · exact ⟨s1, s2, s3, s4, s5⟩
  clear hK K
  try simp only [Act.put, List.setIfInBounds_toArray, List.set_cons_zero, List.set_cons_succ]
  refine wpAnyH_take (i := 15) (oi := { dst := some 24, op := Op.binOp BinOp.neq 3 (Operand.tmp 19) (Operand.tmp 23) 3, type := 4, pos := "law.go:32", after := #[{ on := 10, ground := Ground.data }, { on := 14, ground := Ground.data }, { on := 8, ground := Ground.guard }], guard := some (8, false) }) (v := ?_) rfl (by kernel_rfl) (by kernel_rfl) (by kernel_rfl) (fun _ _ _ h => h) (Or.inl ⟨by rfl, ?_⟩) (by assumption) ?_
  rotate_left
  · (intro wS hSw; (try dsimp only at hSw); go_simp; (try (with_reducible rfl)))
  try simp only [Act.put, List.setIfInBounds_toArray, List.set_cons_zero, List.set_cons_succ]
  refine wpAnyH_take (i := 16) (oi := { dst := some 25, op := Op.pick (Operand.tmp 17) (Operand.const (Value.bool true)) (Operand.tmp 24), type := 4, pos := "law.go:32", after := #[{ on := 8, ground := Ground.data }, { on := 15, ground := Ground.data }], guard := none }) (v := ?_) rfl (by kernel_rfl) (by kernel_rfl) (by kernel_rfl) (fun _ _ _ h => h) (Or.inl ⟨by rfl, ?_⟩) (by assumption) ?_
  rotate_left
  · (intro wS hSw; (try dsimp only at hSw); go_simp; (try (with_reducible rfl)))
  try simp only [Act.put, List.setIfInBounds_toArray, List.set_cons_zero, List.set_cons_succ]
  refine wpAnyH_take (i := 17) (oi := { dst := some 26, op := Op.move (Operand.tmp 25), type := 4, pos := "law.go:32", after := #[{ on := 16, ground := Ground.data }, { on := 10, ground := Ground.chain }], guard := none }) (v := ?_) rfl (by kernel_rfl) (by kernel_rfl) (by kernel_rfl) (fun _ _ _ h => h) (Or.inl ⟨by rfl, ?_⟩) (by assumption) ?_
  rotate_left
  · (intro wS hSw; (try dsimp only at hSw); go_simp; (try (with_reducible rfl)))
  try simp only [Act.put, List.setIfInBounds_toArray, List.set_cons_zero, List.set_cons_succ]
  refine wpAnyH_take (i := 18) (oi := { dst := some 27, op := Op.move (Operand.tmp 0), type := 24, pos := "law.go:32", after := #[{ on := 17, ground := Ground.guard }], guard := some (17, false) }) (v := ?_) rfl (by kernel_rfl) (by kernel_rfl) (by kernel_rfl) (fun _ _ _ h => h) (Or.inl ⟨by rfl, ?_⟩) (by assumption) ?_
  rotate_left
  · (intro wS hSw; (try dsimp only at hSw); go_simp; (try (with_reducible rfl)))
  try simp only [Act.put, List.setIfInBounds_toArray, List.set_cons_zero, List.set_cons_succ]
  refine wpAnyH_take (i := 20) (oi := { dst := some 29, op := Op.move (Operand.tmp 1), type := 44, pos := "law.go:32", after := #[{ on := 17, ground := Ground.guard }], guard := some (17, false) }) (v := ?_) rfl (by kernel_rfl) (by kernel_rfl) (by kernel_rfl) (fun _ _ _ h => h) (Or.inl ⟨by rfl, ?_⟩) (by assumption) ?_
  rotate_left
  · (intro wS hSw; (try dsimp only at hSw); go_simp; (try (with_reducible rfl)))
  try simp only [Act.put, List.setIfInBounds_toArray, List.set_cons_zero, List.set_cons_succ]
  refine wpAnyH_take (i := 21) (oi := { dst := some 30, op := Op.nilCheck (Operand.tmp 29), type := 0, pos := "law.go:32", after := #[{ on := 20, ground := Ground.data }, { on := 17, ground := Ground.guard }], guard := some (17, false) }) (v := ?_) rfl (by kernel_rfl) (by kernel_rfl) (by kernel_rfl) (fun _ _ _ h => h) (Or.inl ⟨by rfl, ?_⟩) (by assumption) ?_
  rotate_left
  · (intro wS hSw; (try dsimp only at hSw); go_simp; (try (with_reducible rfl)))
  try simp only [Act.put, List.setIfInBounds_toArray, List.set_cons_zero, List.set_cons_succ]
  refine wpAnyH_take (i := 22) (oi := { dst := some 31, op := Op.fieldAddr 66 (Operand.tmp 30) 2, type := 0, pos := "law.go:32", after := #[{ on := 21, ground := Ground.data }, { on := 17, ground := Ground.guard }], guard := some (17, false) }) (v := ?_) rfl (by kernel_rfl) (by kernel_rfl) (by kernel_rfl) (fun _ _ _ h => h) (Or.inl ⟨by rfl, ?_⟩) (by assumption) ?_
  rotate_left
  · (intro wS hSw; (try dsimp only at hSw); go_simp; (try (with_reducible rfl)))
  try simp only [Act.put, List.setIfInBounds_toArray, List.set_cons_zero, List.set_cons_succ]
  refine wpAnyH_take (i := 23) (oi := { dst := some 32, op := Op.load 4 (Operand.tmp 31), type := 4, pos := "law.go:32", after := #[{ on := 22, ground := Ground.data }, { on := 17, ground := Ground.guard }], guard := some (17, false) }) (v := ?_) rfl (by kernel_rfl) (by kernel_rfl) (by kernel_rfl) (fun _ _ _ h => h) (Or.inl ⟨by rfl, ?_⟩) (by assumption) ?_
  rotate_left
  · (intro wS hSw; (try dsimp only at hSw); go_simp; (try (with_reducible rfl)))
  try simp only [Act.put, List.setIfInBounds_toArray, List.set_cons_zero, List.set_cons_succ]
  refine wpAnyH_ready (rs := [19]) (by kernel_rfl) (by simp) ?_
  refine AllReadyH.cons (o := { dst := some 28, op := Op.call { callee := Callee.value (Operand.func 17), args := #[Operand.tmp 27], argTypes := #[24] }, type := 4, pos := "law.go:32", after := #[{ on := 18, ground := Ground.data }, { on := 17, ground := Ground.chain }, { on := 17, ground := Ground.guard }], guard := some (17, false) }) rfl (fun K hK => ?_) AllReadyH.nil
  go_simp
  refine (on_any o i p F _ (HF.out.below hb0)).mono ?_
  rintro e wl ⟨rfl, rfl⟩
  go_wp2_with fail
  refine hK.out _ _ ?_ (fun hHeld => ?_)
  · exact ⟨s1, s2, s3, s4, s5⟩
  clear hK K
  try simp only [Act.put, List.setIfInBounds_toArray, List.set_cons_zero, List.set_cons_succ]
  refine wpAnyH_take (i := 24) (oi := { dst := some 33, op := Op.binOp BinOp.eql 4 (Operand.tmp 28) (Operand.tmp 32) 4, type := 4, pos := "law.go:32", after := #[{ on := 19, ground := Ground.data }, { on := 23, ground := Ground.data }, { on := 17, ground := Ground.guard }], guard := some (17, false) }) (v := ?_) rfl (by kernel_rfl) (by kernel_rfl) (by kernel_rfl) (fun _ _ _ h => h) (Or.inl ⟨by rfl, ?_⟩) (by assumption) ?_
  rotate_left
  · (intro wS hSw; (try dsimp only at hSw); go_simp; (try (with_reducible rfl)))
  try simp only [Act.put, List.setIfInBounds_toArray, List.set_cons_zero, List.set_cons_succ]
  refine wpAnyH_take (i := 25) (oi := { dst := some 34, op := Op.pick (Operand.tmp 26) (Operand.const (Value.bool true)) (Operand.tmp 33), type := 4, pos := "law.go:32", after := #[{ on := 17, ground := Ground.data }, { on := 24, ground := Ground.data }], guard := none }) (v := ?_) rfl (by kernel_rfl) (by kernel_rfl) (by kernel_rfl) (fun _ _ _ h => h) (Or.inl ⟨by rfl, ?_⟩) (by assumption) ?_
  rotate_left
  · (intro wS hSw; (try dsimp only at hSw); go_simp; (try (with_reducible rfl)))
  try simp only [Act.put, List.setIfInBounds_toArray, List.set_cons_zero, List.set_cons_succ]
  refine wpAnyH_take (i := 26) (oi := { dst := some 35, op := Op.move (Operand.tmp 34), type := 4, pos := "law.go:32", after := #[{ on := 25, ground := Ground.data }, { on := 19, ground := Ground.chain }], guard := none }) (v := ?_) rfl (by kernel_rfl) (by kernel_rfl) (by kernel_rfl) (fun _ _ _ h => h) (Or.inl ⟨by rfl, ?_⟩) (by assumption) ?_
  rotate_left
  · (intro wS hSw; (try dsimp only at hSw); go_simp; (try (with_reducible rfl)))
  try simp only [Act.put, List.setIfInBounds_toArray, List.set_cons_zero, List.set_cons_succ]
  refine wpAnyH_take (i := 27) (oi := { dst := some 36, op := Op.move (Operand.tmp 0), type := 24, pos := "law.go:32", after := #[{ on := 26, ground := Ground.guard }], guard := some (26, false) }) (v := ?_) rfl (by kernel_rfl) (by kernel_rfl) (by kernel_rfl) (fun _ _ _ h => h) (Or.inl ⟨by rfl, ?_⟩) (by assumption) ?_
  rotate_left
  · (intro wS hSw; (try dsimp only at hSw); go_simp; (try (with_reducible rfl)))
  try simp only [Act.put, List.setIfInBounds_toArray, List.set_cons_zero, List.set_cons_succ]
  refine wpAnyH_take (i := 30) (oi := { dst := some 39, op := Op.move (Operand.tmp 1), type := 44, pos := "law.go:32", after := #[{ on := 26, ground := Ground.guard }], guard := some (26, false) }) (v := ?_) rfl (by kernel_rfl) (by kernel_rfl) (by kernel_rfl) (fun _ _ _ h => h) (Or.inl ⟨by rfl, ?_⟩) (by assumption) ?_
  rotate_left
  · (intro wS hSw; (try dsimp only at hSw); go_simp; (try (with_reducible rfl)))
  try simp only [Act.put, List.setIfInBounds_toArray, List.set_cons_zero, List.set_cons_succ]
  refine wpAnyH_take (i := 31) (oi := { dst := some 40, op := Op.nilCheck (Operand.tmp 39), type := 0, pos := "law.go:32", after := #[{ on := 30, ground := Ground.data }, { on := 26, ground := Ground.guard }], guard := some (26, false) }) (v := ?_) rfl (by kernel_rfl) (by kernel_rfl) (by kernel_rfl) (fun _ _ _ h => h) (Or.inl ⟨by rfl, ?_⟩) (by assumption) ?_
  rotate_left
  · (intro wS hSw; (try dsimp only at hSw); go_simp; (try (with_reducible rfl)))
  try simp only [Act.put, List.setIfInBounds_toArray, List.set_cons_zero, List.set_cons_succ]
  refine wpAnyH_take (i := 32) (oi := { dst := some 41, op := Op.fieldAddr 66 (Operand.tmp 40) 0, type := 0, pos := "law.go:32", after := #[{ on := 31, ground := Ground.data }, { on := 26, ground := Ground.guard }], guard := some (26, false) }) (v := ?_) rfl (by kernel_rfl) (by kernel_rfl) (by kernel_rfl) (fun _ _ _ h => h) (Or.inl ⟨by rfl, ?_⟩) (by assumption) ?_
  rotate_left
  · (intro wS hSw; (try dsimp only at hSw); go_simp; (try (with_reducible rfl)))
  try simp only [Act.put, List.setIfInBounds_toArray, List.set_cons_zero, List.set_cons_succ]
  refine wpAnyH_take (i := 33) (oi := { dst := some 42, op := Op.load 22 (Operand.tmp 41), type := 22, pos := "law.go:32", after := #[{ on := 32, ground := Ground.data }, { on := 26, ground := Ground.guard }], guard := some (26, false) }) (v := ?_) rfl (by kernel_rfl) (by kernel_rfl) (by kernel_rfl) (fun _ _ _ h => h) (Or.inl ⟨by rfl, ?_⟩) (by assumption) ?_
  rotate_left
  · (intro wS hSw; (try dsimp only at hSw); go_simp; (try (with_reducible rfl)))
  try simp only [Act.put, List.setIfInBounds_toArray, List.set_cons_zero, List.set_cons_succ]
  refine wpAnyH_take (i := 34) (oi := { dst := some 43, op := Op.convert 22 9 (Operand.tmp 42), type := 9, pos := "law.go:32", after := #[{ on := 33, ground := Ground.data }, { on := 26, ground := Ground.guard }], guard := some (26, false) }) (v := ?_) rfl (by kernel_rfl) (by kernel_rfl) (by kernel_rfl) (fun _ _ _ h => h) (Or.inl ⟨by rfl, ?_⟩) (by assumption) ?_
  rotate_left
  · (intro wS hSw; (try dsimp only at hSw); go_simp; (try (with_reducible rfl)))
  try simp only [Act.put, List.setIfInBounds_toArray, List.set_cons_zero, List.set_cons_succ]
  refine wpAnyH_ready (rs := [28]) (by kernel_rfl) (by simp) ?_
  refine AllReadyH.cons (o := { dst := some 37, op := Op.call { callee := Callee.value (Operand.func 16), args := #[Operand.tmp 36], argTypes := #[24] }, type := 22, pos := "law.go:32", after := #[{ on := 27, ground := Ground.data }, { on := 26, ground := Ground.chain }, { on := 26, ground := Ground.guard }], guard := some (26, false) }) rfl (fun K hK => ?_) AllReadyH.nil
  go_simp
  refine (bytes_any o i p F _ (HF.out.below hb0) hb).mono ?_
  rintro e w3 ⟨v3, rfl, ho3, hb3⟩
  have hcv := own_str ho3
  have hb9 : Below w.heap.size w w3 := hb0.trans (hb3.mono hb0.size)
  have hb13 : Below w1.heap.size w1 w3 := ⟨hb3.os, hb3.tape, hb3.output, hb3.size, hb3.block⟩
  clear ho3
  go_wp2_with fail
  refine hK.out _ _ ?_ (fun hHeld => ?_)
  · exact HRB.out _ hb9
  clear hK K
  try simp only [Act.put, List.setIfInBounds_toArray, List.set_cons_zero, List.set_cons_succ]
  refine wpAnyH_ready (rs := [29]) (by kernel_rfl) (by simp) ?_
  refine AllReadyH.cons (o := { dst := some 38, op := Op.convert 22 9 (Operand.tmp 37), type := 9, pos := "law.go:32", after := #[{ on := 28, ground := Ground.data }, { on := 26, ground := Ground.guard }], guard := some (26, false) }) rfl (fun K hK => ?_) AllReadyH.nil
  go_simp
  refine hK.out _ _ ?_ (fun hHeld => ?_)
  · exact HRB.out _ hb9
  clear hK K
  try simp only [Act.put, List.setIfInBounds_toArray, List.set_cons_zero, List.set_cons_succ]
  refine wpAnyH_take (i := 35) (oi := { dst := some 44, op := Op.binOp BinOp.neq 9 (Operand.tmp 38) (Operand.tmp 43) 9, type := 4, pos := "law.go:32", after := #[{ on := 29, ground := Ground.data }, { on := 34, ground := Ground.data }, { on := 26, ground := Ground.guard }], guard := some (26, false) }) (v := ?_) rfl (by kernel_rfl) (by kernel_rfl) (by kernel_rfl) (fun _ _ _ h => h) (Or.inl ⟨by rfl, ?_⟩) (by assumption) ?_
  rotate_left
  · (intro wS hSw; (try dsimp only at hSw); go_simp; (try (with_reducible rfl)))
  try simp only [Act.put, List.setIfInBounds_toArray, List.set_cons_zero, List.set_cons_succ]
  refine wpAnyH_take (i := 36) (oi := { dst := some 45, op := Op.pick (Operand.tmp 35) (Operand.const (Value.bool true)) (Operand.tmp 44), type := 4, pos := "law.go:32", after := #[{ on := 26, ground := Ground.data }, { on := 35, ground := Ground.data }], guard := none }) (v := ?_) rfl (by kernel_rfl) (by kernel_rfl) (by kernel_rfl) (fun _ _ _ h => h) (Or.inl ⟨by rfl, ?_⟩) (by assumption) ?_
  rotate_left
  · (intro wS hSw; (try dsimp only at hSw); go_simp; (try (with_reducible rfl)))
  try simp only [Act.put, List.setIfInBounds_toArray, List.set_cons_zero, List.set_cons_succ]
  refine wpAnyH_take (i := 37) (oi := { dst := some 46, op := Op.move (Operand.tmp 45), type := 4, pos := "law.go:32", after := #[{ on := 36, ground := Ground.data }, { on := 28, ground := Ground.chain }], guard := none }) (v := ?_) rfl (by kernel_rfl) (by kernel_rfl) (by kernel_rfl) (fun _ _ _ h => h) (Or.inl ⟨by rfl, ?_⟩) (by assumption) ?_
  rotate_left
  · (intro wS hSw; (try dsimp only at hSw); go_simp; (try (with_reducible rfl)))
  try simp only [Act.put, List.setIfInBounds_toArray, List.set_cons_zero, List.set_cons_succ]
  refine wpAnyH_take (i := 38) (oi := { dst := some 47, op := Op.move (Operand.tmp 5), type := 32, pos := "law.go:32", after := #[{ on := 37, ground := Ground.guard }], guard := some (37, false) }) (v := ?_) rfl (by kernel_rfl) (by kernel_rfl) (by kernel_rfl) (fun _ _ _ h => h) (Or.inl ⟨by rfl, ?_⟩) (by assumption) ?_
  rotate_left
  · (intro wS hSw; (try dsimp only at hSw); go_simp; (try (with_reducible rfl)))
  try simp only [Act.put, List.setIfInBounds_toArray, List.set_cons_zero, List.set_cons_succ]
  refine wpAnyH_take (i := 39) (oi := { dst := some 48, op := Op.call { callee := Callee.builtin Builtin.len, args := #[Operand.tmp 47], argTypes := #[32] }, type := 3, pos := "law.go:32", after := #[{ on := 38, ground := Ground.data }, { on := 37, ground := Ground.guard }], guard := some (37, false) }) (v := ?_) rfl (by kernel_rfl) (by kernel_rfl) (by kernel_rfl) (fun _ _ _ h => h) (Or.inl ⟨by rfl, ?_⟩) (by assumption) ?_
  rotate_left
  · (intro wS hSw; (try dsimp only at hSw); go_simp; (try (with_reducible rfl)))
  try simp only [Act.put, List.setIfInBounds_toArray, List.set_cons_zero, List.set_cons_succ]
  refine wpAnyH_take (i := 40) (oi := { dst := some 49, op := Op.move (Operand.tmp 1), type := 44, pos := "law.go:32", after := #[{ on := 37, ground := Ground.guard }], guard := some (37, false) }) (v := ?_) rfl (by kernel_rfl) (by kernel_rfl) (by kernel_rfl) (fun _ _ _ h => h) (Or.inl ⟨by rfl, ?_⟩) (by assumption) ?_
  rotate_left
  · (intro wS hSw; (try dsimp only at hSw); go_simp; (try (with_reducible rfl)))
  try simp only [Act.put, List.setIfInBounds_toArray, List.set_cons_zero, List.set_cons_succ]
  refine wpAnyH_take (i := 41) (oi := { dst := some 50, op := Op.nilCheck (Operand.tmp 49), type := 0, pos := "law.go:32", after := #[{ on := 40, ground := Ground.data }, { on := 37, ground := Ground.guard }], guard := some (37, false) }) (v := ?_) rfl (by kernel_rfl) (by kernel_rfl) (by kernel_rfl) (fun _ _ _ h => h) (Or.inl ⟨by rfl, ?_⟩) (by assumption) ?_
  rotate_left
  · (intro wS hSw; (try dsimp only at hSw); go_simp; (try (with_reducible rfl)))
  try simp only [Act.put, List.setIfInBounds_toArray, List.set_cons_zero, List.set_cons_succ]
  refine wpAnyH_take (i := 42) (oi := { dst := some 51, op := Op.fieldAddr 66 (Operand.tmp 50) 5, type := 0, pos := "law.go:32", after := #[{ on := 41, ground := Ground.data }, { on := 37, ground := Ground.guard }], guard := some (37, false) }) (v := ?_) rfl (by kernel_rfl) (by kernel_rfl) (by kernel_rfl) (fun _ _ _ h => h) (Or.inl ⟨by rfl, ?_⟩) (by assumption) ?_
  rotate_left
  · (intro wS hSw; (try dsimp only at hSw); go_simp; (try (with_reducible rfl)))
  try simp only [Act.put, List.setIfInBounds_toArray, List.set_cons_zero, List.set_cons_succ]
  refine wpAnyH_take (i := 43) (oi := { dst := some 52, op := Op.load 64 (Operand.tmp 51), type := 64, pos := "law.go:32", after := #[{ on := 42, ground := Ground.data }, { on := 37, ground := Ground.guard }], guard := some (37, false) }) (v := ?_) rfl (by kernel_rfl) (by kernel_rfl) (by kernel_rfl) (fun _ _ _ h => h) (Or.inl ⟨by rfl, ?_⟩) (by assumption) ?_
  rotate_left
  · (intro wS hSw; (try dsimp only at hSw); go_simp; (try (with_reducible rfl)))
  try simp only [Act.put, List.setIfInBounds_toArray, List.set_cons_zero, List.set_cons_succ]
  refine wpAnyH_take (i := 44) (oi := { dst := some 53, op := Op.call { callee := Callee.builtin Builtin.len, args := #[Operand.tmp 52], argTypes := #[64] }, type := 3, pos := "law.go:32", after := #[{ on := 43, ground := Ground.data }, { on := 37, ground := Ground.guard }], guard := some (37, false) }) (v := ?_) rfl (by kernel_rfl) (by kernel_rfl) (by kernel_rfl) (fun _ _ _ h => h) (Or.inl ⟨by rfl, ?_⟩) (by assumption) ?_
  rotate_left
  · (intro wS hSw; (try dsimp only at hSw); go_simp; (try (with_reducible rfl)))
  try simp only [Act.put, List.setIfInBounds_toArray, List.set_cons_zero, List.set_cons_succ]
  refine wpAnyH_take (i := 45) (oi := { dst := some 54, op := Op.binOp BinOp.neq 3 (Operand.tmp 48) (Operand.tmp 53) 3, type := 4, pos := "law.go:32", after := #[{ on := 39, ground := Ground.data }, { on := 44, ground := Ground.data }, { on := 37, ground := Ground.guard }], guard := some (37, false) }) (v := ?_) rfl (by kernel_rfl) (by kernel_rfl) (by kernel_rfl) (fun _ _ _ h => h) (Or.inl ⟨by rfl, ?_⟩) (by assumption) ?_
  rotate_left
  · (intro wS hSw; (try dsimp only at hSw); go_simp; (try (with_reducible rfl)))
  try simp only [Act.put, List.setIfInBounds_toArray, List.set_cons_zero, List.set_cons_succ]
  refine wpAnyH_take (i := 46) (oi := { dst := some 55, op := Op.pick (Operand.tmp 46) (Operand.const (Value.bool true)) (Operand.tmp 54), type := 4, pos := "law.go:32", after := #[{ on := 37, ground := Ground.data }, { on := 45, ground := Ground.data }], guard := none }) (v := ?_) rfl (by kernel_rfl) (by kernel_rfl) (by kernel_rfl) (fun _ _ _ h => h) (Or.inl ⟨by rfl, ?_⟩) (by assumption) ?_
  rotate_left
  · (intro wS hSw; (try dsimp only at hSw); go_simp; (try (with_reducible rfl)))
  try simp only [Act.put, List.setIfInBounds_toArray, List.set_cons_zero, List.set_cons_succ]
  refine wpAnyH_done (by kernel_rfl) ?_ _
  have HB9 := Lib.hid hb9
  have HB13 := Lib.hid hb13
  clear hcv hb9 hb13 hb3 s1 s2 s3 s4 s5 hb0
  go_wp2_with fail
  go_loopw [6] (fun t wr => ∃ k : Nat, k ≤ n ∧ t = .int .i64 k ∧ Hid (Below w.heap.size w wr) ∧ Hid (Below w1.heap.size w1 wr)) (fun t _ => n - (intOf t).toNat)
  case atStart => exact ⟨0, Nat.zero_le _, rfl, HB9.out, HB13.out⟩
  case round =>
    obtain ⟨k, hk, rfl, HW, HW1⟩ := hrel
    by_cases hlt : k < n
    · have hlt1 : k < L1.length := by rw [HLL1.out]; exact hlt
      have hlt2 : k < L.length := by rw [HLL.out]; exact hlt
      have hrow1 := ownsRow_keep (w' := wr) HROW1.out (fun g _ hl' => HW1.out.block g hl')
      have hrow2 := ownsRow_keep (w' := wr) HR1.out.rw.own (fun g _ hl' => HW.out.block g hl')
      rw [HLL1.out] at hrow1
      obtain ⟨g1, cp1, e1, _, _⟩ : ∃ g cap, Value.slice A1 n c1 = .slice (some ⟨g, 0, none⟩) n cap ∧ w.heap.size ≤ g ∧ g < wr.heap.size := by
        rcases row_cases hrow1 with ⟨_, h2⟩ | h
        · omega
        · exact h
      obtain ⟨g2, cp2, e2, _, _⟩ : ∃ g cap, Value.slice Ar L.length cr = .slice (some ⟨g, 0, none⟩) L.length cap ∧ 0 ≤ g ∧ g < wr.heap.size := by
        rcases row_cases hrow2 with ⟨_, h2⟩ | h
        · omega
        · exact h
      injection e1 with e1 _ e1c
      injection e2 with e2 _ e2c
      subst e1 e2 e1c e2c
      rw [← HLL1.out] at hrow1
      obtain ⟨p0, p1⟩ := row_cells hrow1 k hlt1
      obtain ⟨q0, q1⟩ := row_cells hrow2 k hlt2
      obtain ⟨epl, eb⟩ := rws_at (HRS1.out.trans HR1.out.raws.symm) k hlt1 hlt2
      have hown1 := own_step (HR1'.out.each _ (List.getElem_mem hlt1)) HW1.out
      have hrd2 := (HR1.out.rw.rd _ (List.getElem_mem hlt2)).1.below HW.out
      have hbk : L[k].b.length ≤ 1000000000 := HBL.out (L[k].pl, L[k].b) (by rw [← HR1.out.raws]; exact List.mem_map_of_mem (List.getElem_mem hlt2))
      obtain ⟨x, hx⟩ : ∃ x, x = L[k] := ⟨_, rfl⟩
      obtain ⟨y, hy⟩ : ∃ y, y = L1[k] := ⟨_, rfl⟩
      rw [← hx] at q0 q1 epl eb hrd2 hbk
      rw [← hy] at p0 p1 epl eb hown1
      obtain ⟨ypl, yA, yc, yb⟩ := y
      obtain ⟨xpl, xA, xc, xb⟩ := x
      simp only at p0 p1 q0 q1 epl eb hown1 hrd2 hbk
      subst epl eb
      have hz1 : (strOfNums yb).size ≤ 9223372036854775807 := by rw [strOfNums_size]; omega
      have hv1 : ∀ m, (convert 22 9 (.slice yA yb.length yc)).run Try.prog (wr.drewN m) = .ok (.string (strOfNums yb)) (wr.drewN m) := fun m => own_strN hown1 m
      have hv2 : ∀ m, (convert 22 9 (.slice xA yb.length xc)).run Try.prog (wr.drewN m) = .ok (.string (strOfNums yb)) (wr.drewN m) := fun m => string_of_reads Try.underlying22 Try.underlying5 Try.underlying9 (show ReadsInt (wr.drewN m) .u8 xA yb.length yb from hrd2)
      have q5 := (HQC.out wr HW.out).2.2.2.1
      clear hx hy hown1 hrd2 hrow1 hrow2 HQC HRB
      go_wp2_with fail
      go_quiet (fail)
      go_wp2_with fail
      go_roundw
      case rel => exact ⟨k + 1, by omega, by go_num, pw_below_drewN HW.out _, pw_below_drewN HW1.out _⟩
      case measure => simp [intOf]; omega
    · go_wp2_with fail
      go_ret
      exact ⟨rfl, HW.out⟩
end Go.Proofs.Ytnmcmenjhmhfjaa
