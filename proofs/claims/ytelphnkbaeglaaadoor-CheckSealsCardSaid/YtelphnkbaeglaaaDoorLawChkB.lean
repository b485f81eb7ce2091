/-
  CheckSeals: the walk. No premise.
-/
import Derived.Test.YtelphnkbaeglaaaDoorLawChkA
import Derived.Test.YtelphnkbaeglaaaDoorChkP
namespace Go.Proofs.YtelphnkbaeglaaaDoor
open Go.RowKit Go.Proofs.YtelphnkbaeglaaaDoorW.PrintWords

set_option maxHeartbeats 1600000 in
theorem checkSeals_walk (A : Option Addr) (c : Nat) (l : List Int) (w : World) (hT : TabAt w) (hr : ReadsInt w .u8 A l.length l) (hw : ∀ x ∈ l, (Lit.int .u8 x).wf = true) (hc : l.length ≤ c) (hy : l.length * 1 ≤ 140737488351232) :
    Calls Tryd.prog 7 #[.slice A l.length c] w fun e w' => e = .returned (.bool true) ∧ Below w.heap.size w w' := by
  have hl : l.length + 8 ≤ 150000000000000 := by omega
  have hl9 : l.length + 100 ≤ 150000000000000 := by omega
  have HR := Lib.hid (show Rd w A l from hr)
  have HBt := Lib.hid (wf_bts' hw)
  have HT := Lib.hid hT
  clear hr hw hy hT
  go_enter Tryd.func7, Tryd.ntmps7
  go_wp2_with fail
  refine (lent_any A c l w HR.out (by omega)).mono ?_
  rintro e w1 ⟨g, cap, rfl, ho1, hb1⟩
  have HO1 := Lib.hid ho1
  have HB1 := Lib.hid hb1
  have hs1 := hb1.size
  clear ho1 hb1
  go_wp2_with fail
  refine (seal_any (some ⟨g, 0, none⟩) cap l w1 (lent_rd HO1.out) HBt.out (HT.out.below HB1.out (Nat.le_refl _)) hl).mono ?_
  rintro e w2 ⟨vx, rfl, hx, hbx⟩
  have HVX := Lib.hid hx
  have HB2 := Lib.hid hbx
  have hs2 := hbx.size
  clear hx hbx
  have HB02 := Lib.hid (HB1.out.trans (HB2.out.mono hs1))
  go_wp2_with fail
  refine (unseal_any (some ⟨g, 0, none⟩) cap l w2 ((lent_rd HO1.out).below HB2.out) HBt.out (HT.out.below HB02.out (Nat.le_refl _)) (lent_cap HO1.out) hl).mono ?_
  rintro e w3 ⟨vy, rfl, hx, hbx⟩
  have HVY := Lib.hid hx
  have HB3 := Lib.hid hbx
  have hs3 := hbx.size
  clear hx hbx
  have HB13 := Lib.hid (HB2.out.trans (HB3.out.mono hs2))
  have HB03 := Lib.hid (HB02.out.trans (HB3.out.mono HB02.out.size))
  go_wp2_with fail
  refine (unseal_any (some ⟨g, 0, none⟩) cap l w3 ((lent_rd HO1.out).below HB13.out) HBt.out (HT.out.below HB03.out (Nat.le_refl _)) (lent_cap HO1.out) hl).mono ?_
  rintro e w4 ⟨vz, rfl, hx, hbx⟩
  have HVZ := Lib.hid hx
  have HB4 := Lib.hid hbx
  have hs4 := hbx.size
  clear hx hbx
  have HB14 := Lib.hid (HB13.out.trans (HB4.out.mono HB13.out.size))
  have HB04 := Lib.hid (HB03.out.trans (HB4.out.mono HB03.out.size))
  go_wp2_with fail
  refine (refUnseal_any A c l w4 (HR.out.below HB04.out) HBt.out hc hl).mono ?_
  rintro e w5 ⟨vw, rfl, hx, hbx⟩
  have HVW := Lib.hid hx
  have HB5 := Lib.hid hbx
  have hs5 := hbx.size
  clear hx hbx
  have HB15 := Lib.hid (HB14.out.trans (HB5.out.mono HB14.out.size))
  have HB05 := Lib.hid (HB04.out.trans (HB5.out.mono HB04.out.size))
  have HVX5 := Lib.hid (own_step HVX.out ((HB3.out.trans (HB4.out.mono hs3)).trans (HB5.out.mono (by omega))))
  have HVY5 := Lib.hid (own_step HVY.out (HB4.out.trans (HB5.out.mono hs4)))
  have HVZ5 := Lib.hid (own_step HVZ.out HB5.out)
  have HO5 := Lib.hid (own_step HO1.out HB15.out)
  go_upto_region 6 with (fail)
  go_cut [53] (fun b wc => b = .bool false ∧ Hid (Below w5.heap.size w5 wc))
  case first =>
    have hcx : ∀ W, Below w5.heap.size w5 W → (convert 22 9 vx).run Tryd.prog W = .ok (.string (strOfNums (sealL l))) W := fun W hW => own_str (own_step HVX5.out hW)
    have hcy : ∀ W, Below w5.heap.size w5 W → (convert 22 9 vy).run Tryd.prog W = .ok (.string (strOfNums (usL l))) W := fun W hW => own_str (own_step HVY5.out hW)
    have hcw : ∀ W, Below w5.heap.size w5 W → (convert 22 9 vw).run Tryd.prog W = .ok (.string (strOfNums (usL l))) W := fun W hW => own_str (own_step HVW.out hW)
    have hb0 := Below.refl w5.heap.size w5
    have hb00 : Below w5.heap.size w5 w5.drew := hb0.drew
    refine wp_region_held_drew (S := fun W' => (convert 22 9 vx).run Tryd.prog W' = .ok (.string (strOfNums (sealL l))) W' ∧ (convert 22 9 vy).run Tryd.prog W' = .ok (.string (strOfNums (usL l))) W' ∧ (convert 22 9 vw).run Tryd.prog W' = .ok (.string (strOfNums (usL l))) W' ∧ Below w5.heap.size w5 W') (by kernel_rfl) ⟨hcx _ hb00, hcy _ hb00, hcw _ hb00, hb00⟩ (fun hHeld => ?_)
    refine wpAnyH_take (i := 0) (oi := { dst := some 30, op := Op.move (Operand.tmp 4), type := 22, pos := "law.go:47", after := #[], guard := none }) (v := ?_) rfl (by kernel_rfl) (by kernel_rfl) (by kernel_rfl) (fun _ _ _ h => h) (Or.inl ⟨by rfl, ?_⟩) (by assumption) ?_
    rotate_left
    · (intro wS hSw; (try dsimp only at hSw); go_simp; (try (with_reducible rfl)))
    try simp only [Act.put, List.setIfInBounds_toArray, List.set_cons_zero, List.set_cons_succ]
    refine wpAnyH_take (i := 1) (oi := { dst := some 31, op := Op.convert 22 9 (Operand.tmp 30), type := 9, pos := "law.go:47", after := #[{ on := 0, ground := Ground.data }], guard := none }) (v := ?_) rfl (by kernel_rfl) (by kernel_rfl) (by kernel_rfl) (fun _ _ _ h => h) (Or.inl ⟨by rfl, ?_⟩) (by assumption) ?_
    rotate_left
    · (intro wS hSw; (try dsimp only at hSw); go_simp; (try (with_reducible rfl)))
    try simp only [Act.put, List.setIfInBounds_toArray, List.set_cons_zero, List.set_cons_succ]
    refine wpAnyH_take (i := 2) (oi := { dst := some 32, op := Op.move (Operand.tmp 0), type := 22, pos := "law.go:47", after := #[], guard := none }) (v := ?_) rfl (by kernel_rfl) (by kernel_rfl) (by kernel_rfl) (fun _ _ _ h => h) (Or.inl ⟨by rfl, ?_⟩) (by assumption) ?_
    rotate_left
    · (intro wS hSw; (try dsimp only at hSw); go_simp; (try (with_reducible rfl)))
    try simp only [Act.put, List.setIfInBounds_toArray, List.set_cons_zero, List.set_cons_succ]
    refine wpAnyH_ready (rs := [3]) (by kernel_rfl) (by simp) ?_
    refine AllReadyH.cons (o := { dst := some 33, op := Op.call { callee := Callee.value (Operand.func 22), args := #[Operand.tmp 32], argTypes := #[22] }, type := 22, pos := "law.go:47", after := #[{ on := 2, ground := Ground.data }], guard := none }) rfl (fun K hK => ?_) AllReadyH.nil
    go_simp
    refine (refSeal_any A c l _ (HR.out.below HB05.out.drew) HBt.out hl).mono ?_
    rintro e w6 ⟨vv, rfl, hz, hbz⟩
    have hcz := own_str hz
    have hbz' : Below w5.heap.size w5 w6 := ⟨hbz.os, hbz.tape, hbz.output, hbz.size, hbz.block⟩
    clear hz
    go_wp2_with fail
    refine hK.out _ _ ?_ (fun hHeld => ?_)
    · exact ⟨hcx _ hbz', hcy _ hbz', hcw _ hbz', hbz'⟩
    clear hK K
    try simp only [Act.put, List.setIfInBounds_toArray, List.set_cons_zero, List.set_cons_succ]
    refine wpAnyH_ready (rs := [4]) (by kernel_rfl) (by simp) ?_
    refine AllReadyH.cons (o := { dst := some 34, op := Op.convert 22 9 (Operand.tmp 33), type := 9, pos := "law.go:47", after := #[{ on := 3, ground := Ground.data }], guard := none }) rfl (fun K hK => ?_) AllReadyH.nil
    go_simp
    refine hK.out _ _ ?_ (fun hHeld => ?_)
    · exact ⟨hcx _ hbz', hcy _ hbz', hcw _ hbz', hbz'⟩
    clear hK K
    try simp only [Act.put, List.setIfInBounds_toArray, List.set_cons_zero, List.set_cons_succ]
    refine wpAnyH_take (i := 5) (oi := { dst := some 35, op := Op.binOp BinOp.neq 9 (Operand.tmp 31) (Operand.tmp 34) 9, type := 4, pos := "law.go:47", after := #[{ on := 1, ground := Ground.data }, { on := 4, ground := Ground.data }], guard := none }) (v := ?_) rfl (by kernel_rfl) (by kernel_rfl) (by kernel_rfl) (fun _ _ _ h => h) (Or.inl ⟨by rfl, ?_⟩) (by assumption) ?_
    rotate_left
    · (intro wS hSw; (try dsimp only at hSw); go_simp; (try (with_reducible rfl)))
    try simp only [Act.put, List.setIfInBounds_toArray, List.set_cons_zero, List.set_cons_succ]
    refine wpAnyH_take (i := 6) (oi := { dst := some 36, op := Op.move (Operand.tmp 35), type := 4, pos := "law.go:47", after := #[{ on := 5, ground := Ground.data }, { on := 3, ground := Ground.chain }], guard := none }) (v := ?_) rfl (by kernel_rfl) (by kernel_rfl) (by kernel_rfl) (fun _ _ _ h => h) (Or.inl ⟨by rfl, ?_⟩) (by assumption) ?_
    rotate_left
    · (intro wS hSw; (try dsimp only at hSw); go_simp; (try (with_reducible rfl)))
    try simp only [Act.put, List.setIfInBounds_toArray, List.set_cons_zero, List.set_cons_succ]
    refine wpAnyH_take (i := 7) (oi := { dst := some 37, op := Op.move (Operand.tmp 5), type := 22, pos := "law.go:47", after := #[{ on := 6, ground := Ground.guard }], guard := some (6, false) }) (v := ?_) rfl (by kernel_rfl) (by kernel_rfl) (by kernel_rfl) (fun _ _ _ h => h) (Or.inl ⟨by rfl, ?_⟩) (by assumption) ?_
    rotate_left
    · (intro wS hSw; (try dsimp only at hSw); go_simp; (try (with_reducible rfl)))
    try simp only [Act.put, List.setIfInBounds_toArray, List.set_cons_zero, List.set_cons_succ]
    refine wpAnyH_take (i := 8) (oi := { dst := some 38, op := Op.convert 22 9 (Operand.tmp 37), type := 9, pos := "law.go:47", after := #[{ on := 7, ground := Ground.data }, { on := 6, ground := Ground.guard }], guard := some (6, false) }) (v := ?_) rfl (by kernel_rfl) (by kernel_rfl) (by kernel_rfl) (fun _ _ _ h => h) (Or.inl ⟨by rfl, ?_⟩) (by assumption) ?_
    rotate_left
    · (intro wS hSw; (try dsimp only at hSw); go_simp; (try (with_reducible rfl)))
    try simp only [Act.put, List.setIfInBounds_toArray, List.set_cons_zero, List.set_cons_succ]
    refine wpAnyH_take (i := 9) (oi := { dst := some 39, op := Op.move (Operand.tmp 9), type := 22, pos := "law.go:47", after := #[{ on := 6, ground := Ground.guard }], guard := some (6, false) }) (v := ?_) rfl (by kernel_rfl) (by kernel_rfl) (by kernel_rfl) (fun _ _ _ h => h) (Or.inl ⟨by rfl, ?_⟩) (by assumption) ?_
    rotate_left
    · (intro wS hSw; (try dsimp only at hSw); go_simp; (try (with_reducible rfl)))
    try simp only [Act.put, List.setIfInBounds_toArray, List.set_cons_zero, List.set_cons_succ]
    refine wpAnyH_take (i := 10) (oi := { dst := some 40, op := Op.convert 22 9 (Operand.tmp 39), type := 9, pos := "law.go:47", after := #[{ on := 9, ground := Ground.data }, { on := 6, ground := Ground.guard }], guard := some (6, false) }) (v := ?_) rfl (by kernel_rfl) (by kernel_rfl) (by kernel_rfl) (fun _ _ _ h => h) (Or.inl ⟨by rfl, ?_⟩) (by assumption) ?_
    rotate_left
    · (intro wS hSw; (try dsimp only at hSw); go_simp; (try (with_reducible rfl)))
    try simp only [Act.put, List.setIfInBounds_toArray, List.set_cons_zero, List.set_cons_succ]
    refine wpAnyH_take (i := 11) (oi := { dst := some 41, op := Op.binOp BinOp.neq 9 (Operand.tmp 38) (Operand.tmp 40) 9, type := 4, pos := "law.go:47", after := #[{ on := 8, ground := Ground.data }, { on := 10, ground := Ground.data }, { on := 6, ground := Ground.guard }], guard := some (6, false) }) (v := ?_) rfl (by kernel_rfl) (by kernel_rfl) (by kernel_rfl) (fun _ _ _ h => h) (Or.inl ⟨by rfl, ?_⟩) (by assumption) ?_
    rotate_left
    · (intro wS hSw; (try dsimp only at hSw); go_simp; (try (with_reducible rfl)))
    try simp only [Act.put, List.setIfInBounds_toArray, List.set_cons_zero, List.set_cons_succ]
    refine wpAnyH_take (i := 12) (oi := { dst := some 42, op := Op.pick (Operand.tmp 36) (Operand.const (Value.bool true)) (Operand.tmp 41), type := 4, pos := "law.go:47", after := #[{ on := 6, ground := Ground.data }, { on := 11, ground := Ground.data }], guard := none }) (v := ?_) rfl (by kernel_rfl) (by kernel_rfl) (by kernel_rfl) (fun _ _ _ h => h) (Or.inl ⟨by rfl, ?_⟩) (by assumption) ?_
    rotate_left
    · (intro wS hSw; (try dsimp only at hSw); go_simp; (try (with_reducible rfl)))
    try simp only [Act.put, List.setIfInBounds_toArray, List.set_cons_zero, List.set_cons_succ]
    refine wpAnyH_take (i := 13) (oi := { dst := some 43, op := Op.move (Operand.tmp 42), type := 4, pos := "law.go:47", after := #[{ on := 12, ground := Ground.data }, { on := 6, ground := Ground.chain }], guard := none }) (v := ?_) rfl (by kernel_rfl) (by kernel_rfl) (by kernel_rfl) (fun _ _ _ h => h) (Or.inl ⟨by rfl, ?_⟩) (by assumption) ?_
    rotate_left
    · (intro wS hSw; (try dsimp only at hSw); go_simp; (try (with_reducible rfl)))
    try simp only [Act.put, List.setIfInBounds_toArray, List.set_cons_zero, List.set_cons_succ]
    refine wpAnyH_take (i := 14) (oi := { dst := some 44, op := Op.move (Operand.tmp 6), type := 34, pos := "law.go:47", after := #[{ on := 13, ground := Ground.guard }], guard := some (13, false) }) (v := ?_) rfl (by kernel_rfl) (by kernel_rfl) (by kernel_rfl) (fun _ _ _ h => h) (Or.inl ⟨by rfl, ?_⟩) (by assumption) ?_
    rotate_left
    · (intro wS hSw; (try dsimp only at hSw); go_simp; (try (with_reducible rfl)))
    try simp only [Act.put, List.setIfInBounds_toArray, List.set_cons_zero, List.set_cons_succ]
    refine wpAnyH_take (i := 15) (oi := { dst := some 45, op := Op.move (Operand.tmp 10), type := 3, pos := "law.go:47", after := #[{ on := 13, ground := Ground.guard }], guard := some (13, false) }) (v := ?_) rfl (by kernel_rfl) (by kernel_rfl) (by kernel_rfl) (fun _ _ _ h => h) (Or.inl ⟨by rfl, ?_⟩) (by assumption) ?_
    rotate_left
    · (intro wS hSw; (try dsimp only at hSw); go_simp; (try (with_reducible rfl)))
    try simp only [Act.put, List.setIfInBounds_toArray, List.set_cons_zero, List.set_cons_succ]
    refine wpAnyH_take (i := 16) (oi := { dst := some 46, op := Op.binOp BinOp.neq 3 (Operand.tmp 44) (Operand.tmp 45) 3, type := 4, pos := "law.go:47", after := #[{ on := 14, ground := Ground.data }, { on := 15, ground := Ground.data }, { on := 13, ground := Ground.guard }], guard := some (13, false) }) (v := ?_) rfl (by kernel_rfl) (by kernel_rfl) (by kernel_rfl) (fun _ _ _ h => h) (Or.inl ⟨by rfl, ?_⟩) (by assumption) ?_
    rotate_left
    · (intro wS hSw; (try dsimp only at hSw); go_simp; (try (with_reducible rfl)))
    try simp only [Act.put, List.setIfInBounds_toArray, List.set_cons_zero, List.set_cons_succ]
    refine wpAnyH_take (i := 17) (oi := { dst := some 47, op := Op.pick (Operand.tmp 43) (Operand.const (Value.bool true)) (Operand.tmp 46), type := 4, pos := "law.go:47", after := #[{ on := 13, ground := Ground.data }, { on := 16, ground := Ground.data }], guard := none }) (v := ?_) rfl (by kernel_rfl) (by kernel_rfl) (by kernel_rfl) (fun _ _ _ h => h) (Or.inl ⟨by rfl, ?_⟩) (by assumption) ?_
    rotate_left
    · (intro wS hSw; (try dsimp only at hSw); go_simp; (try (with_reducible rfl)))
    try simp only [Act.put, List.setIfInBounds_toArray, List.set_cons_zero, List.set_cons_succ]
    refine wpAnyH_take (i := 18) (oi := { dst := some 48, op := Op.move (Operand.tmp 47), type := 4, pos := "law.go:47", after := #[{ on := 17, ground := Ground.data }, { on := 13, ground := Ground.chain }], guard := none }) (v := ?_) rfl (by kernel_rfl) (by kernel_rfl) (by kernel_rfl) (fun _ _ _ h => h) (Or.inl ⟨by rfl, ?_⟩) (by assumption) ?_
    rotate_left
    · (intro wS hSw; (try dsimp only at hSw); go_simp; (try (with_reducible rfl)))
    try simp only [Act.put, List.setIfInBounds_toArray, List.set_cons_zero, List.set_cons_succ]
    refine wpAnyH_take (i := 19) (oi := { dst := some 49, op := Op.move (Operand.tmp 3), type := 22, pos := "law.go:47", after := #[{ on := 18, ground := Ground.guard }], guard := some (18, false) }) (v := ?_) rfl (by kernel_rfl) (by kernel_rfl) (by kernel_rfl) (fun _ _ _ h => h) (Or.inl ⟨by rfl, ?_⟩) (by assumption) ?_
    rotate_left
    · (intro wS hSw; (try dsimp only at hSw); go_simp; (try (with_reducible rfl)))
    try simp only [Act.put, List.setIfInBounds_toArray, List.set_cons_zero, List.set_cons_succ]
    refine wpAnyH_take (i := 20) (oi := { dst := some 50, op := Op.move (Operand.tmp 0), type := 22, pos := "law.go:47", after := #[{ on := 18, ground := Ground.guard }], guard := some (18, false) }) (v := ?_) rfl (by kernel_rfl) (by kernel_rfl) (by kernel_rfl) (fun _ _ _ h => h) (Or.inl ⟨by rfl, ?_⟩) (by assumption) ?_
    rotate_left
    · (intro wS hSw; (try dsimp only at hSw); go_simp; (try (with_reducible rfl)))
    try simp only [Act.put, List.setIfInBounds_toArray, List.set_cons_zero, List.set_cons_succ]
    refine wpAnyH_ready (rs := [21]) (by kernel_rfl) (by simp) ?_
    refine AllReadyH.cons (o := { dst := some 51, op := Op.call { callee := Callee.value (Operand.func 13), args := #[Operand.tmp 49, Operand.tmp 50], argTypes := #[22, 22] }, type := 4, pos := "law.go:47", after := #[{ on := 19, ground := Ground.data }, { on := 20, ground := Ground.data }, { on := 18, ground := Ground.chain }, { on := 18, ground := Ground.guard }], guard := some (18, false) }) rfl (fun K hK => ?_) AllReadyH.nil
    go_simp
    refine (kept_b A w.heap.size g c cap l _ (HR.out.below (HB05.out.trans (hbz'.mono HB05.out.size))) (own_step HO5.out hbz') (by omega)).mono ?_
    rintro e w7 ⟨rfl, hb7⟩
    have hbk : Below w5.heap.size w5 w7 := hbz'.trans (hb7.mono hbz'.size)
    go_wp2_with fail
    refine hK.out _ _ ?_ (fun hHeld => ?_)
    · exact ⟨hcx _ hbk, hcy _ hbk, hcw _ hbk, hbk⟩
    clear hK K
    try simp only [Act.put, List.setIfInBounds_toArray, List.set_cons_zero, List.set_cons_succ]
    refine wpAnyH_take (i := 22) (oi := { dst := some 52, op := Op.unOp UnOp.not 4 (Operand.tmp 51), type := 4, pos := "law.go:47", after := #[{ on := 21, ground := Ground.data }, { on := 18, ground := Ground.guard }], guard := some (18, false) }) (v := ?_) rfl (by kernel_rfl) (by kernel_rfl) (by kernel_rfl) (fun _ _ _ h => h) (Or.inl ⟨by rfl, ?_⟩) (by assumption) ?_
    rotate_left
    · (intro wS hSw; (try dsimp only at hSw); go_simp; (try (with_reducible rfl)))
    try simp only [Act.put, List.setIfInBounds_toArray, List.set_cons_zero, List.set_cons_succ]
    refine wpAnyH_take (i := 23) (oi := { dst := some 53, op := Op.pick (Operand.tmp 48) (Operand.const (Value.bool true)) (Operand.tmp 52), type := 4, pos := "law.go:47", after := #[{ on := 18, ground := Ground.data }, { on := 22, ground := Ground.data }], guard := none }) (v := ?_) rfl (by kernel_rfl) (by kernel_rfl) (by kernel_rfl) (fun _ _ _ h => h) (Or.inl ⟨by rfl, ?_⟩) (by assumption) ?_
    rotate_left
    · (intro wS hSw; (try dsimp only at hSw); go_simp; (try (with_reducible rfl)))
    try simp only [Act.put, List.setIfInBounds_toArray, List.set_cons_zero, List.set_cons_succ]
    refine wpAnyH_done (by kernel_rfl) ?_ _
    go_wp2_with fail
    go_meet
    case rel => exact ⟨rfl, hbk⟩
  case rest =>
    obtain ⟨rfl, HB6⟩ := hcut
    have hvx := own_step HVX5.out HB6.out
    have hs6 := HB6.out.size
    have HVYc := Lib.hid (own_step HVY5.out HB6.out)
    have HVZc := Lib.hid (own_step HVZ5.out HB6.out)
    have HVWc := Lib.hid (own_step HVW.out HB6.out)
    have HOc := Lib.hid (own_step HO5.out HB6.out)
    have HBc := Lib.hid (HB05.out.trans (HB6.out.mono HB05.out.size))
    go_wp2_with fail
    refine (spoil_any vx (sealL l) (sealL_bts HBt.out) w1.heap.size wc hvx (by rw [sealL_length]; omega)).mono ?_
    rintro e w7 ⟨rfl, hg7⟩
    have hxlo := fun k h => own_lo HVX.out (k := k) h
    have hxhi := fun k h => own_hi HVX.out (k := k) h
    have HVY7 := Lib.hid (own_far HVYc.out hg7 (fun k h1 h2 => by have := hxhi k h1; have := own_lo HVY.out h2; omega))
    have HVZ7 := Lib.hid (own_far HVZc.out hg7 (fun k h1 h2 => by have := hxhi k h1; have := own_lo HVZ.out h2; omega))
    have HVW7 := Lib.hid (own_far HVWc.out hg7 (fun k h1 h2 => by have := hxhi k h1; have := own_lo HVW.out h2; omega))
    have HO7 := Lib.hid (own_far HOc.out hg7 (fun k h1 h2 => by have := hxlo k h1; have := own_hi HO1.out h2; omega))
    have HB7 := Lib.hid (HBc.out.grown hg7 HBc.out.size (fun k h1 => by have := hxlo k h1; omega))
    clear hg7 hvx hxlo hxhi
    go_wp2_with fail
    refine (spoil_any vy (usL l) (usL_bts HBt.out) w2.heap.size w7 HVY7.out (by have := usL_length l; omega)).mono ?_
    rintro e w8 ⟨rfl, hg8⟩
    have hylo := fun k h => own_lo HVY.out (k := k) h
    have hyhi := fun k h => own_hi HVY.out (k := k) h
    have HVZ8 := Lib.hid (own_far HVZ7.out hg8 (fun k h1 h2 => by have := hyhi k h1; have := own_lo HVZ.out h2; omega))
    have HVW8 := Lib.hid (own_far HVW7.out hg8 (fun k h1 h2 => by have := hyhi k h1; have := own_lo HVW.out h2; omega))
    have HO8 := Lib.hid (own_far HO7.out hg8 (fun k h1 h2 => by have := hylo k h1; have := own_hi HO1.out h2; omega))
    have HB8 := Lib.hid (HB7.out.grown hg8 HB7.out.size (fun k h1 => by have := hylo k h1; omega))
    clear hg8 hylo hyhi
    have hcz := own_str HVZ8.out
    have hcw := own_str HVW8.out
    have hz1 : (strOfNums (usL l)).size ≤ 9223372036854775807 := by rw [strOfNums_size]; have := usL_length l; omega
    go_wp2_with (first | (go_at_call 13; refine (kept_b A w.heap.size g c cap l _ (HR.out.below HB8.out) HO8.out (by omega)).mono ?_; rintro e w9 ⟨rfl, hb9⟩; have HB9 := Lib.hid (HB8.out.trans (hb9.mono HB8.out.size)); clear hb9) | (go_at_call 14; refine (lives02 _ (HT.out.below HB9.out (Nat.le_refl _))).mono ?_; rintro e w10 ⟨rfl, hb10⟩))
    go_ret
    exact ⟨rfl, HB9.out.trans (hb10.mono HB9.out.size)⟩
end Go.Proofs.YtelphnkbaeglaaaDoor
