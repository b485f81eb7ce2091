/-
  OctetBack: the walk. No premise.
-/
import Derived.Test.YtelphnkbaeglaaaLawOctB
import Derived.Deep.RegionHeld3
import Derived.Deep.DeepCutAuto
import Derived.Deep.CutBlock
namespace Go.Proofs.Ytelphnkbaeglaaa
open Go.RowKit Go.Proofs.YtelphnkbaeglaaaW.PrintWords

theorem getU_dig (n : Nat) (big : Bool) (u : Int) (h1 : 1 ≤ n) (h2 : n ≤ 8) (hu : 0 ≤ u) (hu2 : u < 18446744073709551616) (hf : fitsB u n = true) : getU (dig n big u) 0 n big = u := by
  have hl := dig_length n big u
  rw [getU, if_pos (by omega)]
  rw [show (0 : Int).toNat = 0 from rfl, List.drop_zero, Int.toNat_natCast, List.take_of_length_le (by omega), getk_dig n big u n (Nat.le_refl _)]
  apply Int.emod_eq_of_lt hu
  by_cases h8 : n = 8
  · subst h8; simpa using hu2
  · exact fits_lt u n (by omega) hf
theorem getE_dig (n : Nat) (big : Bool) (u : Int) (h1 : 1 ≤ n) (h2 : n ≤ 8) : getE (dig n big u) 0 n = 0 := by
  have hl := dig_length n big u
  rw [getE, if_pos (by omega), if_neg (by omega)]

theorem putE_ne (u width : Int) (hg : ¬(1 ≤ width ∧ width ≤ 8 ∧ fitsB u width = true)) : putE width u ≠ 0 := by
  rw [putE]
  split
  · rename_i h
    rw [if_neg (fun h2 => hg ⟨h.1, h.2, h2⟩)]
    decide
  · decide

set_option maxHeartbeats 1600000 in
theorem octetBack_walk (width u : Int) (w : World) (_hww : (Lit.int .i64 width).wf = true) (hwu : (Lit.int .u64 u).wf = true) :
    Calls Try.prog 7 #[.int .i64 width, .int .u64 u] w fun e w' => e = .returned (.bool true) ∧ Below w.heap.size w w' := by
  obtain ⟨hu, hu2⟩ := wf_u64 hwu
  clear hwu _hww
  by_cases hg : 1 ≤ width ∧ width ≤ 8 ∧ fitsB u width = true
  · obtain ⟨n, rfl⟩ := Int.eq_ofNat_of_zero_le (show 0 ≤ width by omega)
    have h1 : 1 ≤ n := by omega
    have h2 : n ≤ 8 := by omega
    have HF := Lib.hid hg.2.2
    have HPE := Lib.hid (show putE n u = 0 by rw [putE, if_pos ⟨hg.1, hg.2.1⟩, if_pos hg.2.2])
    have HPL := Lib.hid (show ∀ big, putL [] n big u = dig n big u from fun big => by rw [putL, if_pos hg]; rfl)
    clear hg
    obtain ⟨X, hX⟩ : ∃ X, dig n true u = X := ⟨_, rfl⟩
    obtain ⟨Y, hY⟩ : ∃ Y, dig n false u = Y := ⟨_, rfl⟩
    have hXn : X.length = n := by rw [← hX, dig_length]
    have hYn : Y.length = n := by rw [← hY, dig_length]
    have hXb : Bts X := by rw [← hX]; exact dig_bts _ _ _
    have hYb : Bts Y := by rw [← hY]; exact dig_bts _ _ _
    have hXU : getU X 0 n true = u := by rw [← hX]; exact getU_dig n true u h1 h2 hu hu2 HF.out
    have hYU : getU Y 0 n false = u := by rw [← hY]; exact getU_dig n false u h1 h2 hu hu2 HF.out
    have hXE : getE X 0 n = 0 := by rw [← hX]; exact getE_dig n true u h1 h2
    have hYE : getE Y 0 n = 0 := by rw [← hY]; exact getE_dig n false u h1 h2
    have hrev : X.reverse = Y := by rw [← hX, ← hY, dig_big, List.reverse_reverse]
    have hpx := HPL.out true
    have hpy := HPL.out false
    rw [hX] at hpx
    rw [hY] at hpy
    have hlenb : ((X.length : Int) == (n : Int)) = true := by rw [hXn]; simp
    have hXl : X.length ≤ 8 := by omega
    have hYl : Y.length ≤ 8 := by omega
    have HXB := Lib.hid hXb
    have HYB := Lib.hid hYb
    have HXU := Lib.hid hXU
    have HYU := Lib.hid hYU
    have HXE := Lib.hid hXE
    have HYE := Lib.hid hYE
    have HREV := Lib.hid hrev
    have HPX := Lib.hid hpx
    have HPY := Lib.hid hpy
    clear hX hY hXn hYn hXb hYb hXU hYU hXE hYE hrev hpx hpy HPL
    go_enter Try.func7, Try.ntmps7
    go_wp2_with fail
    refine (put_any none 0 [] n true u _ (rd_nil _) (by simp)).mono ?_
    rintro e w1 ⟨vx, rfl, hx, hb1⟩
    rw [HPX.out] at hx
    rw [HPE.out]
    obtain ⟨Ax, cx, rfl, hrx⟩ := own_reads hx
    have hcx := own_le hx
    have HX := Lib.hid hx
    have HRX := Lib.hid (show Rd w1 Ax X from hrx)
    have HB1 := Lib.hid hb1
    have hs1 := hb1.size
    clear hx hb1 hrx
    go_wp2_with fail
    refine (put_any none 0 [] n false u _ (rd_nil _) (by simp)).mono ?_
    rintro e w2 ⟨vy, rfl, hy, hb2⟩
    rw [HPY.out] at hy
    rw [HPE.out]
    obtain ⟨Ay, cy, rfl, hry⟩ := own_reads hy
    have hcy := own_le hy
    have HY := Lib.hid hy
    have HRY := Lib.hid (show Rd w2 Ay Y from hry)
    have HB2 := Lib.hid hb2
    have hs2 := hb2.size
    clear hy hb2 hry
    go_wp2_with fail
    refine (get_any Ax cx X 0 n true w2 (HRX.out.below HB2.out) HXB.out hcx (by omega) (by decide) (by decide)).mono ?_
    rintro e w3 ⟨rfl, hb3⟩
    rw [HXU.out, HXE.out]
    have HB3 := Lib.hid hb3
    have hs3 := hb3.size
    clear hb3
    go_wp2_with fail
    refine (get_any Ay cy Y 0 n false w3 (HRY.out.below HB3.out) HYB.out hcy (by omega) (by decide) (by decide)).mono ?_
    rintro e w4 ⟨rfl, hb4⟩
    rw [HYU.out, HYE.out]
    have HB4 := Lib.hid (HB1.out.trans ((HB2.out.trans ((HB3.out.trans (hb4.mono hs3)).mono hs2)).mono hs1))
    have HRX4 := Lib.hid ((HRX.out.below HB2.out).below (HB3.out.trans (hb4.mono hs3)))
    have HY4 := Lib.hid (own_step HY.out (HB3.out.trans (hb4.mono hs3)))
    clear hb4
    have hcy : ∀ W, Below w4.heap.size w4 W → (convert 22 9 (.slice Ay Y.length cy)).run Try.prog W = .ok (.string (strOfNums Y)) W := fun W hW => own_str (own_step HY4.out hW)
    have hb0 := Below.refl w4.heap.size w4
    have hb00 : Below w4.heap.size w4 w4.drew := hb0.drew
    go_wp2_with fail
    refine wp_region_held_drew (S := fun W' => (convert 22 9 (.slice Ay Y.length cy)).run Try.prog W' = .ok (.string (strOfNums Y)) W' ∧ Below w4.heap.size w4 W') (by kernel_rfl) ⟨hcy _ hb00, hb00⟩ (fun hHeld => ?_)
    refine wpAnyH_take (i := 0) (oi := { dst := some 53, op := Op.move (Operand.tmp 9), type := 23, pos := "outright.go:20", after := #[], guard := none }) (v := ?_) rfl (by kernel_rfl) (by kernel_rfl) (by kernel_rfl) (fun _ _ _ h => h) (Or.inl ⟨by rfl, ?_⟩) (by assumption) ?_
    rotate_left
    · (intro wS hSw; (try dsimp only at hSw); go_simp; (try (with_reducible rfl)))
    try simp only [Act.put, List.setIfInBounds_toArray, List.set_cons_zero, List.set_cons_succ]
    refine wpAnyH_take (i := 1) (oi := { dst := some 54, op := Op.move (Operand.tmp 1), type := 23, pos := "outright.go:20", after := #[], guard := none }) (v := ?_) rfl (by kernel_rfl) (by kernel_rfl) (by kernel_rfl) (fun _ _ _ h => h) (Or.inl ⟨by rfl, ?_⟩) (by assumption) ?_
    rotate_left
    · (intro wS hSw; (try dsimp only at hSw); go_simp; (try (with_reducible rfl)))
    try simp only [Act.put, List.setIfInBounds_toArray, List.set_cons_zero, List.set_cons_succ]
    refine wpAnyH_take (i := 2) (oi := { dst := some 55, op := Op.binOp BinOp.eql 23 (Operand.tmp 53) (Operand.tmp 54) 23, type := 4, pos := "outright.go:20", after := #[{ on := 0, ground := Ground.data }, { on := 1, ground := Ground.data }], guard := none }) (v := ?_) rfl (by kernel_rfl) (by kernel_rfl) (by kernel_rfl) (fun _ _ _ h => h) (Or.inl ⟨by rfl, ?_⟩) (by assumption) ?_
    rotate_left
    · (intro wS hSw; (try dsimp only at hSw); go_simp; (try (with_reducible rfl)))
    try simp only [Act.put, List.setIfInBounds_toArray, List.set_cons_zero, List.set_cons_succ]
    refine wpAnyH_take (i := 3) (oi := { dst := some 56, op := Op.move (Operand.tmp 55), type := 4, pos := "outright.go:20", after := #[{ on := 2, ground := Ground.data }], guard := none }) (v := ?_) rfl (by kernel_rfl) (by kernel_rfl) (by kernel_rfl) (fun _ _ _ h => h) (Or.inl ⟨by rfl, ?_⟩) (by assumption) ?_
    rotate_left
    · (intro wS hSw; (try dsimp only at hSw); go_simp; (try (with_reducible rfl)))
    try simp only [Act.put, List.setIfInBounds_toArray, List.set_cons_zero, List.set_cons_succ]
    refine wpAnyH_take (i := 4) (oi := { dst := some 57, op := Op.move (Operand.tmp 11), type := 23, pos := "outright.go:20", after := #[{ on := 3, ground := Ground.guard }], guard := some (3, true) }) (v := ?_) rfl (by kernel_rfl) (by kernel_rfl) (by kernel_rfl) (fun _ _ _ h => h) (Or.inl ⟨by rfl, ?_⟩) (by assumption) ?_
    rotate_left
    · (intro wS hSw; (try dsimp only at hSw); go_simp; (try (with_reducible rfl)))
    try simp only [Act.put, List.setIfInBounds_toArray, List.set_cons_zero, List.set_cons_succ]
    refine wpAnyH_take (i := 5) (oi := { dst := some 58, op := Op.move (Operand.tmp 1), type := 23, pos := "outright.go:20", after := #[{ on := 3, ground := Ground.guard }], guard := some (3, true) }) (v := ?_) rfl (by kernel_rfl) (by kernel_rfl) (by kernel_rfl) (fun _ _ _ h => h) (Or.inl ⟨by rfl, ?_⟩) (by assumption) ?_
    rotate_left
    · (intro wS hSw; (try dsimp only at hSw); go_simp; (try (with_reducible rfl)))
    try simp only [Act.put, List.setIfInBounds_toArray, List.set_cons_zero, List.set_cons_succ]
    refine wpAnyH_take (i := 6) (oi := { dst := some 59, op := Op.binOp BinOp.eql 23 (Operand.tmp 57) (Operand.tmp 58) 23, type := 4, pos := "outright.go:20", after := #[{ on := 4, ground := Ground.data }, { on := 5, ground := Ground.data }, { on := 3, ground := Ground.guard }], guard := some (3, true) }) (v := ?_) rfl (by kernel_rfl) (by kernel_rfl) (by kernel_rfl) (fun _ _ _ h => h) (Or.inl ⟨by rfl, ?_⟩) (by assumption) ?_
    rotate_left
    · (intro wS hSw; (try dsimp only at hSw); go_simp; (try (with_reducible rfl)))
    try simp only [Act.put, List.setIfInBounds_toArray, List.set_cons_zero, List.set_cons_succ]
    refine wpAnyH_take (i := 7) (oi := { dst := some 60, op := Op.pick (Operand.tmp 56) (Operand.tmp 59) (Operand.const (Value.bool false)), type := 4, pos := "outright.go:20", after := #[{ on := 3, ground := Ground.data }, { on := 6, ground := Ground.data }], guard := none }) (v := ?_) rfl (by kernel_rfl) (by kernel_rfl) (by kernel_rfl) (fun _ _ _ h => h) (Or.inl ⟨by rfl, ?_⟩) (by assumption) ?_
    rotate_left
    · (intro wS hSw; (try dsimp only at hSw); go_simp; (try (with_reducible rfl)))
    try simp only [Act.put, List.setIfInBounds_toArray, List.set_cons_zero, List.set_cons_succ]
    refine wpAnyH_take (i := 8) (oi := { dst := some 61, op := Op.move (Operand.tmp 60), type := 4, pos := "outright.go:20", after := #[{ on := 7, ground := Ground.data }, { on := 3, ground := Ground.chain }], guard := none }) (v := ?_) rfl (by kernel_rfl) (by kernel_rfl) (by kernel_rfl) (fun _ _ _ h => h) (Or.inl ⟨by rfl, ?_⟩) (by assumption) ?_
    rotate_left
    · (intro wS hSw; (try dsimp only at hSw); go_simp; (try (with_reducible rfl)))
    try simp only [Act.put, List.setIfInBounds_toArray, List.set_cons_zero, List.set_cons_succ]
    refine wpAnyH_take (i := 9) (oi := { dst := some 62, op := Op.move (Operand.tmp 10), type := 25, pos := "outright.go:20", after := #[{ on := 8, ground := Ground.guard }], guard := some (8, true) }) (v := ?_) rfl (by kernel_rfl) (by kernel_rfl) (by kernel_rfl) (fun _ _ _ h => h) (Or.inl ⟨by rfl, ?_⟩) (by assumption) ?_
    rotate_left
    · (intro wS hSw; (try dsimp only at hSw); go_simp; (try (with_reducible rfl)))
    try simp only [Act.put, List.setIfInBounds_toArray, List.set_cons_zero, List.set_cons_succ]
    refine wpAnyH_take (i := 10) (oi := { dst := some 63, op := Op.binOp BinOp.eql 25 (Operand.tmp 62) (Operand.const (Value.int IntKind.i64 0)) 25, type := 4, pos := "outright.go:20", after := #[{ on := 9, ground := Ground.data }, { on := 8, ground := Ground.guard }], guard := some (8, true) }) (v := ?_) rfl (by kernel_rfl) (by kernel_rfl) (by kernel_rfl) (fun _ _ _ h => h) (Or.inl ⟨by rfl, ?_⟩) (by assumption) ?_
    rotate_left
    · (intro wS hSw; (try dsimp only at hSw); go_simp; (try (with_reducible rfl)))
    try simp only [Act.put, List.setIfInBounds_toArray, List.set_cons_zero, List.set_cons_succ]
    refine wpAnyH_take (i := 11) (oi := { dst := some 64, op := Op.pick (Operand.tmp 61) (Operand.tmp 63) (Operand.const (Value.bool false)), type := 4, pos := "outright.go:20", after := #[{ on := 8, ground := Ground.data }, { on := 10, ground := Ground.data }], guard := none }) (v := ?_) rfl (by kernel_rfl) (by kernel_rfl) (by kernel_rfl) (fun _ _ _ h => h) (Or.inl ⟨by rfl, ?_⟩) (by assumption) ?_
    rotate_left
    · (intro wS hSw; (try dsimp only at hSw); go_simp; (try (with_reducible rfl)))
    try simp only [Act.put, List.setIfInBounds_toArray, List.set_cons_zero, List.set_cons_succ]
    refine wpAnyH_take (i := 12) (oi := { dst := some 65, op := Op.move (Operand.tmp 64), type := 4, pos := "outright.go:20", after := #[{ on := 11, ground := Ground.data }, { on := 8, ground := Ground.chain }], guard := none }) (v := ?_) rfl (by kernel_rfl) (by kernel_rfl) (by kernel_rfl) (fun _ _ _ h => h) (Or.inl ⟨by rfl, ?_⟩) (by assumption) ?_
    rotate_left
    · (intro wS hSw; (try dsimp only at hSw); go_simp; (try (with_reducible rfl)))
    try simp only [Act.put, List.setIfInBounds_toArray, List.set_cons_zero, List.set_cons_succ]
    refine wpAnyH_take (i := 13) (oi := { dst := some 66, op := Op.move (Operand.tmp 12), type := 25, pos := "outright.go:20", after := #[{ on := 12, ground := Ground.guard }], guard := some (12, true) }) (v := ?_) rfl (by kernel_rfl) (by kernel_rfl) (by kernel_rfl) (fun _ _ _ h => h) (Or.inl ⟨by rfl, ?_⟩) (by assumption) ?_
    rotate_left
    · (intro wS hSw; (try dsimp only at hSw); go_simp; (try (with_reducible rfl)))
    try simp only [Act.put, List.setIfInBounds_toArray, List.set_cons_zero, List.set_cons_succ]
    refine wpAnyH_take (i := 14) (oi := { dst := some 67, op := Op.binOp BinOp.eql 25 (Operand.tmp 66) (Operand.const (Value.int IntKind.i64 0)) 25, type := 4, pos := "outright.go:20", after := #[{ on := 13, ground := Ground.data }, { on := 12, ground := Ground.guard }], guard := some (12, true) }) (v := ?_) rfl (by kernel_rfl) (by kernel_rfl) (by kernel_rfl) (fun _ _ _ h => h) (Or.inl ⟨by rfl, ?_⟩) (by assumption) ?_
    rotate_left
    · (intro wS hSw; (try dsimp only at hSw); go_simp; (try (with_reducible rfl)))
    try simp only [Act.put, List.setIfInBounds_toArray, List.set_cons_zero, List.set_cons_succ]
    refine wpAnyH_take (i := 15) (oi := { dst := some 68, op := Op.pick (Operand.tmp 65) (Operand.tmp 67) (Operand.const (Value.bool false)), type := 4, pos := "outright.go:20", after := #[{ on := 12, ground := Ground.data }, { on := 14, ground := Ground.data }], guard := none }) (v := ?_) rfl (by kernel_rfl) (by kernel_rfl) (by kernel_rfl) (fun _ _ _ h => h) (Or.inl ⟨by rfl, ?_⟩) (by assumption) ?_
    rotate_left
    · (intro wS hSw; (try dsimp only at hSw); go_simp; (try (with_reducible rfl)))
    try simp only [Act.put, List.setIfInBounds_toArray, List.set_cons_zero, List.set_cons_succ]
    refine wpAnyH_take (i := 16) (oi := { dst := some 69, op := Op.move (Operand.tmp 68), type := 4, pos := "outright.go:20", after := #[{ on := 15, ground := Ground.data }, { on := 12, ground := Ground.chain }], guard := none }) (v := ?_) rfl (by kernel_rfl) (by kernel_rfl) (by kernel_rfl) (fun _ _ _ h => h) (Or.inl ⟨by rfl, ?_⟩) (by assumption) ?_
    rotate_left
    · (intro wS hSw; (try dsimp only at hSw); go_simp; (try (with_reducible rfl)))
    try simp only [Act.put, List.setIfInBounds_toArray, List.set_cons_zero, List.set_cons_succ]
    refine wpAnyH_take (i := 17) (oi := { dst := some 70, op := Op.move (Operand.tmp 5), type := 22, pos := "outright.go:20", after := #[{ on := 16, ground := Ground.guard }], guard := some (16, true) }) (v := ?_) rfl (by kernel_rfl) (by kernel_rfl) (by kernel_rfl) (fun _ _ _ h => h) (Or.inl ⟨by rfl, ?_⟩) (by assumption) ?_
    rotate_left
    · (intro wS hSw; (try dsimp only at hSw); go_simp; (try (with_reducible rfl)))
    try simp only [Act.put, List.setIfInBounds_toArray, List.set_cons_zero, List.set_cons_succ]
    refine wpAnyH_take (i := 18) (oi := { dst := some 71, op := Op.call { callee := Callee.builtin Builtin.len, args := #[Operand.tmp 70], argTypes := #[22] }, type := 3, pos := "outright.go:20", after := #[{ on := 17, ground := Ground.data }, { on := 16, ground := Ground.guard }], guard := some (16, true) }) (v := ?_) rfl (by kernel_rfl) (by kernel_rfl) (by kernel_rfl) (fun _ _ _ h => h) (Or.inl ⟨by rfl, ?_⟩) (by assumption) ?_
    rotate_left
    · (intro wS hSw; (try dsimp only at hSw); go_simp; (try (with_reducible rfl)))
    try simp only [Act.put, List.setIfInBounds_toArray, List.set_cons_zero, List.set_cons_succ]
    refine wpAnyH_take (i := 19) (oi := { dst := some 72, op := Op.move (Operand.tmp 0), type := 3, pos := "outright.go:20", after := #[{ on := 16, ground := Ground.guard }], guard := some (16, true) }) (v := ?_) rfl (by kernel_rfl) (by kernel_rfl) (by kernel_rfl) (fun _ _ _ h => h) (Or.inl ⟨by rfl, ?_⟩) (by assumption) ?_
    rotate_left
    · (intro wS hSw; (try dsimp only at hSw); go_simp; (try (with_reducible rfl)))
    try simp only [Act.put, List.setIfInBounds_toArray, List.set_cons_zero, List.set_cons_succ]
    refine wpAnyH_take (i := 20) (oi := { dst := some 73, op := Op.binOp BinOp.eql 3 (Operand.tmp 71) (Operand.tmp 72) 3, type := 4, pos := "outright.go:20", after := #[{ on := 18, ground := Ground.data }, { on := 19, ground := Ground.data }, { on := 16, ground := Ground.guard }], guard := some (16, true) }) (v := ?_) rfl (by kernel_rfl) (by kernel_rfl) (by kernel_rfl) (fun _ _ _ h => h) (Or.inl ⟨by rfl, ?_⟩) (by assumption) ?_
    rotate_left
    · (intro wS hSw; (try dsimp only at hSw); go_simp; (try (with_reducible rfl)))
    try simp only [Act.put, List.setIfInBounds_toArray, List.set_cons_zero, List.set_cons_succ]
    refine wpAnyH_take (i := 21) (oi := { dst := some 74, op := Op.pick (Operand.tmp 69) (Operand.tmp 73) (Operand.const (Value.bool false)), type := 4, pos := "outright.go:20", after := #[{ on := 16, ground := Ground.data }, { on := 20, ground := Ground.data }], guard := none }) (v := ?_) rfl (by kernel_rfl) (by kernel_rfl) (by kernel_rfl) (fun _ _ _ h => h) (Or.inl ⟨by rfl, ?_⟩) (by assumption) ?_
    rotate_left
    · (intro wS hSw; (try dsimp only at hSw); go_simp; (try (with_reducible rfl)))
    try simp only [Act.put, List.setIfInBounds_toArray, List.set_cons_zero, List.set_cons_succ]
    refine wpAnyH_take (i := 22) (oi := { dst := some 75, op := Op.move (Operand.tmp 74), type := 4, pos := "outright.go:20", after := #[{ on := 21, ground := Ground.data }, { on := 16, ground := Ground.chain }], guard := none }) (v := ?_) rfl (by kernel_rfl) (by kernel_rfl) (by kernel_rfl) (fun _ _ _ h => h) (Or.inl ⟨by rfl, ?_⟩) (by assumption) ?_
    rotate_left
    · (intro wS hSw; (try dsimp only at hSw); go_simp; (try (with_reducible rfl)))
    try simp only [Act.put, List.setIfInBounds_toArray, List.set_cons_zero, List.set_cons_succ]
    refine wpAnyH_take (i := 23) (oi := { dst := some 76, op := Op.move (Operand.tmp 5), type := 22, pos := "outright.go:20", after := #[{ on := 22, ground := Ground.guard }], guard := some (22, true) }) (v := ?_) rfl (by kernel_rfl) (by kernel_rfl) (by kernel_rfl) (fun _ _ _ h => h) (Or.inl ⟨by rfl, ?_⟩) (by assumption) ?_
    rotate_left
    · (intro wS hSw; (try dsimp only at hSw); go_simp; (try (with_reducible rfl)))
    try simp only [Act.put, List.setIfInBounds_toArray, List.set_cons_zero, List.set_cons_succ]
    refine wpAnyH_take (i := 26) (oi := { dst := some 79, op := Op.move (Operand.tmp 7), type := 22, pos := "outright.go:20", after := #[{ on := 22, ground := Ground.guard }], guard := some (22, true) }) (v := ?_) rfl (by kernel_rfl) (by kernel_rfl) (by kernel_rfl) (fun _ _ _ h => h) (Or.inl ⟨by rfl, ?_⟩) (by assumption) ?_
    rotate_left
    · (intro wS hSw; (try dsimp only at hSw); go_simp; (try (with_reducible rfl)))
    try simp only [Act.put, List.setIfInBounds_toArray, List.set_cons_zero, List.set_cons_succ]
    refine wpAnyH_take (i := 27) (oi := { dst := some 80, op := Op.convert 22 9 (Operand.tmp 79), type := 9, pos := "outright.go:20", after := #[{ on := 26, ground := Ground.data }, { on := 22, ground := Ground.guard }], guard := some (22, true) }) (v := ?_) rfl (by kernel_rfl) (by kernel_rfl) (by kernel_rfl) (fun _ _ _ h => h) (Or.inl ⟨by rfl, ?_⟩) (by assumption) ?_
    rotate_left
    · (intro wS hSw; (try dsimp only at hSw); go_simp; (try (with_reducible rfl)))
    try simp only [Act.put, List.setIfInBounds_toArray, List.set_cons_zero, List.set_cons_succ]
    refine wpAnyH_ready (rs := [24]) (by kernel_rfl) (by simp) ?_
    refine AllReadyH.cons (o := { dst := some 77, op := Op.call { callee := Callee.value (Operand.func 20), args := #[Operand.tmp 76], argTypes := #[22] }, type := 22, pos := "outright.go:20", after := #[{ on := 23, ground := Ground.data }, { on := 22, ground := Ground.chain }, { on := 22, ground := Ground.guard }], guard := some (22, true) }) rfl (fun K hK => ?_) AllReadyH.nil
    go_simp
    refine (swap_any Ax cx X _ (HRX4.out.below hb00) (by omega)).mono ?_
    rintro e w6 ⟨vz, rfl, hz, hbz⟩
    rw [HREV.out] at hz
    have hcz := own_str hz
    have hbz' : Below w4.heap.size w4 w6 := ⟨hbz.os, hbz.tape, hbz.output, hbz.size, hbz.block⟩
    clear hz
    go_wp2_with fail
    refine hK.out _ _ ?_ (fun hHeld => ?_)
    · exact ⟨hcy _ hbz', hbz'⟩
    clear hK K
    try simp only [Act.put, List.setIfInBounds_toArray, List.set_cons_zero, List.set_cons_succ]
    refine wpAnyH_ready (rs := [25]) (by kernel_rfl) (by simp) ?_
    refine AllReadyH.cons (o := { dst := some 78, op := Op.convert 22 9 (Operand.tmp 77), type := 9, pos := "outright.go:20", after := #[{ on := 24, ground := Ground.data }, { on := 22, ground := Ground.guard }], guard := some (22, true) }) rfl (fun K hK => ?_) AllReadyH.nil
    go_simp
    refine hK.out _ _ ?_ (fun hHeld => ?_)
    · exact ⟨hcy _ hbz', hbz'⟩
    clear hK K
    try simp only [Act.put, List.setIfInBounds_toArray, List.set_cons_zero, List.set_cons_succ]
    refine wpAnyH_take (i := 28) (oi := { dst := some 81, op := Op.binOp BinOp.eql 9 (Operand.tmp 78) (Operand.tmp 80) 9, type := 4, pos := "outright.go:20", after := #[{ on := 25, ground := Ground.data }, { on := 27, ground := Ground.data }, { on := 22, ground := Ground.guard }], guard := some (22, true) }) (v := ?_) rfl (by kernel_rfl) (by kernel_rfl) (by kernel_rfl) (fun _ _ _ h => h) (Or.inl ⟨by rfl, ?_⟩) (by assumption) ?_
    rotate_left
    · (intro wS hSw; (try dsimp only at hSw); go_simp; (try (with_reducible rfl)))
    try simp only [Act.put, List.setIfInBounds_toArray, List.set_cons_zero, List.set_cons_succ]
    refine wpAnyH_take (i := 29) (oi := { dst := some 82, op := Op.pick (Operand.tmp 75) (Operand.tmp 81) (Operand.const (Value.bool false)), type := 4, pos := "outright.go:20", after := #[{ on := 22, ground := Ground.data }, { on := 28, ground := Ground.data }], guard := none }) (v := ?_) rfl (by kernel_rfl) (by kernel_rfl) (by kernel_rfl) (fun _ _ _ h => h) (Or.inl ⟨by rfl, ?_⟩) (by assumption) ?_
    rotate_left
    · (intro wS hSw; (try dsimp only at hSw); go_simp; (try (with_reducible rfl)))
    try simp only [Act.put, List.setIfInBounds_toArray, List.set_cons_zero, List.set_cons_succ]
    refine wpAnyH_take (i := 30) (oi := { dst := some 83, op := Op.move (Operand.tmp 82), type := 4, pos := "outright.go:20", after := #[{ on := 29, ground := Ground.data }, { on := 24, ground := Ground.chain }], guard := none }) (v := ?_) rfl (by kernel_rfl) (by kernel_rfl) (by kernel_rfl) (fun _ _ _ h => h) (Or.inl ⟨by rfl, ?_⟩) (by assumption) ?_
    rotate_left
    · (intro wS hSw; (try dsimp only at hSw); go_simp; (try (with_reducible rfl)))
    try simp only [Act.put, List.setIfInBounds_toArray, List.set_cons_zero, List.set_cons_succ]
    refine wpAnyH_ready (rs := [31]) (by kernel_rfl) (by simp) ?_
    refine AllReadyH.cons (o := { dst := some 84, op := Op.call { callee := Callee.value (Operand.func 15), args := #[], argTypes := #[] }, type := 4, pos := "outright.go:20", after := #[{ on := 30, ground := Ground.chain }, { on := 30, ground := Ground.guard }], guard := some (30, true) }) rfl (fun K hK => ?_) AllReadyH.nil
    go_simp
    refine (lives01 _).mono ?_
    rintro e w8 ⟨rfl, hb8⟩
    have hbl : Below w4.heap.size w4 w8 := hbz'.trans (hb8.mono hbz'.size)
    go_wp2_with fail
    refine hK.out _ _ ?_ (fun hHeld => ?_)
    · exact ⟨hcy _ hbl, hbl⟩
    clear hK K
    try simp only [Act.put, List.setIfInBounds_toArray, List.set_cons_zero, List.set_cons_succ]
    refine wpAnyH_take (i := 32) (oi := { dst := some 85, op := Op.pick (Operand.tmp 83) (Operand.tmp 84) (Operand.const (Value.bool false)), type := 4, pos := "outright.go:20", after := #[{ on := 30, ground := Ground.data }, { on := 31, ground := Ground.data }], guard := none }) (v := ?_) rfl (by kernel_rfl) (by kernel_rfl) (by kernel_rfl) (fun _ _ _ h => h) (Or.inl ⟨by rfl, ?_⟩) (by assumption) ?_
    rotate_left
    · (intro wS hSw; (try dsimp only at hSw); go_simp; (try (with_reducible rfl)))
    try simp only [Act.put, List.setIfInBounds_toArray, List.set_cons_zero, List.set_cons_succ]
    refine wpAnyH_take (i := 33) (oi := { dst := some 4, op := Op.assign (Operand.tmp 85), type := 4, pos := "outright.go:20", after := #[{ on := 32, ground := Ground.data }, { on := 31, ground := Ground.chain }, { on := 0, ground := Ground.phase }, { on := 1, ground := Ground.phase }, { on := 2, ground := Ground.phase }, { on := 3, ground := Ground.phase }, { on := 4, ground := Ground.phase }, { on := 5, ground := Ground.phase }, { on := 6, ground := Ground.phase }, { on := 7, ground := Ground.phase }, { on := 8, ground := Ground.phase }, { on := 9, ground := Ground.phase }, { on := 10, ground := Ground.phase }, { on := 11, ground := Ground.phase }, { on := 12, ground := Ground.phase }, { on := 13, ground := Ground.phase }, { on := 14, ground := Ground.phase }, { on := 15, ground := Ground.phase }, { on := 16, ground := Ground.phase }, { on := 17, ground := Ground.phase }, { on := 18, ground := Ground.phase }, { on := 19, ground := Ground.phase }, { on := 20, ground := Ground.phase }, { on := 21, ground := Ground.phase }, { on := 22, ground := Ground.phase }, { on := 23, ground := Ground.phase }, { on := 24, ground := Ground.phase }, { on := 25, ground := Ground.phase }, { on := 26, ground := Ground.phase }, { on := 27, ground := Ground.phase }, { on := 28, ground := Ground.phase }, { on := 29, ground := Ground.phase }, { on := 30, ground := Ground.phase }, { on := 31, ground := Ground.phase }, { on := 32, ground := Ground.phase }], guard := none }) (v := ?_) rfl (by kernel_rfl) (by kernel_rfl) (by kernel_rfl) (fun _ _ _ h => h) (Or.inl ⟨by rfl, ?_⟩) (by assumption) ?_
    rotate_left
    · (intro wS hSw; (try dsimp only at hSw); go_simp; (try (with_reducible rfl)))
    try simp only [Act.put, List.setIfInBounds_toArray, List.set_cons_zero, List.set_cons_succ]
    refine wpAnyH_done (by kernel_rfl) ?_ _
    go_wp2_with fail
    go_ret
    exact ⟨rfl, HB4.out.trans (hbl.mono HB4.out.size)⟩
  · have HPE := Lib.hid (putE_ne u width hg)
    have hpe : (putE width u != 0) = true := by simpa using HPE.out
    have HPL := Lib.hid (show ∀ big, putL [] width big u = [] from fun big => by rw [putL, if_neg hg])
    clear hg
    go_enter Try.func7, Try.ntmps7
    go_wp2_with fail
    refine (put_any none 0 [] width true u _ (rd_nil _) (by simp)).mono ?_
    rintro e w1 ⟨vx, rfl, hx, hb1⟩
    rw [HPL.out] at hx
    obtain ⟨Ax, cx, rfl, hrx⟩ := own_reads hx
    have HB1 := Lib.hid hb1
    clear hx hb1 hrx
    go_wp2_with fail
    refine (put_any none 0 [] width false u _ (rd_nil _) (by simp)).mono ?_
    rintro e w2 ⟨vy, rfl, hy, hb2⟩
    rw [HPL.out] at hy
    obtain ⟨Ay, cy, rfl, hry⟩ := own_reads hy
    have HB2 := Lib.hid (HB1.out.trans (hb2.mono HB1.out.size))
    clear hy hb2 hry
    go_wp2_with (go_at_call 15; refine (lives01 _).mono ?_; rintro e w3 ⟨rfl, hb3⟩)
    go_ret
    exact ⟨rfl, HB2.out.trans (hb3.mono HB2.out.size)⟩
end Go.Proofs.Ytelphnkbaeglaaa
