/-
  StoreCuts: the walk. No premise.
-/
import Derived.Test.YtnmcmenjhmhfjaaLawStA
import Derived.Test.YtnmcmenjhmhfjaaSR5
namespace Go.Proofs.Ytnmcmenjhmhfjaa
open Go.RowKit Go.Shelf Go.Proofs.YtnmcmenjhmhfjaaW.PrintWords

/-- What holds under a condition on the worlds holds under a weaker one. -/
theorem wpAnyH_mono {P : Program} {ops : Array Oper} {Q : Exit → Act → World → Prop} {md : Region.Mode} {S S2 : World → Prop} (hS : ∀ w, S2 w → S w) : ∀ (fuel : Nat) (listed : Array Bool) (a : Act) (w : World), wpAnyH P md ops Q S2 fuel listed a w → wpAnyH P md ops Q S fuel listed a w
  | 0, _, _, _, h => h
  | fuel + 1, _, _, _, h => ⟨h.1, fun i hi => wpOp_mono (fun a' w' h' => ⟨hS _ h'.1, wpAnyH_mono hS fuel _ a' w' h'.2⟩) (h.2 i hi)⟩

/-- A write for which there is room, and whose pieces are no more than are planned ahead of a cut, or no cut is planned. -/
theorem write_room {F : FM} (hoff : F.off = false) {a : Nat} {x : List Int} (ha : a ≤ F.b.length) (hm : (a : Int) + x.length ≤ F.most) (hl : F.left < 0 ∨ (chN x.length 16 : Int) ≤ F.left) :
    wE F a x = 0 ∧ (wF F a x).b = layL F.b a x ∧ (wF F a x).off = false := by
  have hN : x.take (chN x.length 16 * 16) = x := by
    refine List.take_of_length_le ?_
    unfold chN
    omega
  have h1 : wF F a x = FN F a x (chN x.length 16) := by
    unfold wF
    rw [if_neg (by rw [hoff]; decide), if_neg (by omega), if_neg (by omega)]
    unfold wrF
    rw [if_neg (by omega), Int.toNat_natCast]
  have h2 : wE F a x = 0 := by
    unfold wE
    rw [if_neg (by rw [hoff]; decide), if_neg (by omega), if_neg (by omega)]
    unfold wrE
    rw [if_neg (by omega)]
  rw [h1]
  refine ⟨h2, ?_, hoff⟩
  show layL F.b a (x.take _) = _
  rw [hN]
/-- A write that is cut. -/
theorem write_cut {F : FM} (hoff : F.off = false) {a n : Nat} {x : List Int} (ha : a ≤ F.b.length) (hm : (a : Int) + x.length ≤ F.most) (hl : F.left = n) (hn : n < chN x.length 16) :
    wE F a x = 6 ∧ (wF F a x).b = layL F.b a (x.take (n * 16)) ∧ (wF F a x).off = true ∧ (wF F a x).left = -1 ∧ (wF F a x).most = F.most ∧ (wF F a x).raws = F.raws ++ pcs a x n := by
  have h1 : wF F a x = { FN F a x n with off := true, left := -1 } := by
    unfold wF
    rw [if_neg (by rw [hoff]; decide), if_neg (by omega), if_neg (by omega)]
    unfold wrF
    rw [if_pos (by omega), Int.toNat_natCast, hl, Int.toNat_natCast]
  have h2 : wE F a x = 6 := by
    unfold wE
    rw [if_neg (by rw [hoff]; decide), if_neg (by omega), if_neg (by omega)]
    unfold wrE
    rw [if_pos (by omega)]
  rw [h1]
  exact ⟨h2, rfl, rfl, rfl, rfl, rfl⟩
theorem write_off {F : FM} (hoff : F.off = true) (a : Int) (x : List Int) : wE F a x = 6 ∧ wF F a x = F := by
  unfold wE wF
  rw [if_pos hoff, if_pos hoff]
  exact ⟨rfl, rfl⟩
theorem layL_over (b : List Int) (a m : Nat) (x : List Int) (h : a ≤ b.length) : layL (layL b a (x.take m)) a x = layL b a x := by
  have h1 : (b.take a).length = a := by rw [List.length_take]; omega
  have h2 : (x.take m).length ≤ x.length := by rw [List.length_take]; omega
  obtain ⟨y, hy⟩ : ∃ y, y = x.take m := ⟨_, rfl⟩
  rw [← hy] at h2 ⊢
  unfold layL
  rw [List.take_left' h1]
  congr 2
  rw [List.drop_append, h1, List.drop_of_length_le (by omega), List.nil_append, List.drop_append, List.drop_of_length_le (by omega), List.nil_append, List.drop_drop]
  congr 1
  omega

set_option maxHeartbeats 400000 in
theorem write_off_any (o : Nat → Nat) (i p : Nat) (F : FM) (a : Int) (A : Option Addr) (m c : Nat) (w : World) (hF : FileA w o i p F) (hoff : F.off = true) :
    Calls Try.prog 13 #[.pointer (some ⟨p, 0, none⟩), .int .i64 a, .slice A m c] w fun e w' => e = .returned (.int .i64 6) ∧ w = w' := by
  have HF := Lib.hid hF
  obtain ⟨vb, vr, L, hF1⟩ := hF
  obtain ⟨Av, cv, hvb, _, _, _⟩ := own_split hF1.ob
  subst hvb
  obtain ⟨c0, c1, c2, c3, c4, c5⟩ := hF1.cells
  rw [hoff] at c3
  clear hF1 c1 c4 c5
  go_enter Try.func13, Try.ntmps13
  go_wp2_with (go_at_call 32; refine (good_any o i p F w HF.out).mono ?_; rintro e w1 ⟨rfl, rfl⟩)
  go_ret
  exact ⟨rfl, rfl⟩
set_option maxRecDepth 100000 in
set_option maxHeartbeats 3200000 in
theorem storeCuts_walk (B : Option Addr) (cb : Nat) (b : List Int) (pl : Int) (X : Option Addr) (cx : Nat) (x : List Int) (n : Int) (w : World) (hrb : ReadsInt w .u8 B b.length b) (hwb : ∀ x ∈ b, (Lit.int .u8 x).wf = true) (hcb : b.length ≤ cb) (hyb : b.length * 1 ≤ 140737488351232) (_hwp : (Lit.int .i64 pl).wf = true)
    (hrx : ReadsInt w .u8 X x.length x) (hwx : ∀ y ∈ x, (Lit.int .u8 y).wf = true) (hcx : x.length ≤ cx) (hyx : x.length * 1 ≤ 140737488351232) (_hwn : (Lit.int .i64 n).wf = true) :
    Calls Try.prog 4 #[.slice B b.length cb, .int .i64 pl, .slice X x.length cx, .int .i64 n] w fun e w' => e = .returned (.bool true) ∧ Below w.heap.size w w' := by
  have HRB := Lib.hid (show Rd w B b from hrb)
  have HRX := Lib.hid (show Rd w X x from hrx)
  have HBB := Lib.hid (wf_bts' hwb)
  have HBX := Lib.hid (wf_bts' hwx)
  clear hrb hwb hrx hwx
  by_cases hbig : 10000 < b.length + x.length
  · go_enter Try.func4, Try.ntmps4
    go_wp2_with (go_at_call 11; refine (lives03 _).mono ?_; rintro e w1 ⟨rfl, hb1⟩)
    go_ret
    exact ⟨rfl, hb1⟩
  by_cases hn0 : n < 0
  · go_enter Try.func4, Try.ntmps4
    go_wp2_with (go_at_call 11; refine (lives03 _).mono ?_; rintro e w1 ⟨rfl, hb1⟩)
    go_ret
    exact ⟨rfl, hb1⟩
  by_cases hn1 : 10000 < n
  · go_enter Try.func4, Try.ntmps4
    go_wp2_with (go_at_call 11; refine (lives03 _).mono ?_; rintro e w1 ⟨rfl, hb1⟩)
    go_ret
    exact ⟨rfl, hb1⟩
  obtain ⟨t, k, ht, ht1, ht2, hk, hkn⟩ := place_at pl b.length
  have hd0 : ¬ ((b.length : Int) + 1) = 0 := by omega
  have hd1 : (((b.length : Int) + 1) == 0) = false := by rw [beq_eq_false_iff_ne]; exact hd0
  obtain ⟨m, hm⟩ := Int.eq_ofNat_of_zero_le (show 0 ≤ n by omega)
  obtain ⟨F0, hF0⟩ : ∃ F0, F0 = mkF b ((b.length : Int) + x.length) := ⟨_, rfl⟩
  obtain ⟨F1, hF1⟩ : ∃ F1, F1 = ctF F0 n := ⟨_, rfl⟩
  obtain ⟨F2, hF2⟩ : ∃ F2, F2 = wF F1 k x := ⟨_, rfl⟩
  have hofb : ¬ ofB b ((b.length : Int) + x.length) := by unfold ofB; omega
  have hok0 : FOk F0 := by rw [hF0]; exact mkF_ok HBB.out hofb
  have hok1 : FOk F1 := by rw [hF1]; exact hok0.ctF n (by omega)
  have hok2 : FOk F2 := by rw [hF2]; exact hok1.wF HBX.out k
  have hE1 : ctE n = 0 := by unfold ctE; rw [if_neg (by omega)]
  have hF1' : F1 = { F0 with left := n } := by rw [hF1]; unfold ctF; rw [if_neg (by omega)]
  have hb1 : F1.b = b := by rw [hF1', hF0]; rfl
  have hm1 : F1.most = (b.length : Int) + x.length := by rw [hF1', hF0]; rfl
  have ho1 : F1.off = false := by rw [hF1', hF0]; rfl
  have hl1 : F1.left = m := by rw [hF1']; exact hm
  have hr1 : F1.raws = [] := by rw [hF1', hF0]; rfl
  have hlb : (b.length : Int) ≤ 10000 := by omega
  have HF0 := Lib.hid hF0
  have HF1 := Lib.hid hF1
  have HF2 := Lib.hid hF2
  have HOK1 := Lib.hid hok1
  have HOK2 := Lib.hid hok2
  have HE1 := Lib.hid hE1
  have HM := Lib.hid hm
  have HK := Lib.hid (show F1.b = b ∧ F1.most = (b.length : Int) + x.length ∧ F1.off = false ∧ F1.left = m ∧ F1.raws = [] from ⟨hb1, hm1, ho1, hl1, hr1⟩)
  have HR1 := Lib.hid (show F1.raws.length ≤ 900000000 by rw [hr1]; show (0 : Nat) ≤ _; omega)
  have HFR0 := Lib.hid (show Fr (fun _ => 0) w from fun _ _ => rfl)
  clear hF0 hF1 hF2 hok0 hok1 hok2 hE1 hF1' hb1 hm1 ho1 hl1 hr1 hm
  obtain ⟨bx, hbx⟩ : ∃ bx : Nat, (bx : Int) = (b.length : Int) + x.length := ⟨b.length + x.length, by omega⟩
  by_cases hcase : (x.length : Int) ≤ n * 16
  · obtain ⟨hw1, hw2, hw3⟩ := write_room (F := F1) (a := k) (x := x) HK.out.2.2.1 (by rw [HK.out.1]; exact hkn) (by rw [HK.out.2.1]; omega) (.inr (by rw [HK.out.2.2.2.1]; unfold chN; have := HM.out; omega))
    rw [← HF2.out] at hw2 hw3
    rw [HK.out.1] at hw2
    have hll : F2.b.length ≤ 4200000 := by rw [hw2, layL_length _ _ _ hkn]; omega
    have HW := Lib.hid (show wE F1 k x = 0 ∧ F2.b = layL b k x ∧ F2.off = false ∧ F2.b.length ≤ 4200000 from ⟨hw1, hw2, hw3, hll⟩)
    clear hw1 hw2 hw3 hll
    have hcb2 := hcb
    go_enter Try.func4, Try.ntmps4
    go_wp2_with fail
    refine (of_any (fun _ => 0) 1 B cb b ((b.length : Int) + x.length) w HFR0.out HRB.out hofb).mono ?_
    rintro e w1 ⟨p, o1, rfl, hf1, hu1, _, _⟩
    rw [← HF0.out] at hf1
    have HFI1 := Lib.hid hf1
    have HU1 := Lib.hid hu1
    clear hf1 hu1 hofb
    go_wp2_with fail
    refine (cut_any o1 1 (by decide) (by decide) p F0 n w1 HFI1.out HU1.out.fr).mono ?_
    rintro e w2 ⟨rfl, hu2, hf2⟩
    rw [HE1.out]
    rw [← HF1.out] at hf2
    have HFI2 := Lib.hid hf2
    have HU2 := Lib.hid (HU1.out.trans hu2)
    clear hu2 hf2
    go_wp2_with fail
    refine (write_any o1 1 (by decide) (by decide) p F1 k X cx x w2 HFI2.out HU2.out.fr HOK1.out (by omega) (by omega) (HU2.out.rd HRX.out (fun _ _ _ => by decide)) (HU2.out.arg (by decide) HRX.out) (by omega) hcx HR1.out).mono ?_
    rintro e w3 ⟨o3, rfl, hu3, hf3⟩
    rw [HW.out.1]
    rw [← HF2.out] at hf3
    have HFI3 := Lib.hid hf3
    have HU3 := Lib.hid (HU2.out.trans hu3)
    clear hu3 hf3
    go_wp2_with fail
    have hb0 : Below w3.heap.size w3 w3.drew := (Below.refl _ _).drew
    refine wp_region_held_drew (S := fun W' => Below w3.heap.size w3 W') (by kernel_rfl) hb0 (fun hHeld => ?_)
    refine wpAnyH_take (i := 0) (oi := { dst := some 63, op := Op.move (Operand.tmp 10), type := 29, pos := "outright.go:48", after := #[], guard := none }) (v := ?_) rfl (by kernel_rfl) (by kernel_rfl) (by kernel_rfl) (fun _ _ _ h => h) (Or.inl ⟨by rfl, ?_⟩) (by assumption) ?_
    rotate_left
    · (intro wS hSw; (try dsimp only at hSw); go_simp; (try (with_reducible rfl)))
    try simp only [Act.put, List.setIfInBounds_toArray, List.set_cons_zero, List.set_cons_succ]
    refine wpAnyH_take (i := 1) (oi := { dst := some 64, op := Op.binOp BinOp.eql 29 (Operand.tmp 63) (Operand.const (Value.int IntKind.i64 0)) 29, type := 4, pos := "outright.go:48", after := #[{ on := 0, ground := Ground.data }], guard := none }) (v := ?_) rfl (by kernel_rfl) (by kernel_rfl) (by kernel_rfl) (fun _ _ _ h => h) (Or.inl ⟨by rfl, ?_⟩) (by assumption) ?_
    rotate_left
    · (intro wS hSw; (try dsimp only at hSw); go_simp; (try (with_reducible rfl)))
    try simp only [Act.put, List.setIfInBounds_toArray, List.set_cons_zero, List.set_cons_succ]
    refine wpAnyH_take (i := 2) (oi := { dst := some 65, op := Op.move (Operand.tmp 64), type := 4, pos := "outright.go:48", after := #[{ on := 1, ground := Ground.data }], guard := none }) (v := ?_) rfl (by kernel_rfl) (by kernel_rfl) (by kernel_rfl) (fun _ _ _ h => h) (Or.inl ⟨by rfl, ?_⟩) (by assumption) ?_
    rotate_left
    · (intro wS hSw; (try dsimp only at hSw); go_simp; (try (with_reducible rfl)))
    try simp only [Act.put, List.setIfInBounds_toArray, List.set_cons_zero, List.set_cons_succ]
    refine wpAnyH_take (i := 3) (oi := { dst := some 66, op := Op.move (Operand.tmp 9), type := 24, pos := "outright.go:48", after := #[{ on := 2, ground := Ground.guard }], guard := some (2, true) }) (v := ?_) rfl (by kernel_rfl) (by kernel_rfl) (by kernel_rfl) (fun _ _ _ h => h) (Or.inl ⟨by rfl, ?_⟩) (by assumption) ?_
    rotate_left
    · (intro wS hSw; (try dsimp only at hSw); go_simp; (try (with_reducible rfl)))
    try simp only [Act.put, List.setIfInBounds_toArray, List.set_cons_zero, List.set_cons_succ]
    refine wpAnyH_ready (rs := [4]) (by kernel_rfl) (by simp) ?_
    refine AllReadyH.cons (o := { dst := some 67, op := Op.call { callee := Callee.value (Operand.func 17), args := #[Operand.tmp 66], argTypes := #[24] }, type := 4, pos := "outright.go:48", after := #[{ on := 3, ground := Ground.data }, { on := 2, ground := Ground.chain }, { on := 2, ground := Ground.guard }], guard := some (2, true) }) rfl (fun K hK => ?_) AllReadyH.nil
    go_simp
    refine (on_any o3 1 p F2 _ (HFI3.out.below hb0)).mono ?_
    rintro e wl ⟨rfl, rfl⟩
    rw [HW.out.2.2.1]
    refine hK.out _ _ ?_ (fun hHeld => ?_)
    · exact hb0
    clear hK K
    try simp only [Act.put, List.setIfInBounds_toArray, List.set_cons_zero, List.set_cons_succ]
    refine wpAnyH_take (i := 5) (oi := { dst := some 68, op := Op.pick (Operand.tmp 65) (Operand.tmp 67) (Operand.const (Value.bool false)), type := 4, pos := "outright.go:48", after := #[{ on := 2, ground := Ground.data }, { on := 4, ground := Ground.data }], guard := none }) (v := ?_) rfl (by kernel_rfl) (by kernel_rfl) (by kernel_rfl) (fun _ _ _ h => h) (Or.inl ⟨by rfl, ?_⟩) (by assumption) ?_
    rotate_left
    · (intro wS hSw; (try dsimp only at hSw); go_simp; (try (with_reducible rfl)))
    try simp only [Act.put, List.setIfInBounds_toArray, List.set_cons_zero, List.set_cons_succ]
    refine wpAnyH_take (i := 6) (oi := { dst := some 69, op := Op.move (Operand.tmp 68), type := 4, pos := "outright.go:48", after := #[{ on := 5, ground := Ground.data }, { on := 4, ground := Ground.chain }], guard := none }) (v := ?_) rfl (by kernel_rfl) (by kernel_rfl) (by kernel_rfl) (fun _ _ _ h => h) (Or.inl ⟨by rfl, ?_⟩) (by assumption) ?_
    rotate_left
    · (intro wS hSw; (try dsimp only at hSw); go_simp; (try (with_reducible rfl)))
    try simp only [Act.put, List.setIfInBounds_toArray, List.set_cons_zero, List.set_cons_succ]
    refine wpAnyH_take (i := 7) (oi := { dst := some 70, op := Op.move (Operand.tmp 9), type := 24, pos := "outright.go:48", after := #[{ on := 6, ground := Ground.guard }], guard := some (6, true) }) (v := ?_) rfl (by kernel_rfl) (by kernel_rfl) (by kernel_rfl) (fun _ _ _ h => h) (Or.inl ⟨by rfl, ?_⟩) (by assumption) ?_
    rotate_left
    · (intro wS hSw; (try dsimp only at hSw); go_simp; (try (with_reducible rfl)))
    try simp only [Act.put, List.setIfInBounds_toArray, List.set_cons_zero, List.set_cons_succ]
    refine wpAnyH_take (i := 10) (oi := { dst := some 73, op := Op.move (Operand.tmp 0), type := 22, pos := "outright.go:48", after := #[{ on := 6, ground := Ground.guard }], guard := some (6, true) }) (v := ?_) rfl (by kernel_rfl) (by kernel_rfl) (by kernel_rfl) (fun _ _ _ h => h) (Or.inl ⟨by rfl, ?_⟩) (by assumption) ?_
    rotate_left
    · (intro wS hSw; (try dsimp only at hSw); go_simp; (try (with_reducible rfl)))
    try simp only [Act.put, List.setIfInBounds_toArray, List.set_cons_zero, List.set_cons_succ]
    refine wpAnyH_take (i := 11) (oi := { dst := some 74, op := Op.move (Operand.tmp 1), type := 3, pos := "outright.go:48", after := #[{ on := 6, ground := Ground.guard }], guard := some (6, true) }) (v := ?_) rfl (by kernel_rfl) (by kernel_rfl) (by kernel_rfl) (fun _ _ _ h => h) (Or.inl ⟨by rfl, ?_⟩) (by assumption) ?_
    rotate_left
    · (intro wS hSw; (try dsimp only at hSw); go_simp; (try (with_reducible rfl)))
    try simp only [Act.put, List.setIfInBounds_toArray, List.set_cons_zero, List.set_cons_succ]
    refine wpAnyH_take (i := 12) (oi := { dst := some 75, op := Op.move (Operand.tmp 2), type := 22, pos := "outright.go:48", after := #[{ on := 6, ground := Ground.guard }], guard := some (6, true) }) (v := ?_) rfl (by kernel_rfl) (by kernel_rfl) (by kernel_rfl) (fun _ _ _ h => h) (Or.inl ⟨by rfl, ?_⟩) (by assumption) ?_
    rotate_left
    · (intro wS hSw; (try dsimp only at hSw); go_simp; (try (with_reducible rfl)))
    try simp only [Act.put, List.setIfInBounds_toArray, List.set_cons_zero, List.set_cons_succ]
    refine wpAnyH_ready (rs := [8]) (by kernel_rfl) (by simp) ?_
    refine AllReadyH.cons (o := { dst := some 71, op := Op.call { callee := Callee.value (Operand.func 16), args := #[Operand.tmp 70], argTypes := #[24] }, type := 22, pos := "outright.go:48", after := #[{ on := 7, ground := Ground.data }, { on := 6, ground := Ground.chain }, { on := 6, ground := Ground.guard }], guard := some (6, true) }) rfl (fun K hK => ?_) AllReadyH.nil
    go_simp
    refine (bytes_any o3 1 p F2 _ (HFI3.out.below hb0) HW.out.2.2.2).mono ?_
    rintro e w4 ⟨v4, rfl, ho4, hb4⟩
    have hb34 : Below w3.heap.size w3 w4 := hb0.trans (hb4.mono hb0.size)
    rw [HW.out.2.1] at ho4
    refine hK.out _ _ ?_ (fun hHeld => ?_)
    · exact hb34
    refine wpAnyH_mono (S2 := fun W' => Below w4.heap.size w4 W') (fun W' h => hb34.trans (h.mono hb34.size)) _ _ _ _ ?_
    have hs4 : Below w4.heap.size w4 w4 := Below.refl _ _
    have hcv4 : ∀ W', Below w4.heap.size w4 W' → (convert 22 9 v4).run Try.prog W' = .ok (.string (strOfNums (layL b k x))) W' := fun W' h => own_str (own_step ho4 h)
    clear hK K
    try simp only [Act.put, List.setIfInBounds_toArray, List.set_cons_zero, List.set_cons_succ]
    refine wpAnyH_take (i := 9) (oi := { dst := some 72, op := Op.convert 22 9 (Operand.tmp 71), type := 9, pos := "outright.go:48", after := #[{ on := 8, ground := Ground.data }, { on := 6, ground := Ground.guard }], guard := some (6, true) }) (v := ?_) rfl (by kernel_rfl) (by kernel_rfl) (by kernel_rfl) (fun _ _ _ h => h) (Or.inl ⟨by rfl, ?_⟩) (by assumption) ?_
    rotate_left
    · (intro wS hSw; (try dsimp only at hSw); go_simp; (try (with_reducible rfl)))
    try simp only [Act.put, List.setIfInBounds_toArray, List.set_cons_zero, List.set_cons_succ]
    refine wpAnyH_ready (rs := [13]) (by kernel_rfl) (by simp) ?_
    refine AllReadyH.cons (o := { dst := some 76, op := Op.call { callee := Callee.value (Operand.func 15), args := #[Operand.tmp 73, Operand.tmp 74, Operand.tmp 75], argTypes := #[22, 3, 22] }, type := 22, pos := "outright.go:48", after := #[{ on := 10, ground := Ground.data }, { on := 11, ground := Ground.data }, { on := 12, ground := Ground.data }, { on := 8, ground := Ground.chain }, { on := 6, ground := Ground.guard }], guard := some (6, true) }) rfl (fun K hK => ?_) AllReadyH.nil
    go_simp
    have hB4 : Below w.heap.size w w4 := (HU3.out.below' hb34).below (by decide) (Nat.le_refl _) (fun _ _ => rfl)
    refine (refLay_any B cb b k X cx x w4 (HRB.out.below hB4) (HRX.out.below hB4) (by omega) (by omega) (by omega) HBX.out).mono ?_
    rintro e w5 ⟨v5, rfl, ho5, hb5⟩
    refine hK.out _ _ ?_ (fun hHeld => ?_)
    · exact hb5
    refine wpAnyH_mono (S2 := fun W' => Below w5.heap.size w5 W') (fun W' h => hb5.trans (h.mono hb5.size)) _ _ _ _ ?_
    have hs5 : Below w5.heap.size w5 w5 := Below.refl _ _
    have hcv5 : ∀ W', Below w5.heap.size w5 W' → (convert 22 9 v5).run Try.prog W' = .ok (.string (strOfNums (layL b k x))) W' := fun W' h => own_str (own_step ho5 h)
    clear hK K
    try simp only [Act.put, List.setIfInBounds_toArray, List.set_cons_zero, List.set_cons_succ]
    refine wpAnyH_take (i := 14) (oi := { dst := some 77, op := Op.convert 22 9 (Operand.tmp 76), type := 9, pos := "outright.go:48", after := #[{ on := 13, ground := Ground.data }, { on := 6, ground := Ground.guard }], guard := some (6, true) }) (v := ?_) rfl (by kernel_rfl) (by kernel_rfl) (by kernel_rfl) (fun _ _ _ h => h) (Or.inl ⟨by rfl, ?_⟩) (by assumption) ?_
    rotate_left
    · (intro wS hSw; (try dsimp only at hSw); go_simp; (try (with_reducible rfl)))
    try simp only [Act.put, List.setIfInBounds_toArray, List.set_cons_zero, List.set_cons_succ]
    refine wpAnyH_take (i := 15) (oi := { dst := some 78, op := Op.binOp BinOp.eql 9 (Operand.tmp 72) (Operand.tmp 77) 9, type := 4, pos := "outright.go:48", after := #[{ on := 9, ground := Ground.data }, { on := 14, ground := Ground.data }, { on := 6, ground := Ground.guard }], guard := some (6, true) }) (v := ?_) rfl (by kernel_rfl) (by kernel_rfl) (by kernel_rfl) (fun _ _ _ h => h) (Or.inl ⟨by rfl, ?_⟩) (by assumption) ?_
    rotate_left
    · (intro wS hSw; (try dsimp only at hSw); go_simp; (try (with_reducible rfl)))
    try simp only [Act.put, List.setIfInBounds_toArray, List.set_cons_zero, List.set_cons_succ]
    refine wpAnyH_take (i := 16) (oi := { dst := some 79, op := Op.pick (Operand.tmp 69) (Operand.tmp 78) (Operand.const (Value.bool false)), type := 4, pos := "outright.go:48", after := #[{ on := 6, ground := Ground.data }, { on := 15, ground := Ground.data }], guard := none }) (v := ?_) rfl (by kernel_rfl) (by kernel_rfl) (by kernel_rfl) (fun _ _ _ h => h) (Or.inl ⟨by rfl, ?_⟩) (by assumption) ?_
    rotate_left
    · (intro wS hSw; (try dsimp only at hSw); go_simp; (try (with_reducible rfl)))
    try simp only [Act.put, List.setIfInBounds_toArray, List.set_cons_zero, List.set_cons_succ]
    refine wpAnyH_take (i := 17) (oi := { dst := some 80, op := Op.move (Operand.tmp 79), type := 4, pos := "outright.go:48", after := #[{ on := 16, ground := Ground.data }, { on := 13, ground := Ground.chain }], guard := none }) (v := ?_) rfl (by kernel_rfl) (by kernel_rfl) (by kernel_rfl) (fun _ _ _ h => h) (Or.inl ⟨by rfl, ?_⟩) (by assumption) ?_
    rotate_left
    · (intro wS hSw; (try dsimp only at hSw); go_simp; (try (with_reducible rfl)))
    try simp only [Act.put, List.setIfInBounds_toArray, List.set_cons_zero, List.set_cons_succ]
    refine wpAnyH_ready (rs := [18]) (by kernel_rfl) (by simp) ?_
    refine AllReadyH.cons (o := { dst := some 81, op := Op.call { callee := Callee.value (Operand.func 11), args := #[], argTypes := #[] }, type := 4, pos := "outright.go:48", after := #[{ on := 17, ground := Ground.chain }, { on := 17, ground := Ground.guard }], guard := some (17, true) }) rfl (fun K hK => ?_) AllReadyH.nil
    go_simp
    refine (lives03 _).mono ?_
    rintro e w6 ⟨rfl, hb6⟩
    refine hK.out _ _ ?_ (fun hHeld => ?_)
    · exact hb6
    clear hK K
    try simp only [Act.put, List.setIfInBounds_toArray, List.set_cons_zero, List.set_cons_succ]
    refine wpAnyH_take (i := 19) (oi := { dst := some 82, op := Op.pick (Operand.tmp 80) (Operand.tmp 81) (Operand.const (Value.bool false)), type := 4, pos := "outright.go:48", after := #[{ on := 17, ground := Ground.data }, { on := 18, ground := Ground.data }], guard := none }) (v := ?_) rfl (by kernel_rfl) (by kernel_rfl) (by kernel_rfl) (fun _ _ _ h => h) (Or.inl ⟨by rfl, ?_⟩) (by assumption) ?_
    rotate_left
    · (intro wS hSw; (try dsimp only at hSw); go_simp; (try (with_reducible rfl)))
    try simp only [Act.put, List.setIfInBounds_toArray, List.set_cons_zero, List.set_cons_succ]
    refine wpAnyH_take (i := 20) (oi := { dst := some 8, op := Op.assign (Operand.tmp 82), type := 4, pos := "outright.go:48", after := #[{ on := 19, ground := Ground.data }, { on := 18, ground := Ground.chain }, { on := 0, ground := Ground.phase }, { on := 1, ground := Ground.phase }, { on := 2, ground := Ground.phase }, { on := 3, ground := Ground.phase }, { on := 4, ground := Ground.phase }, { on := 5, ground := Ground.phase }, { on := 6, ground := Ground.phase }, { on := 7, ground := Ground.phase }, { on := 8, ground := Ground.phase }, { on := 9, ground := Ground.phase }, { on := 10, ground := Ground.phase }, { on := 11, ground := Ground.phase }, { on := 12, ground := Ground.phase }, { on := 13, ground := Ground.phase }, { on := 14, ground := Ground.phase }, { on := 15, ground := Ground.phase }, { on := 16, ground := Ground.phase }, { on := 17, ground := Ground.phase }, { on := 18, ground := Ground.phase }, { on := 19, ground := Ground.phase }], guard := none }) (v := ?_) rfl (by kernel_rfl) (by kernel_rfl) (by kernel_rfl) (fun _ _ _ h => h) (Or.inl ⟨by rfl, ?_⟩) (by assumption) ?_
    rotate_left
    · (intro wS hSw; (try dsimp only at hSw); go_simp; (try (with_reducible rfl)))
    try simp only [Act.put, List.setIfInBounds_toArray, List.set_cons_zero, List.set_cons_succ]
    refine wpAnyH_done (by kernel_rfl) ?_ _
    go_wp2_with fail
    go_ret
    refine ⟨rfl, ?_⟩
    exact (((HU3.out.below' hb34).below' hb5).below' hb6).below (by decide) (Nat.le_refl _) (fun _ _ => rfl)
  · obtain ⟨hw1, hw2, hw3, hw4, hw5, hw6⟩ := write_cut (F := F1) (a := k) (n := m) (x := x) HK.out.2.2.1 (by rw [HK.out.1]; exact hkn) (by rw [HK.out.2.1]; omega) HK.out.2.2.2.1 (by unfold chN; have := HM.out; omega)
    rw [← HF2.out] at hw2 hw3 hw4 hw5 hw6
    rw [HK.out.1] at hw2
    rw [HK.out.2.1] at hw5
    rw [HK.out.2.2.2.2, List.nil_append] at hw6
    have hmn : m < chN x.length 16 := by unfold chN; have := HM.out; omega
    obtain ⟨hcut, hcr⟩ := fcut_pre X x cx (n * 16) (by omega) (by omega) hcx
    rw [show (n * 16).toNat = m * 16 by have := HM.out; omega] at hcut hcr
    obtain ⟨xt, hxt⟩ : ∃ xt, xt = x.take (m * 16) := ⟨_, rfl⟩
    rw [← hxt] at hcut hcr hw2
    have hxl : xt.length ≤ x.length := by rw [hxt, List.length_take]; omega
    have hbt : Bts xt := by rw [hxt]; exact HBX.out.take _
    have hll : F2.b.length ≤ 4200000 := by rw [hw2, layL_length _ _ _ hkn]; omega
    obtain ⟨F4, hF4⟩ : ∃ F4, F4 = { F2 with off := false } := ⟨_, rfl⟩
    obtain ⟨F5, hF5⟩ : ∃ F5, F5 = wF F4 k x := ⟨_, rfl⟩
    obtain ⟨hv1, hv2, hv3⟩ := write_room (F := F4) (a := k) (x := x) (by rw [hF4]) (by rw [hF4]; show k ≤ F2.b.length; rw [hw2, layL_length _ _ _ hkn]; omega) (by rw [hF4]; show (k : Int) + x.length ≤ F2.most; rw [hw5]; omega) (.inl (by rw [hF4]; show F2.left < 0; rw [hw4]; decide))
    rw [← hF5] at hv2
    have hv2' : F5.b = layL b k x := by
      rw [hv2, hF4]
      show layL F2.b k x = _
      rw [hw2, hxt]
      exact layL_over b k _ x hkn
    have hll5 : F5.b.length ≤ 4200000 := by rw [hv2', layL_length _ _ _ hkn]; omega
    have hok4 : FOk F4 := by
      have h := HOK2.out
      rw [hF4]
      exact ⟨h.len, h.most, h.lo, h.hi, h.bts, h.rbts⟩
    have hr4 : F4.raws.length ≤ 900000000 := by
      rw [hF4]
      show F2.raws.length ≤ _
      rw [hw6, pcs_length]
      unfold chN at hmn
      omega
    have hwr : IntKind.i64.wrap (n * 16) = n * 16 := by rw [IntKind.wrap_i64] <;> omega
    have HW := Lib.hid (show wE F1 k x = 6 ∧ F2.b = layL b k xt ∧ F2.off = true ∧ F2.b.length ≤ 4200000 from ⟨hw1, hw2, hw3, hll⟩)
    have HV := Lib.hid (show wE F4 k x = 0 ∧ F5.b = layL b k x ∧ F5.b.length ≤ 4200000 from ⟨hv1, hv2', hll5⟩)
    have HF4 := Lib.hid hF4
    have HF5 := Lib.hid hF5
    have HOK4 := Lib.hid hok4
    have HR4 := Lib.hid hr4
    have HCR := Lib.hid hcr
    have HXL := Lib.hid hxl
    have HBT := Lib.hid hbt
    clear hw1 hw2 hw3 hw4 hw5 hw6 hmn hcr hxt hxl hbt hll hF4 hF5 hv1 hv2 hv3 hv2' hll5 hok4 hr4
    go_enter Try.func4, Try.ntmps4
    go_wp2_with fail
    refine (of_any (fun _ => 0) 1 B cb b ((b.length : Int) + x.length) w HFR0.out HRB.out hofb).mono ?_
    rintro e w1 ⟨p, o1, rfl, hf1, hu1, _, _⟩
    rw [← HF0.out] at hf1
    have HFI1 := Lib.hid hf1
    have HU1 := Lib.hid hu1
    clear hf1 hu1 hofb
    go_wp2_with fail
    refine (cut_any o1 1 (by decide) (by decide) p F0 n w1 HFI1.out HU1.out.fr).mono ?_
    rintro e w2 ⟨rfl, hu2, hf2⟩
    rw [HE1.out]
    rw [← HF1.out] at hf2
    have HFI2 := Lib.hid hf2
    have HU2 := Lib.hid (HU1.out.trans hu2)
    clear hu2 hf2
    go_wp2_with fail
    refine (write_any o1 1 (by decide) (by decide) p F1 k X cx x w2 HFI2.out HU2.out.fr HOK1.out (by omega) (by omega) (HU2.out.rd HRX.out (fun _ _ _ => by decide)) (HU2.out.arg (by decide) HRX.out) (by omega) hcx HR1.out).mono ?_
    rintro e w3 ⟨o3, rfl, hu3, hf3⟩
    rw [HW.out.1]
    rw [← HF2.out] at hf3
    have HFI3 := Lib.hid hf3
    have HU3 := Lib.hid (HU2.out.trans hu3)
    clear hu3 hf3
    go_wp2_with fail
    have hb0 : Below w3.heap.size w3 w3.drew := (Below.refl _ _).drew
    refine wp_region_held_drew (S := fun W' => Below w3.heap.size w3 W') (by kernel_rfl) hb0 (fun hHeld => ?_)
    refine wpAnyH_take (i := 0) (oi := { dst := some 83, op := Op.move (Operand.tmp 10), type := 29, pos := "outright.go:50", after := #[], guard := none }) (v := ?_) rfl (by kernel_rfl) (by kernel_rfl) (by kernel_rfl) (fun _ _ _ h => h) (Or.inl ⟨by rfl, ?_⟩) (by assumption) ?_
    rotate_left
    · (intro wS hSw; (try dsimp only at hSw); go_simp; (try (with_reducible rfl)))
    try simp only [Act.put, List.setIfInBounds_toArray, List.set_cons_zero, List.set_cons_succ]
    refine wpAnyH_take (i := 1) (oi := { dst := some 84, op := Op.binOp BinOp.neq 29 (Operand.tmp 83) (Operand.const (Value.int IntKind.i64 6)) 29, type := 4, pos := "outright.go:50", after := #[{ on := 0, ground := Ground.data }], guard := none }) (v := ?_) rfl (by kernel_rfl) (by kernel_rfl) (by kernel_rfl) (fun _ _ _ h => h) (Or.inl ⟨by rfl, ?_⟩) (by assumption) ?_
    rotate_left
    · (intro wS hSw; (try dsimp only at hSw); go_simp; (try (with_reducible rfl)))
    try simp only [Act.put, List.setIfInBounds_toArray, List.set_cons_zero, List.set_cons_succ]
    refine wpAnyH_take (i := 2) (oi := { dst := some 85, op := Op.move (Operand.tmp 84), type := 4, pos := "outright.go:50", after := #[{ on := 1, ground := Ground.data }], guard := none }) (v := ?_) rfl (by kernel_rfl) (by kernel_rfl) (by kernel_rfl) (fun _ _ _ h => h) (Or.inl ⟨by rfl, ?_⟩) (by assumption) ?_
    rotate_left
    · (intro wS hSw; (try dsimp only at hSw); go_simp; (try (with_reducible rfl)))
    try simp only [Act.put, List.setIfInBounds_toArray, List.set_cons_zero, List.set_cons_succ]
    refine wpAnyH_take (i := 3) (oi := { dst := some 86, op := Op.move (Operand.tmp 9), type := 24, pos := "outright.go:50", after := #[{ on := 2, ground := Ground.guard }], guard := some (2, false) }) (v := ?_) rfl (by kernel_rfl) (by kernel_rfl) (by kernel_rfl) (fun _ _ _ h => h) (Or.inl ⟨by rfl, ?_⟩) (by assumption) ?_
    rotate_left
    · (intro wS hSw; (try dsimp only at hSw); go_simp; (try (with_reducible rfl)))
    try simp only [Act.put, List.setIfInBounds_toArray, List.set_cons_zero, List.set_cons_succ]
    refine wpAnyH_ready (rs := [4]) (by kernel_rfl) (by simp) ?_
    refine AllReadyH.cons (o := { dst := some 87, op := Op.call { callee := Callee.value (Operand.func 17), args := #[Operand.tmp 86], argTypes := #[24] }, type := 4, pos := "outright.go:50", after := #[{ on := 3, ground := Ground.data }, { on := 2, ground := Ground.chain }, { on := 2, ground := Ground.guard }], guard := some (2, false) }) rfl (fun K hK => ?_) AllReadyH.nil
    go_simp
    refine (on_any o3 1 p F2 _ (HFI3.out.below hb0)).mono ?_
    rintro e wl ⟨rfl, rfl⟩
    rw [HW.out.2.2.1]
    refine hK.out _ _ ?_ (fun hHeld => ?_)
    · exact hb0
    clear hK K
    try simp only [Act.put, List.setIfInBounds_toArray, List.set_cons_zero, List.set_cons_succ]
    refine wpAnyH_take (i := 5) (oi := { dst := some 88, op := Op.pick (Operand.tmp 85) (Operand.const (Value.bool true)) (Operand.tmp 87), type := 4, pos := "outright.go:50", after := #[{ on := 2, ground := Ground.data }, { on := 4, ground := Ground.data }], guard := none }) (v := ?_) rfl (by kernel_rfl) (by kernel_rfl) (by kernel_rfl) (fun _ _ _ h => h) (Or.inl ⟨by rfl, ?_⟩) (by assumption) ?_
    rotate_left
    · (intro wS hSw; (try dsimp only at hSw); go_simp; (try (with_reducible rfl)))
    try simp only [Act.put, List.setIfInBounds_toArray, List.set_cons_zero, List.set_cons_succ]
    refine wpAnyH_take (i := 6) (oi := { dst := some 89, op := Op.move (Operand.tmp 88), type := 4, pos := "outright.go:50", after := #[{ on := 5, ground := Ground.data }, { on := 4, ground := Ground.chain }], guard := none }) (v := ?_) rfl (by kernel_rfl) (by kernel_rfl) (by kernel_rfl) (fun _ _ _ h => h) (Or.inl ⟨by rfl, ?_⟩) (by assumption) ?_
    rotate_left
    · (intro wS hSw; (try dsimp only at hSw); go_simp; (try (with_reducible rfl)))
    try simp only [Act.put, List.setIfInBounds_toArray, List.set_cons_zero, List.set_cons_succ]
    refine wpAnyH_take (i := 7) (oi := { dst := some 90, op := Op.move (Operand.tmp 9), type := 24, pos := "outright.go:50", after := #[{ on := 6, ground := Ground.guard }], guard := some (6, false) }) (v := ?_) rfl (by kernel_rfl) (by kernel_rfl) (by kernel_rfl) (fun _ _ _ h => h) (Or.inl ⟨by rfl, ?_⟩) (by assumption) ?_
    rotate_left
    · (intro wS hSw; (try dsimp only at hSw); go_simp; (try (with_reducible rfl)))
    try simp only [Act.put, List.setIfInBounds_toArray, List.set_cons_zero, List.set_cons_succ]
    refine wpAnyH_take (i := 10) (oi := { dst := some 93, op := Op.move (Operand.tmp 0), type := 22, pos := "outright.go:50", after := #[{ on := 6, ground := Ground.guard }], guard := some (6, false) }) (v := ?_) rfl (by kernel_rfl) (by kernel_rfl) (by kernel_rfl) (fun _ _ _ h => h) (Or.inl ⟨by rfl, ?_⟩) (by assumption) ?_
    rotate_left
    · (intro wS hSw; (try dsimp only at hSw); go_simp; (try (with_reducible rfl)))
    try simp only [Act.put, List.setIfInBounds_toArray, List.set_cons_zero, List.set_cons_succ]
    refine wpAnyH_take (i := 11) (oi := { dst := some 94, op := Op.move (Operand.tmp 1), type := 3, pos := "outright.go:50", after := #[{ on := 6, ground := Ground.guard }], guard := some (6, false) }) (v := ?_) rfl (by kernel_rfl) (by kernel_rfl) (by kernel_rfl) (fun _ _ _ h => h) (Or.inl ⟨by rfl, ?_⟩) (by assumption) ?_
    rotate_left
    · (intro wS hSw; (try dsimp only at hSw); go_simp; (try (with_reducible rfl)))
    try simp only [Act.put, List.setIfInBounds_toArray, List.set_cons_zero, List.set_cons_succ]
    refine wpAnyH_take (i := 12) (oi := { dst := some 95, op := Op.move (Operand.tmp 2), type := 22, pos := "outright.go:50", after := #[{ on := 6, ground := Ground.guard }], guard := some (6, false) }) (v := ?_) rfl (by kernel_rfl) (by kernel_rfl) (by kernel_rfl) (fun _ _ _ h => h) (Or.inl ⟨by rfl, ?_⟩) (by assumption) ?_
    rotate_left
    · (intro wS hSw; (try dsimp only at hSw); go_simp; (try (with_reducible rfl)))
    try simp only [Act.put, List.setIfInBounds_toArray, List.set_cons_zero, List.set_cons_succ]
    refine wpAnyH_take (i := 13) (oi := { dst := some 96, op := Op.move (Operand.tmp 3), type := 3, pos := "outright.go:50", after := #[{ on := 6, ground := Ground.guard }], guard := some (6, false) }) (v := ?_) rfl (by kernel_rfl) (by kernel_rfl) (by kernel_rfl) (fun _ _ _ h => h) (Or.inl ⟨by rfl, ?_⟩) (by assumption) ?_
    rotate_left
    · (intro wS hSw; (try dsimp only at hSw); go_simp; (try (with_reducible rfl)))
    try simp only [Act.put, List.setIfInBounds_toArray, List.set_cons_zero, List.set_cons_succ]
    refine wpAnyH_take (i := 14) (oi := { dst := some 97, op := Op.binOp BinOp.mul 3 (Operand.tmp 96) (Operand.const (Value.int IntKind.i64 16)) 3, type := 3, pos := "outright.go:50", after := #[{ on := 13, ground := Ground.data }, { on := 6, ground := Ground.guard }], guard := some (6, false) }) (v := ?_) rfl (by kernel_rfl) (by kernel_rfl) (by kernel_rfl) (fun _ _ _ h => h) (Or.inl ⟨by rfl, ?_⟩) (by assumption) ?_
    rotate_left
    · (intro wS hSw; (try dsimp only at hSw); go_simp; (try (with_reducible rfl)))
    try simp only [Act.put, List.setIfInBounds_toArray, List.set_cons_zero, List.set_cons_succ]
    refine wpAnyH_take (i := 15) (oi := { dst := some 98, op := Op.slice 22 (Operand.tmp 95) none (some (Operand.tmp 97)) none, type := 22, pos := "outright.go:50", after := #[{ on := 12, ground := Ground.data }, { on := 14, ground := Ground.data }, { on := 6, ground := Ground.guard }], guard := some (6, false) }) (v := ?_) rfl (by kernel_rfl) (by kernel_rfl) (by kernel_rfl) (fun _ _ _ h => h) (Or.inl ⟨by rfl, ?_⟩) (by assumption) ?_
    rotate_left
    · (intro wS hSw; (try dsimp only at hSw); go_simp; (try (with_reducible rfl)))
    try simp only [Act.put, List.setIfInBounds_toArray, List.set_cons_zero, List.set_cons_succ]
    refine wpAnyH_ready (rs := [8]) (by kernel_rfl) (by simp) ?_
    refine AllReadyH.cons (o := { dst := some 91, op := Op.call { callee := Callee.value (Operand.func 16), args := #[Operand.tmp 90], argTypes := #[24] }, type := 22, pos := "outright.go:50", after := #[{ on := 7, ground := Ground.data }, { on := 6, ground := Ground.chain }, { on := 6, ground := Ground.guard }], guard := some (6, false) }) rfl (fun K hK => ?_) AllReadyH.nil
    go_simp
    refine (bytes_any o3 1 p F2 _ (HFI3.out.below hb0) HW.out.2.2.2).mono ?_
    rintro e w4 ⟨v4, rfl, ho4, hb4⟩
    have hb34 : Below w3.heap.size w3 w4 := hb0.trans (hb4.mono hb0.size)
    rw [HW.out.2.1] at ho4
    refine hK.out _ _ ?_ (fun hHeld => ?_)
    · exact hb34
    refine wpAnyH_mono (S2 := fun W' => Below w4.heap.size w4 W') (fun W' h => hb34.trans (h.mono hb34.size)) _ _ _ _ ?_
    have hs4 : Below w4.heap.size w4 w4 := Below.refl _ _
    have hcv4 : ∀ W', Below w4.heap.size w4 W' → (convert 22 9 v4).run Try.prog W' = .ok (.string (strOfNums (layL b k xt))) W' := fun W' h => own_str (own_step ho4 h)
    clear hK K
    try simp only [Act.put, List.setIfInBounds_toArray, List.set_cons_zero, List.set_cons_succ]
    refine wpAnyH_take (i := 9) (oi := { dst := some 92, op := Op.convert 22 9 (Operand.tmp 91), type := 9, pos := "outright.go:50", after := #[{ on := 8, ground := Ground.data }, { on := 6, ground := Ground.guard }], guard := some (6, false) }) (v := ?_) rfl (by kernel_rfl) (by kernel_rfl) (by kernel_rfl) (fun _ _ _ h => h) (Or.inl ⟨by rfl, ?_⟩) (by assumption) ?_
    rotate_left
    · (intro wS hSw; (try dsimp only at hSw); go_simp; (try (with_reducible rfl)))
    try simp only [Act.put, List.setIfInBounds_toArray, List.set_cons_zero, List.set_cons_succ]
    refine wpAnyH_ready (rs := [16]) (by kernel_rfl) (by simp) ?_
    refine AllReadyH.cons (o := { dst := some 99, op := Op.call { callee := Callee.value (Operand.func 15), args := #[Operand.tmp 93, Operand.tmp 94, Operand.tmp 98], argTypes := #[22, 3, 22] }, type := 22, pos := "outright.go:50", after := #[{ on := 10, ground := Ground.data }, { on := 11, ground := Ground.data }, { on := 15, ground := Ground.data }, { on := 8, ground := Ground.chain }, { on := 6, ground := Ground.guard }], guard := some (6, false) }) rfl (fun K hK => ?_) AllReadyH.nil
    go_simp
    have hB4 : Below w.heap.size w w4 := (HU3.out.below' hb34).below (by decide) (Nat.le_refl _) (fun _ _ => rfl)
    refine (refLay_any B cb b k X cx xt w4 (HRB.out.below hB4) (HCR.out _ (HRX.out.below hB4)) (by omega) (by omega) (by have := HXL.out; omega) HBT.out).mono ?_
    rintro e w5 ⟨v5, rfl, ho5, hb5⟩
    refine hK.out _ _ ?_ (fun hHeld => ?_)
    · exact hb5
    refine wpAnyH_mono (S2 := fun W' => Below w5.heap.size w5 W') (fun W' h => hb5.trans (h.mono hb5.size)) _ _ _ _ ?_
    have hs5 : Below w5.heap.size w5 w5 := Below.refl _ _
    have hcv5 : ∀ W', Below w5.heap.size w5 W' → (convert 22 9 v5).run Try.prog W' = .ok (.string (strOfNums (layL b k xt))) W' := fun W' h => own_str (own_step ho5 h)
    have hb35 : Below w3.heap.size w3 w5 := hb34.trans (hb5.mono hb34.size)
    have HU5 := Lib.hid (HU3.out.below' hb35)
    clear hK K
    try simp only [Act.put, List.setIfInBounds_toArray, List.set_cons_zero, List.set_cons_succ]
    refine wpAnyH_take (i := 17) (oi := { dst := some 100, op := Op.convert 22 9 (Operand.tmp 99), type := 9, pos := "outright.go:50", after := #[{ on := 16, ground := Ground.data }, { on := 6, ground := Ground.guard }], guard := some (6, false) }) (v := ?_) rfl (by kernel_rfl) (by kernel_rfl) (by kernel_rfl) (fun _ _ _ h => h) (Or.inl ⟨by rfl, ?_⟩) (by assumption) ?_
    rotate_left
    · (intro wS hSw; (try dsimp only at hSw); go_simp; (try (with_reducible rfl)))
    try simp only [Act.put, List.setIfInBounds_toArray, List.set_cons_zero, List.set_cons_succ]
    refine wpAnyH_take (i := 18) (oi := { dst := some 101, op := Op.binOp BinOp.neq 9 (Operand.tmp 92) (Operand.tmp 100) 9, type := 4, pos := "outright.go:50", after := #[{ on := 9, ground := Ground.data }, { on := 17, ground := Ground.data }, { on := 6, ground := Ground.guard }], guard := some (6, false) }) (v := ?_) rfl (by kernel_rfl) (by kernel_rfl) (by kernel_rfl) (fun _ _ _ h => h) (Or.inl ⟨by rfl, ?_⟩) (by assumption) ?_
    rotate_left
    · (intro wS hSw; (try dsimp only at hSw); go_simp; (try (with_reducible rfl)))
    try simp only [Act.put, List.setIfInBounds_toArray, List.set_cons_zero, List.set_cons_succ]
    refine wpAnyH_take (i := 19) (oi := { dst := some 102, op := Op.pick (Operand.tmp 89) (Operand.const (Value.bool true)) (Operand.tmp 101), type := 4, pos := "outright.go:50", after := #[{ on := 6, ground := Ground.data }, { on := 18, ground := Ground.data }], guard := none }) (v := ?_) rfl (by kernel_rfl) (by kernel_rfl) (by kernel_rfl) (fun _ _ _ h => h) (Or.inl ⟨by rfl, ?_⟩) (by assumption) ?_
    rotate_left
    · (intro wS hSw; (try dsimp only at hSw); go_simp; (try (with_reducible rfl)))
    try simp only [Act.put, List.setIfInBounds_toArray, List.set_cons_zero, List.set_cons_succ]
    refine wpAnyH_take (i := 20) (oi := { dst := some 103, op := Op.move (Operand.tmp 102), type := 4, pos := "outright.go:50", after := #[{ on := 19, ground := Ground.data }, { on := 16, ground := Ground.chain }], guard := none }) (v := ?_) rfl (by kernel_rfl) (by kernel_rfl) (by kernel_rfl) (fun _ _ _ h => h) (Or.inl ⟨by rfl, ?_⟩) (by assumption) ?_
    rotate_left
    · (intro wS hSw; (try dsimp only at hSw); go_simp; (try (with_reducible rfl)))
    try simp only [Act.put, List.setIfInBounds_toArray, List.set_cons_zero, List.set_cons_succ]
    refine wpAnyH_take (i := 21) (oi := { dst := some 104, op := Op.move (Operand.tmp 9), type := 24, pos := "outright.go:50", after := #[{ on := 20, ground := Ground.guard }], guard := some (20, false) }) (v := ?_) rfl (by kernel_rfl) (by kernel_rfl) (by kernel_rfl) (fun _ _ _ h => h) (Or.inl ⟨by rfl, ?_⟩) (by assumption) ?_
    rotate_left
    · (intro wS hSw; (try dsimp only at hSw); go_simp; (try (with_reducible rfl)))
    try simp only [Act.put, List.setIfInBounds_toArray, List.set_cons_zero, List.set_cons_succ]
    refine wpAnyH_ready (rs := [22]) (by kernel_rfl) (by simp) ?_
    refine AllReadyH.cons (o := { dst := some 105, op := Op.call { callee := Callee.value (Operand.func 13), args := #[Operand.tmp 104, Operand.const (Value.int IntKind.i64 0), Operand.const (Value.slice none 0 0)], argTypes := #[24, 3, 22] }, type := 29, pos := "outright.go:50", after := #[{ on := 21, ground := Ground.data }, { on := 20, ground := Ground.chain }, { on := 20, ground := Ground.guard }], guard := some (20, false) }) rfl (fun K hK => ?_) AllReadyH.nil
    go_simp
    refine (write_off_any o3 1 p F2 0 none 0 0 _ (HFI3.out.below hb35) HW.out.2.2.1).mono ?_
    rintro e wl ⟨rfl, rfl⟩
    refine hK.out _ _ ?_ (fun hHeld => ?_)
    · exact hs5
    clear hK K
    try simp only [Act.put, List.setIfInBounds_toArray, List.set_cons_zero, List.set_cons_succ]
    refine wpAnyH_take (i := 23) (oi := { dst := some 106, op := Op.binOp BinOp.neq 29 (Operand.tmp 105) (Operand.const (Value.int IntKind.i64 6)) 29, type := 4, pos := "outright.go:50", after := #[{ on := 22, ground := Ground.data }, { on := 20, ground := Ground.guard }], guard := some (20, false) }) (v := ?_) rfl (by kernel_rfl) (by kernel_rfl) (by kernel_rfl) (fun _ _ _ h => h) (Or.inl ⟨by rfl, ?_⟩) (by assumption) ?_
    rotate_left
    · (intro wS hSw; (try dsimp only at hSw); go_simp; (try (with_reducible rfl)))
    try simp only [Act.put, List.setIfInBounds_toArray, List.set_cons_zero, List.set_cons_succ]
    refine wpAnyH_take (i := 24) (oi := { dst := some 107, op := Op.pick (Operand.tmp 103) (Operand.const (Value.bool true)) (Operand.tmp 106), type := 4, pos := "outright.go:50", after := #[{ on := 20, ground := Ground.data }, { on := 23, ground := Ground.data }], guard := none }) (v := ?_) rfl (by kernel_rfl) (by kernel_rfl) (by kernel_rfl) (fun _ _ _ h => h) (Or.inl ⟨by rfl, ?_⟩) (by assumption) ?_
    rotate_left
    · (intro wS hSw; (try dsimp only at hSw); go_simp; (try (with_reducible rfl)))
    try simp only [Act.put, List.setIfInBounds_toArray, List.set_cons_zero, List.set_cons_succ]
    refine wpAnyH_done (by kernel_rfl) ?_ _
    go_wp2_with fail
    refine (start_any o3 1 (by decide) (by decide) p F2 _ (HFI3.out.below hb35) HU5.out.fr).mono ?_
    rintro e w7 ⟨rfl, hu7, hf7⟩
    rw [← HF4.out] at hf7
    have HFI7 := Lib.hid hf7
    have HU7 := Lib.hid (HU5.out.trans hu7)
    clear hu7 hf7
    go_wp2_with fail
    refine wp_region_held_drew (S := fun _ => True) (by kernel_rfl) trivial (fun hHeld => ?_)
    refine wpAnyH_take (i := 0) (oi := { dst := some 110, op := Op.move (Operand.tmp 9), type := 24, pos := "outright.go:54", after := #[], guard := none }) (v := ?_) rfl (by kernel_rfl) (by kernel_rfl) (by kernel_rfl) (fun _ _ _ h => h) (Or.inl ⟨by rfl, ?_⟩) (by assumption) ?_
    rotate_left
    · (intro wS hSw; (try dsimp only at hSw); go_simp; (try (with_reducible rfl)))
    try simp only [Act.put, List.setIfInBounds_toArray, List.set_cons_zero, List.set_cons_succ]
    refine wpAnyH_take (i := 1) (oi := { dst := some 111, op := Op.move (Operand.tmp 1), type := 3, pos := "outright.go:54", after := #[], guard := none }) (v := ?_) rfl (by kernel_rfl) (by kernel_rfl) (by kernel_rfl) (fun _ _ _ h => h) (Or.inl ⟨by rfl, ?_⟩) (by assumption) ?_
    rotate_left
    · (intro wS hSw; (try dsimp only at hSw); go_simp; (try (with_reducible rfl)))
    try simp only [Act.put, List.setIfInBounds_toArray, List.set_cons_zero, List.set_cons_succ]
    refine wpAnyH_take (i := 2) (oi := { dst := some 112, op := Op.move (Operand.tmp 2), type := 22, pos := "outright.go:54", after := #[], guard := none }) (v := ?_) rfl (by kernel_rfl) (by kernel_rfl) (by kernel_rfl) (fun _ _ _ h => h) (Or.inl ⟨by rfl, ?_⟩) (by assumption) ?_
    rotate_left
    · (intro wS hSw; (try dsimp only at hSw); go_simp; (try (with_reducible rfl)))
    try simp only [Act.put, List.setIfInBounds_toArray, List.set_cons_zero, List.set_cons_succ]
    refine wpAnyH_ready (rs := [3]) (by kernel_rfl) (by simp) ?_
    refine AllReadyH.cons (o := { dst := some 113, op := Op.call { callee := Callee.value (Operand.func 13), args := #[Operand.tmp 110, Operand.tmp 111, Operand.tmp 112], argTypes := #[24, 3, 22] }, type := 29, pos := "outright.go:54", after := #[{ on := 0, ground := Ground.data }, { on := 1, ground := Ground.data }, { on := 2, ground := Ground.data }], guard := none }) rfl (fun K hK => ?_) AllReadyH.nil
    go_simp
    refine (write_any o3 1 (by decide) (by decide) p F4 k X cx x w7.drew (HFI7.out.below (Below.refl w7.heap.size w7).drew) (HU7.out.below' (Below.refl w7.heap.size w7).drew).fr HOK4.out (by omega) (by omega) ((HU7.out.below' (Below.refl w7.heap.size w7).drew).rd HRX.out (fun _ _ _ => by decide)) ((HU7.out.below' (Below.refl w7.heap.size w7).drew).arg (by decide) HRX.out) (by omega) hcx HR4.out).mono ?_
    rintro e w8 ⟨o8, rfl, hu8, hf8⟩
    rw [HV.out.1]
    rw [← HF5.out] at hf8
    have HFI8 := Lib.hid hf8
    have HU8 := Lib.hid ((HU7.out.below' (Below.refl w7.heap.size w7).drew).trans hu8)
    clear hu8 hf8
    refine hK.out _ _ ?_ (fun hHeld => ?_)
    · exact trivial
    refine wpAnyH_mono (S2 := fun W' => Below w8.heap.size w8 W') (fun _ _ => trivial) _ _ _ _ ?_
    have hs8 : Below w8.heap.size w8 w8 := Below.refl _ _
    clear hK K
    try simp only [Act.put, List.setIfInBounds_toArray, List.set_cons_zero, List.set_cons_succ]
    refine wpAnyH_take (i := 4) (oi := { dst := some 114, op := Op.binOp BinOp.eql 29 (Operand.tmp 113) (Operand.const (Value.int IntKind.i64 0)) 29, type := 4, pos := "outright.go:54", after := #[{ on := 3, ground := Ground.data }], guard := none }) (v := ?_) rfl (by kernel_rfl) (by kernel_rfl) (by kernel_rfl) (fun _ _ _ h => h) (Or.inl ⟨by rfl, ?_⟩) (by assumption) ?_
    rotate_left
    · (intro wS hSw; (try dsimp only at hSw); go_simp; (try (with_reducible rfl)))
    try simp only [Act.put, List.setIfInBounds_toArray, List.set_cons_zero, List.set_cons_succ]
    refine wpAnyH_take (i := 5) (oi := { dst := some 115, op := Op.move (Operand.tmp 114), type := 4, pos := "outright.go:54", after := #[{ on := 4, ground := Ground.data }, { on := 3, ground := Ground.chain }], guard := none }) (v := ?_) rfl (by kernel_rfl) (by kernel_rfl) (by kernel_rfl) (fun _ _ _ h => h) (Or.inl ⟨by rfl, ?_⟩) (by assumption) ?_
    rotate_left
    · (intro wS hSw; (try dsimp only at hSw); go_simp; (try (with_reducible rfl)))
    try simp only [Act.put, List.setIfInBounds_toArray, List.set_cons_zero, List.set_cons_succ]
    refine wpAnyH_take (i := 6) (oi := { dst := some 116, op := Op.move (Operand.tmp 9), type := 24, pos := "outright.go:54", after := #[{ on := 5, ground := Ground.guard }], guard := some (5, true) }) (v := ?_) rfl (by kernel_rfl) (by kernel_rfl) (by kernel_rfl) (fun _ _ _ h => h) (Or.inl ⟨by rfl, ?_⟩) (by assumption) ?_
    rotate_left
    · (intro wS hSw; (try dsimp only at hSw); go_simp; (try (with_reducible rfl)))
    try simp only [Act.put, List.setIfInBounds_toArray, List.set_cons_zero, List.set_cons_succ]
    refine wpAnyH_take (i := 9) (oi := { dst := some 119, op := Op.move (Operand.tmp 0), type := 22, pos := "outright.go:54", after := #[{ on := 5, ground := Ground.guard }], guard := some (5, true) }) (v := ?_) rfl (by kernel_rfl) (by kernel_rfl) (by kernel_rfl) (fun _ _ _ h => h) (Or.inl ⟨by rfl, ?_⟩) (by assumption) ?_
    rotate_left
    · (intro wS hSw; (try dsimp only at hSw); go_simp; (try (with_reducible rfl)))
    try simp only [Act.put, List.setIfInBounds_toArray, List.set_cons_zero, List.set_cons_succ]
    refine wpAnyH_take (i := 10) (oi := { dst := some 120, op := Op.move (Operand.tmp 1), type := 3, pos := "outright.go:54", after := #[{ on := 5, ground := Ground.guard }], guard := some (5, true) }) (v := ?_) rfl (by kernel_rfl) (by kernel_rfl) (by kernel_rfl) (fun _ _ _ h => h) (Or.inl ⟨by rfl, ?_⟩) (by assumption) ?_
    rotate_left
    · (intro wS hSw; (try dsimp only at hSw); go_simp; (try (with_reducible rfl)))
    try simp only [Act.put, List.setIfInBounds_toArray, List.set_cons_zero, List.set_cons_succ]
    refine wpAnyH_take (i := 11) (oi := { dst := some 121, op := Op.move (Operand.tmp 2), type := 22, pos := "outright.go:54", after := #[{ on := 5, ground := Ground.guard }], guard := some (5, true) }) (v := ?_) rfl (by kernel_rfl) (by kernel_rfl) (by kernel_rfl) (fun _ _ _ h => h) (Or.inl ⟨by rfl, ?_⟩) (by assumption) ?_
    rotate_left
    · (intro wS hSw; (try dsimp only at hSw); go_simp; (try (with_reducible rfl)))
    try simp only [Act.put, List.setIfInBounds_toArray, List.set_cons_zero, List.set_cons_succ]
    refine wpAnyH_ready (rs := [7]) (by kernel_rfl) (by simp) ?_
    refine AllReadyH.cons (o := { dst := some 117, op := Op.call { callee := Callee.value (Operand.func 16), args := #[Operand.tmp 116], argTypes := #[24] }, type := 22, pos := "outright.go:54", after := #[{ on := 6, ground := Ground.data }, { on := 5, ground := Ground.chain }, { on := 5, ground := Ground.guard }], guard := some (5, true) }) rfl (fun K hK => ?_) AllReadyH.nil
    go_simp
    refine (bytes_any o8 1 p F5 _ HFI8.out HV.out.2.2).mono ?_
    rintro e w9 ⟨v9, rfl, ho9, hb9⟩
    rw [HV.out.2.1] at ho9
    refine hK.out _ _ ?_ (fun hHeld => ?_)
    · exact hb9
    refine wpAnyH_mono (S2 := fun W' => Below w9.heap.size w9 W') (fun W' h => hb9.trans (h.mono hb9.size)) _ _ _ _ ?_
    have hs9 : Below w9.heap.size w9 w9 := Below.refl _ _
    have hcv9 : ∀ W', Below w9.heap.size w9 W' → (convert 22 9 v9).run Try.prog W' = .ok (.string (strOfNums (layL b k x))) W' := fun W' h => own_str (own_step ho9 h)
    clear hK K
    try simp only [Act.put, List.setIfInBounds_toArray, List.set_cons_zero, List.set_cons_succ]
    refine wpAnyH_take (i := 8) (oi := { dst := some 118, op := Op.convert 22 9 (Operand.tmp 117), type := 9, pos := "outright.go:54", after := #[{ on := 7, ground := Ground.data }, { on := 5, ground := Ground.guard }], guard := some (5, true) }) (v := ?_) rfl (by kernel_rfl) (by kernel_rfl) (by kernel_rfl) (fun _ _ _ h => h) (Or.inl ⟨by rfl, ?_⟩) (by assumption) ?_
    rotate_left
    · (intro wS hSw; (try dsimp only at hSw); go_simp; (try (with_reducible rfl)))
    try simp only [Act.put, List.setIfInBounds_toArray, List.set_cons_zero, List.set_cons_succ]
    refine wpAnyH_ready (rs := [12]) (by kernel_rfl) (by simp) ?_
    refine AllReadyH.cons (o := { dst := some 122, op := Op.call { callee := Callee.value (Operand.func 15), args := #[Operand.tmp 119, Operand.tmp 120, Operand.tmp 121], argTypes := #[22, 3, 22] }, type := 22, pos := "outright.go:54", after := #[{ on := 9, ground := Ground.data }, { on := 10, ground := Ground.data }, { on := 11, ground := Ground.data }, { on := 7, ground := Ground.chain }, { on := 5, ground := Ground.guard }], guard := some (5, true) }) rfl (fun K hK => ?_) AllReadyH.nil
    go_simp
    have hB9 : Below w.heap.size w w9 := (HU8.out.below' hb9).below (by decide) (Nat.le_refl _) (fun _ _ => rfl)
    refine (refLay_any B cb b k X cx x w9 (HRB.out.below hB9) (HRX.out.below hB9) (by omega) (by omega) (by omega) HBX.out).mono ?_
    rintro e w10 ⟨v10, rfl, ho10, hb10⟩
    refine hK.out _ _ ?_ (fun hHeld => ?_)
    · exact hb10
    refine wpAnyH_mono (S2 := fun W' => Below w10.heap.size w10 W') (fun W' h => hb10.trans (h.mono hb10.size)) _ _ _ _ ?_
    have hs10 : Below w10.heap.size w10 w10 := Below.refl _ _
    have hcv10 : ∀ W', Below w10.heap.size w10 W' → (convert 22 9 v10).run Try.prog W' = .ok (.string (strOfNums (layL b k x))) W' := fun W' h => own_str (own_step ho10 h)
    clear hK K
    try simp only [Act.put, List.setIfInBounds_toArray, List.set_cons_zero, List.set_cons_succ]
    refine wpAnyH_take (i := 13) (oi := { dst := some 123, op := Op.convert 22 9 (Operand.tmp 122), type := 9, pos := "outright.go:54", after := #[{ on := 12, ground := Ground.data }, { on := 5, ground := Ground.guard }], guard := some (5, true) }) (v := ?_) rfl (by kernel_rfl) (by kernel_rfl) (by kernel_rfl) (fun _ _ _ h => h) (Or.inl ⟨by rfl, ?_⟩) (by assumption) ?_
    rotate_left
    · (intro wS hSw; (try dsimp only at hSw); go_simp; (try (with_reducible rfl)))
    try simp only [Act.put, List.setIfInBounds_toArray, List.set_cons_zero, List.set_cons_succ]
    refine wpAnyH_take (i := 14) (oi := { dst := some 124, op := Op.binOp BinOp.eql 9 (Operand.tmp 118) (Operand.tmp 123) 9, type := 4, pos := "outright.go:54", after := #[{ on := 8, ground := Ground.data }, { on := 13, ground := Ground.data }, { on := 5, ground := Ground.guard }], guard := some (5, true) }) (v := ?_) rfl (by kernel_rfl) (by kernel_rfl) (by kernel_rfl) (fun _ _ _ h => h) (Or.inl ⟨by rfl, ?_⟩) (by assumption) ?_
    rotate_left
    · (intro wS hSw; (try dsimp only at hSw); go_simp; (try (with_reducible rfl)))
    try simp only [Act.put, List.setIfInBounds_toArray, List.set_cons_zero, List.set_cons_succ]
    refine wpAnyH_take (i := 15) (oi := { dst := some 125, op := Op.pick (Operand.tmp 115) (Operand.tmp 124) (Operand.const (Value.bool false)), type := 4, pos := "outright.go:54", after := #[{ on := 5, ground := Ground.data }, { on := 14, ground := Ground.data }], guard := none }) (v := ?_) rfl (by kernel_rfl) (by kernel_rfl) (by kernel_rfl) (fun _ _ _ h => h) (Or.inl ⟨by rfl, ?_⟩) (by assumption) ?_
    rotate_left
    · (intro wS hSw; (try dsimp only at hSw); go_simp; (try (with_reducible rfl)))
    try simp only [Act.put, List.setIfInBounds_toArray, List.set_cons_zero, List.set_cons_succ]
    refine wpAnyH_take (i := 16) (oi := { dst := some 126, op := Op.move (Operand.tmp 125), type := 4, pos := "outright.go:54", after := #[{ on := 15, ground := Ground.data }, { on := 12, ground := Ground.chain }], guard := none }) (v := ?_) rfl (by kernel_rfl) (by kernel_rfl) (by kernel_rfl) (fun _ _ _ h => h) (Or.inl ⟨by rfl, ?_⟩) (by assumption) ?_
    rotate_left
    · (intro wS hSw; (try dsimp only at hSw); go_simp; (try (with_reducible rfl)))
    try simp only [Act.put, List.setIfInBounds_toArray, List.set_cons_zero, List.set_cons_succ]
    refine wpAnyH_ready (rs := [17]) (by kernel_rfl) (by simp) ?_
    refine AllReadyH.cons (o := { dst := some 127, op := Op.call { callee := Callee.value (Operand.func 11), args := #[], argTypes := #[] }, type := 4, pos := "outright.go:54", after := #[{ on := 16, ground := Ground.chain }, { on := 16, ground := Ground.guard }], guard := some (16, true) }) rfl (fun K hK => ?_) AllReadyH.nil
    go_simp
    refine (lives03 _).mono ?_
    rintro e w11 ⟨rfl, hb11⟩
    refine hK.out _ _ ?_ (fun hHeld => ?_)
    · exact hb11
    clear hK K
    try simp only [Act.put, List.setIfInBounds_toArray, List.set_cons_zero, List.set_cons_succ]
    refine wpAnyH_take (i := 18) (oi := { dst := some 128, op := Op.pick (Operand.tmp 126) (Operand.tmp 127) (Operand.const (Value.bool false)), type := 4, pos := "outright.go:54", after := #[{ on := 16, ground := Ground.data }, { on := 17, ground := Ground.data }], guard := none }) (v := ?_) rfl (by kernel_rfl) (by kernel_rfl) (by kernel_rfl) (fun _ _ _ h => h) (Or.inl ⟨by rfl, ?_⟩) (by assumption) ?_
    rotate_left
    · (intro wS hSw; (try dsimp only at hSw); go_simp; (try (with_reducible rfl)))
    try simp only [Act.put, List.setIfInBounds_toArray, List.set_cons_zero, List.set_cons_succ]
    refine wpAnyH_take (i := 19) (oi := { dst := some 8, op := Op.assign (Operand.tmp 128), type := 4, pos := "outright.go:54", after := #[{ on := 18, ground := Ground.data }, { on := 17, ground := Ground.chain }, { on := 0, ground := Ground.phase }, { on := 1, ground := Ground.phase }, { on := 2, ground := Ground.phase }, { on := 3, ground := Ground.phase }, { on := 4, ground := Ground.phase }, { on := 5, ground := Ground.phase }, { on := 6, ground := Ground.phase }, { on := 7, ground := Ground.phase }, { on := 8, ground := Ground.phase }, { on := 9, ground := Ground.phase }, { on := 10, ground := Ground.phase }, { on := 11, ground := Ground.phase }, { on := 12, ground := Ground.phase }, { on := 13, ground := Ground.phase }, { on := 14, ground := Ground.phase }, { on := 15, ground := Ground.phase }, { on := 16, ground := Ground.phase }, { on := 17, ground := Ground.phase }, { on := 18, ground := Ground.phase }], guard := none }) (v := ?_) rfl (by kernel_rfl) (by kernel_rfl) (by kernel_rfl) (fun _ _ _ h => h) (Or.inl ⟨by rfl, ?_⟩) (by assumption) ?_
    rotate_left
    · (intro wS hSw; (try dsimp only at hSw); go_simp; (try (with_reducible rfl)))
    try simp only [Act.put, List.setIfInBounds_toArray, List.set_cons_zero, List.set_cons_succ]
    refine wpAnyH_done (by kernel_rfl) ?_ _
    go_wp2_with fail
    go_ret
    refine ⟨rfl, ?_⟩
    exact (((HU8.out.below' hb9).below' hb10).below' hb11).below (by decide) (Nat.le_refl _) (fun _ _ => rfl)
end Go.Proofs.Ytnmcmenjhmhfjaa
