/-
  slabvaultref16.Undo. No premise.
-/
import Derived.Test.YtdfpikimeihefaaFil6
import Derived.Test.YtdfpikimeihefaaFil4
import Derived.Test.YtdfpikimeihefaaUn2
namespace Go.Proofs.Ytdfpikimeihefaa
open Go.RowKit Go.Proofs.YtdfpikimeihefaaW.PrintWords

set_option maxRecDepth 100000 in
set_option maxHeartbeats 6400000 in
theorem refUndo_any (A : Option Addr) (c : Nat) (l : List Fl) (B : Option Addr) (cb : Nat) (b : List Int) (n : Int) (w : World) (hr : Fls w A l) (hrb : Rd w B b) (hb : Bts b) (hl : b.length ≤ 100000) :
    Calls Try.prog 19 #[.slice A l.length c, .slice B b.length cb, .int .i64 n] w (UdPost w l b n) := by
  have HR := Lib.hid hr
  have HRB := Lib.hid hrb
  have HBt := Lib.hid hb
  clear hr hrb hb
  obtain ⟨ck, hck⟩ : ∃ ck, ck = fck l := ⟨_, rfl⟩
  have HCK := Lib.hid hck
  clear hck
  by_cases hck : ck = 0
  · subst hck
    by_cases hn1 : n < 0
    · have HE := Lib.hid (show udR l b n = ([], 2) by unfold udR; rw [if_neg (by rw [← HCK.out]; decide), if_pos (.inl hn1)])
      go_enter Try.func19, Try.ntmps19
      go_wp2_with (go_at_call 11; refine (refCheck_any A c l w HR.out).mono ?_; rintro e w1 ⟨rfl, rfl⟩; rw [← HCK.out])
      go_ret2
      exact ⟨_, ret2 (by rw [HE.out]), by rw [HE.out]; exact World.ownsRow_nil _ _ _ _, Below.refl _ _⟩
    by_cases hn2 : 4096 < n
    · have HE := Lib.hid (show udR l b n = ([], 2) by unfold udR; rw [if_neg (by rw [← HCK.out]; decide), if_pos (.inr hn2)])
      go_enter Try.func19, Try.ntmps19
      go_wp2_with (go_at_call 11; refine (refCheck_any A c l w HR.out).mono ?_; rintro e w1 ⟨rfl, rfl⟩; rw [← HCK.out])
      go_ret2
      exact ⟨_, ret2 (by rw [HE.out]), by rw [HE.out]; exact World.ownsRow_nil _ _ _ _, Below.refl _ _⟩
    have HE := Lib.hid (show udR l b n = fin (und l.reverse b) n by unfold udR; rw [if_neg (by rw [← HCK.out]; decide), if_neg (by omega)])
    have HOK := Lib.hid (fun k hk => (ok_at HCK.out.symm (k := k) hk).1)
    have hf4 := fck_few HCK.out.symm
    have HO0 := Lib.hid (own_empty w w.heap.size (Nat.le_refl _))
    have HB0 := Lib.hid ((Below.refl w.heap.size w).alloc (Nat.le_refl _) (.cells #[] 5))
    go_enter Try.func19, Try.ntmps19
    go_wp2_with (first | (go_at_call 11; refine (refCheck_any A c l w HR.out).mono ?_; rintro e w1 ⟨rfl, rfl⟩; rw [← HCK.out]) | ((with_reducible refine gate_builtin (b := .append) (xs := #[.tmp 24, .tmp 25]) rfl ?_); refine app w.heap.size rfl _ _ rfl (.slice (some ⟨w.heap.size, 0, none⟩) 0 0) [] b B cb rfl rfl HO0.out (HRB.out.below HB0.out) (by simp) (by simp; omega) ?_; intro v0 w2 h1 h2; have HO := Lib.hid (show Own w2 w.heap.size v0 b from h1); have HB2 := Lib.hid (HB0.out.grown h2 (by simp) (by simp [Value.ownBlock])); clear h1 h2))
    go_loopw [9, 10] (fun y t wr => ∃ (k m : Nat) (v : Value) (x : List Int), k + m = l.length ∧ t = .int .i64 ((m : Int) - 1) ∧ y = v ∧ Hid (Own wr w.heap.size v x) ∧ Hid (Below w.heap.size w wr) ∧ Hid (und (l.reverse.drop k) x = und l.reverse b) ∧ x.length ≤ 100000 ∧ Hid (Bts x)) (fun _ t _ => (intOf t + 1).toNat)
    case atStart => exact ⟨0, l.length, v0, b, by omega, rfl, rfl, HO.out, HB2.out, rfl, hl, HBt.out⟩
    case round =>
      obtain ⟨k, m, v, x, hkm, rfl, rfl, HOk, HBk, HUN, hxl, HXB⟩ := hrel
      obtain ⟨Ax, cx, rfl, hox, hrx, hcx⟩ := own_split HOk.out
      have hrx' : Rd wr Ax x := hrx
      have HX := Lib.hid hrx'
      have HOX := Lib.hid hox
      clear hox hrx hrx' HOk
      rcases Nat.eq_zero_or_pos m with rfl | hm
      · have hun2 := und_fin (by have := HUN.out; rwa [show k = l.length from by omega] at this)
        by_cases hxn : (x.length : Int) = n
        · have HE2 := Lib.hid (show udR l b n = (x, 0) by rw [HE.out, hun2]; unfold fin; rw [if_pos rfl, if_pos hxn])
          clear hun2 hcx
          go_wp2_with fail
          go_ret2
          exact ⟨_, ret2 (by rw [HE2.out]), by rw [HE2.out]; exact HOX.out, HBk.out⟩
        · have HE2 := Lib.hid (show udR l b n = ([], 5) by rw [HE.out, hun2]; unfold fin; rw [if_pos rfl, if_neg hxn])
          clear hun2 hcx
          go_wp2_with fail
          go_ret2
          exact ⟨_, ret2 (by rw [HE2.out]), by rw [HE2.out]; exact World.ownsRow_nil _ _ _ _, HBk.out⟩
      · obtain ⟨j, rfl⟩ : ∃ j, m = j + 1 := ⟨m - 1, by omega⟩
        rw [show (((j + 1 : Nat) : Int) - 1) = (j : Int) from by omega]
        have hkl : k < l.length := by omega
        obtain ⟨ad, rfl, hc⟩ := (HR.out.below HBk.out).2 (by omega)
        obtain ⟨hc0, hc1⟩ := hc j (by omega)
        have hok : okF (l.getD j (0, 0)) = true := HOK.out _ (by omega)
        have hon := und_on hkl HUN.out
        have hoff := und_off hkl HUN.out
        unfold bkF at hon hoff
        rw [show l.length - 1 - k = j from by omega] at hon hoff
        obtain ⟨f, hf⟩ : ∃ f, f = l.getD j (0, 0) := ⟨_, rfl⟩
        rw [← hf] at hc0 hc1 hok hon hoff
        obtain ⟨kk, d⟩ := f
        simp only at hc0 hc1
        obtain ⟨hc2, hc3⟩ := snd_cell hc1
        have HFK := Lib.hid hok
        have HON := Lib.hid hon
        have HOFF := Lib.hid hoff
        have hjl : j < l.length := by omega
        have HKM := Lib.hid hkm
        clear hc hf hok hon hoff hkm HUN
        by_cases h1 : kk = 1
        · subst h1
          have hd : 1 ≤ d ∧ d ≤ 8 := by have := okF_iff.1 HFK.out; simp only at this; omega
          have HU := Lib.hid (show un1 (1, d) x = (mxL unshL d x, 0) by have hE0 : mxE d = 0 := (by unfold mxE; rw [if_pos hd]); simp [un1, hE0])
          go_wp2_with fail
          refine (refUnshuffle_any Ax cx x d _ HX.out hcx (by omega)).mono ?_
          rintro e w4 ⟨v4, rfl, ho4, hb4⟩
          have HO4 := Lib.hid (own_weaken ho4 HBk.out.size)
          have HB4 := Lib.hid (HBk.out.trans (hb4.mono HBk.out.size))
          clear ho4 hb4 hc0 hc1 hc2 hc3
          go_wp2_with fail
          go_roundw
          case rel => exact ⟨k + 1, j, v4, mxL unshL d x, by have := HKM.out; omega, rfl, rfl, HO4.out, HB4.out, by have := HON.out (by rw [HU.out]); rw [HU.out] at this; exact this, by have := un1_len (1, d) x hxl; rw [HU.out] at this; exact this, by have := un1_bts' (1, d) HXB.out; rw [HU.out] at this; exact this⟩
          case measure => simp [intOf]
        by_cases h2 : kk = 2
        · subst h2
          have hd : 1 ≤ d ∧ d ≤ 8 := by have := okF_iff.1 HFK.out; simp only at this; omega
          have HU := Lib.hid (show un1 (2, d) x = (mxL undelL d x, 0) by have hE0 : mxE d = 0 := (by unfold mxE; rw [if_pos hd]); simp [un1, hE0])
          go_wp2_with fail
          refine (refUndelta_any Ax cx x d _ HX.out HXB.out hcx (by omega)).mono ?_
          rintro e w4 ⟨v4, rfl, ho4, hb4⟩
          have HO4 := Lib.hid (own_weaken ho4 HBk.out.size)
          have HB4 := Lib.hid (HBk.out.trans (hb4.mono HBk.out.size))
          clear ho4 hb4 hc0 hc1 hc2 hc3
          go_wp2_with fail
          go_roundw
          case rel => exact ⟨k + 1, j, v4, mxL undelL d x, by have := HKM.out; omega, rfl, rfl, HO4.out, HB4.out, by have := HON.out (by rw [HU.out]); rw [HU.out] at this; exact this, by have := un1_len (2, d) x hxl; rw [HU.out] at this; exact this, by have := un1_bts' (2, d) HXB.out; rw [HU.out] at this; exact this⟩
          case measure => simp [intOf]
        by_cases h3 : kk = 3
        · subst h3
          obtain rfl : d = 0 := by have := okF_iff.1 HFK.out; simp only at this; omega
          have HU := Lib.hid (show un1 (3, 0) x = upk x 65536 by simp [un1])
          go_wp2_with fail
          refine (refUnpack_any Ax cx x 65536 _ HX.out HXB.out hcx (by omega)).mono ?_
          rintro e w4 ⟨v4, rfl, ho4, hb4⟩
          have HO4 := Lib.hid (own_weaken ho4 HBk.out.size)
          have HB4 := Lib.hid (HBk.out.trans (hb4.mono HBk.out.size))
          clear ho4 hb4 hc0 hc1 hc2 hc3
          obtain ⟨er, her⟩ : ∃ er, er = (upk x 65536).2 := ⟨_, rfl⟩
          rw [← her]
          have HER := Lib.hid her
          clear her
          by_cases he : er = 0
          · subst he
            go_wp2_with fail
            go_roundw
            case rel => exact ⟨k + 1, j, v4, (upk x 65536).1, by have := HKM.out; omega, rfl, rfl, HO4.out, HB4.out, by have := HON.out (by rw [HU.out]; exact HER.out.symm); rw [HU.out] at this; exact this, by have := un1_len (3, 0) x hxl; rw [HU.out] at this; exact this, by have := un1_bts' (3, 0) HXB.out; rw [HU.out] at this; exact this⟩
            case measure => simp [intOf]
          · have HE2 := Lib.hid (show udR l b n = ([], 5) by rw [HE.out, HOFF.out (by rw [HU.out, ← HER.out]; exact he)]; unfold fin; rw [if_neg (by decide)])
            go_wp2_with fail
            go_ret2
            exact ⟨_, ret2 (by rw [HE2.out]), by rw [HE2.out]; exact World.ownsRow_nil _ _ _ _, HB4.out⟩
        have h4 : kk = 4 := by have := okF_iff.1 HFK.out; simp only at this; omega
        subst h4
        obtain rfl : d = 0 := by have := okF_iff.1 HFK.out; simp only at this; omega
        by_cases h4l : x.length < 4
        · have HE2 := Lib.hid (show udR l b n = ([], 5) by rw [HE.out, HOFF.out (by rw [show un1 (4, 0) x = usF x from by simp [un1], usF_no h4l]; decide)]; unfold fin; rw [if_neg (by decide)])
          go_upto_region 20 with (fail)
          go_cut [88] from 30 to 93 (fun q wc => q = .bool true ∧ Hid (Below wr.heap.size wr wc))
          case first =>
            have hb00 : Below wr.heap.size wr wr.drew := (Below.refl wr.heap.size wr).drew
            have hlt0 : decide ((x.length : Int) - 4 < 0) = true := decide_eq_true (by omega)
            refine wp_region_held_drew (S := fun W' => Below wr.heap.size wr W') (by kernel_rfl) hb00 (fun hHeld => ?_)
            refine wpAnyH_take (i := 0) (oi := { dst := some 75, op := Op.move (Operand.tmp 12), type := 3, pos := "ref.go:103", after := #[], guard := none }) (v := ?_) rfl (by kernel_rfl) (by kernel_rfl) (by kernel_rfl) (fun _ _ _ h => h) (Or.inl ⟨by rfl, ?_⟩) (by assumption) ?_
            rotate_left
            · (intro wS hSw; (try dsimp only at hSw); go_simp; (try (with_reducible rfl)))
            try simp only [Act.put, List.setIfInBounds_toArray, List.set_cons_zero, List.set_cons_succ]
            refine wpAnyH_take (i := 1) (oi := { dst := some 76, op := Op.binOp BinOp.lss 3 (Operand.tmp 75) (Operand.const (Value.int IntKind.i64 0)) 3, type := 4, pos := "ref.go:103", after := #[{ on := 0, ground := Ground.data }], guard := none }) (v := ?_) rfl (by kernel_rfl) (by kernel_rfl) (by kernel_rfl) (fun _ _ _ h => h) (Or.inl ⟨by rfl, ?_⟩) (by assumption) ?_
            rotate_left
            · (intro wS hSw; (try dsimp only at hSw); go_simp; (try (with_reducible rfl)))
            try simp only [Act.put, List.setIfInBounds_toArray, List.set_cons_zero, List.set_cons_succ]
            refine wpAnyH_take (i := 2) (oi := { dst := some 77, op := Op.move (Operand.tmp 76), type := 4, pos := "ref.go:103", after := #[{ on := 1, ground := Ground.data }], guard := none }) (v := ?_) rfl (by kernel_rfl) (by kernel_rfl) (by kernel_rfl) (fun _ _ _ h => h) (Or.inl ⟨by rfl, ?_⟩) (by assumption) ?_
            rotate_left
            · (intro wS hSw; (try dsimp only at hSw); go_simp; (try (with_reducible rfl)))
            try simp only [Act.put, List.setIfInBounds_toArray, List.set_cons_zero, List.set_cons_succ]
            refine wpAnyH_take (i := 3) (oi := { dst := some 78, op := Op.move (Operand.tmp 9), type := 28, pos := "ref.go:103", after := #[{ on := 2, ground := Ground.guard }], guard := some (2, false) }) (v := undef) rfl (by kernel_rfl) (by kernel_rfl) (by kernel_rfl) (fun _ _ _ h => h) (Or.inr ⟨by rfl, rfl⟩) (by assumption) ?_
            try simp only [Act.put, List.setIfInBounds_toArray, List.set_cons_zero, List.set_cons_succ]
            refine wpAnyH_take (i := 4) (oi := { dst := some 79, op := Op.move (Operand.tmp 12), type := 3, pos := "ref.go:103", after := #[{ on := 2, ground := Ground.guard }], guard := some (2, false) }) (v := undef) rfl (by kernel_rfl) (by kernel_rfl) (by kernel_rfl) (fun _ _ _ h => h) (Or.inr ⟨by rfl, rfl⟩) (by assumption) ?_
            try simp only [Act.put, List.setIfInBounds_toArray, List.set_cons_zero, List.set_cons_succ]
            refine wpAnyH_take (i := 5) (oi := { dst := some 80, op := Op.slice 28 (Operand.tmp 78) none (some (Operand.tmp 79)) none, type := 28, pos := "ref.go:103", after := #[{ on := 3, ground := Ground.data }, { on := 4, ground := Ground.data }, { on := 2, ground := Ground.guard }], guard := some (2, false) }) (v := undef) rfl (by kernel_rfl) (by kernel_rfl) (by kernel_rfl) (fun _ _ _ h => h) (Or.inr ⟨by rfl, rfl⟩) (by assumption) ?_
            try simp only [Act.put, List.setIfInBounds_toArray, List.set_cons_zero, List.set_cons_succ]
            refine wpAnyH_take (i := 6) (oi := { dst := some 81, op := Op.call { callee := Callee.value (Operand.func 25), args := #[Operand.tmp 80], argTypes := #[28] }, type := 28, pos := "ref.go:103", after := #[{ on := 5, ground := Ground.data }, { on := 2, ground := Ground.chain }, { on := 2, ground := Ground.guard }], guard := some (2, false) }) (v := undef) rfl (by kernel_rfl) (by kernel_rfl) (by kernel_rfl) (fun _ _ _ h => h) (Or.inr ⟨by rfl, rfl⟩) (by assumption) ?_
            try simp only [Act.put, List.setIfInBounds_toArray, List.set_cons_zero, List.set_cons_succ]
            refine wpAnyH_take (i := 7) (oi := { dst := some 82, op := Op.convert 28 9 (Operand.tmp 81), type := 9, pos := "ref.go:103", after := #[{ on := 6, ground := Ground.data }, { on := 2, ground := Ground.guard }], guard := some (2, false) }) (v := undef) rfl (by kernel_rfl) (by kernel_rfl) (by kernel_rfl) (fun _ _ _ h => h) (Or.inr ⟨by rfl, rfl⟩) (by assumption) ?_
            try simp only [Act.put, List.setIfInBounds_toArray, List.set_cons_zero, List.set_cons_succ]
            refine wpAnyH_take (i := 8) (oi := { dst := some 83, op := Op.move (Operand.tmp 9), type := 28, pos := "ref.go:103", after := #[{ on := 2, ground := Ground.guard }], guard := some (2, false) }) (v := undef) rfl (by kernel_rfl) (by kernel_rfl) (by kernel_rfl) (fun _ _ _ h => h) (Or.inr ⟨by rfl, rfl⟩) (by assumption) ?_
            try simp only [Act.put, List.setIfInBounds_toArray, List.set_cons_zero, List.set_cons_succ]
            refine wpAnyH_take (i := 9) (oi := { dst := some 84, op := Op.move (Operand.tmp 12), type := 3, pos := "ref.go:103", after := #[{ on := 2, ground := Ground.guard }], guard := some (2, false) }) (v := undef) rfl (by kernel_rfl) (by kernel_rfl) (by kernel_rfl) (fun _ _ _ h => h) (Or.inr ⟨by rfl, rfl⟩) (by assumption) ?_
            try simp only [Act.put, List.setIfInBounds_toArray, List.set_cons_zero, List.set_cons_succ]
            refine wpAnyH_take (i := 10) (oi := { dst := some 85, op := Op.slice 28 (Operand.tmp 83) (some (Operand.tmp 84)) none none, type := 28, pos := "ref.go:103", after := #[{ on := 8, ground := Ground.data }, { on := 9, ground := Ground.data }, { on := 2, ground := Ground.guard }], guard := some (2, false) }) (v := undef) rfl (by kernel_rfl) (by kernel_rfl) (by kernel_rfl) (fun _ _ _ h => h) (Or.inr ⟨by rfl, rfl⟩) (by assumption) ?_
            try simp only [Act.put, List.setIfInBounds_toArray, List.set_cons_zero, List.set_cons_succ]
            refine wpAnyH_take (i := 11) (oi := { dst := some 86, op := Op.convert 28 9 (Operand.tmp 85), type := 9, pos := "ref.go:103", after := #[{ on := 10, ground := Ground.data }, { on := 2, ground := Ground.guard }], guard := some (2, false) }) (v := undef) rfl (by kernel_rfl) (by kernel_rfl) (by kernel_rfl) (fun _ _ _ h => h) (Or.inr ⟨by rfl, rfl⟩) (by assumption) ?_
            try simp only [Act.put, List.setIfInBounds_toArray, List.set_cons_zero, List.set_cons_succ]
            refine wpAnyH_take (i := 12) (oi := { dst := some 87, op := Op.binOp BinOp.neq 9 (Operand.tmp 82) (Operand.tmp 86) 9, type := 4, pos := "ref.go:103", after := #[{ on := 7, ground := Ground.data }, { on := 11, ground := Ground.data }, { on := 2, ground := Ground.guard }], guard := some (2, false) }) (v := undef) rfl (by kernel_rfl) (by kernel_rfl) (by kernel_rfl) (fun _ _ _ h => h) (Or.inr ⟨by rfl, rfl⟩) (by assumption) ?_
            try simp only [Act.put, List.setIfInBounds_toArray, List.set_cons_zero, List.set_cons_succ]
            refine wpAnyH_take (i := 13) (oi := { dst := some 88, op := Op.pick (Operand.tmp 77) (Operand.const (Value.bool true)) (Operand.tmp 87), type := 4, pos := "ref.go:103", after := #[{ on := 2, ground := Ground.data }, { on := 12, ground := Ground.data }], guard := none }) (v := ?_) rfl (by kernel_rfl) (by kernel_rfl) (by kernel_rfl) (fun _ _ _ h => h) (Or.inl ⟨by rfl, ?_⟩) (by assumption) ?_
            rotate_left
            · (intro wS hSw; (try dsimp only at hSw); go_simp; (try (with_reducible rfl)))
            try simp only [Act.put, List.setIfInBounds_toArray, List.set_cons_zero, List.set_cons_succ]
            refine wpAnyH_done (by kernel_rfl) ?_ _
            go_wp2_with fail
            go_meet
            case rel => exact ⟨rfl, hb00⟩
          case rest =>
            obtain ⟨rfl, HB4⟩ := hcut
            go_wp2_with fail
            go_ret2
            exact ⟨_, ret2 (by rw [HE2.out]), by rw [HE2.out]; exact World.ownsRow_nil _ _ _ _, HBk.out.trans (HB4.out.mono HBk.out.size)⟩
        · have hur := usF_ref x h4l
          have hyes := usF_yes h4l
          have hbad := usF_bad h4l
          obtain ⟨hcut1, hrd1⟩ := fcut_pre Ax x cx ((x.length : Int) - 4) (by omega) (by omega) hcx
          obtain ⟨A2, hcut2, hrd2, hcc2⟩ := cut_suf Ax x cx ((x.length : Int) - 4) (by omega) (by omega) hcx
          rw [show ((x.length : Int) - 4).toNat = x.length - 4 from by omega] at hcut1 hrd1 hcut2 hrd2
          have hotk := own_cut HOX.out (x.length - 4) (by omega) (by omega)
          obtain ⟨t, ht⟩ : ∃ t, t = x.take (x.length - 4) := ⟨_, rfl⟩
          obtain ⟨s, hs⟩ : ∃ s, s = x.drop (x.length - 4) := ⟨_, rfl⟩
          have hbt : Bts t := by rw [ht]; exact HXB.out.take _
          have hbs : Bts s := by rw [hs]; exact HXB.out.drop _
          have htl : t.length ≤ 100000 := by rw [ht, List.length_take]; omega
          have hsl : s.length ≤ 100000 := by rw [hs, List.length_drop]; omega
          rw [← ht] at hcut1 hrd1 hur hyes hbad hotk
          rw [← hs] at hcut2 hrd2 hur
          have hcb : ∀ W, Below wr.heap.size wr W → (convert 28 9 (.slice A2 s.length (cx - (x.length - 4)))).run Try.prog W = .ok (.string (strOfNums s)) W := fun W hW =>
            string_of_reads Try.underlying28 Try.underlying5 Try.underlying9 (show ReadsInt W .u8 A2 s.length s from hrd2 W (HX.out.below hW))
          have hb0 := Below.refl wr.heap.size wr
          have hb00 : Below wr.heap.size wr wr.drew := hb0.drew
          have HRD1 := Lib.hid hrd1
          have HBT := Lib.hid hbt
          have HTL := Lib.hid (show t.length ≤ 149000000000000 by omega)
          have HOT := Lib.hid hotk
          have HBS := Lib.hid hbs
          have hdl : (dig 4 true (fletS t)).length = 4 := dig_length _ _ _
          obtain ⟨sv, hsv⟩ : ∃ sv, sv = strOfNums (dig 4 true (fletS t)) := ⟨_, rfl⟩
          obtain ⟨sb, hsb⟩ : ∃ sb, sb = strOfNums s := ⟨_, rfl⟩
          have hz1 : sv.size ≤ 9223372036854775807 := by rw [hsv, strOfNums_size]; omega
          have hz2 : sb.size ≤ 9223372036854775807 := by rw [hsb, strOfNums_size]; omega
          rw [← hsb] at hcb
          have HSV := Lib.hid hsv
          have HSB := Lib.hid hsb
          have HT := Lib.hid ht
          have HYES := Lib.hid hyes
          have HBAD := Lib.hid hbad
          have HUR := Lib.hid hur
          clear hsv hsb ht hyes hbad hur hrd1 hrd2 hbt hbs htl hsl hotk hdl hs hcc2
          by_cases hum : sv = sb
          · have hU := HYES.out (HUR.out.1 (fstr_inj (dig_bts _ _ _) HBS.out (by rw [← HSV.out, ← HSB.out, hum])))
            have HU := Lib.hid (show un1 (4, 0) x = (t, 0) by rw [show un1 (4, 0) x = usF x from by simp [un1], hU])
            clear hU
            subst hum
            go_upto_region 20 with (fail)
            go_cut [88] from 30 to 93 (fun q wc => q = .bool false ∧ Hid (Below wr.heap.size wr wc))
            case first =>
              have hge0 : decide ((x.length : Int) - 4 < 0) = false := decide_eq_false (by omega)
              have hge1 : (4 : Int) ≤ x.length := by omega
              refine wp_region_held_drew (S := fun W' => (convert 28 9 (.slice A2 s.length (cx - (x.length - 4)))).run Try.prog W' = .ok (.string sv) W' ∧ Below wr.heap.size wr W') (by kernel_rfl) ⟨hcb _ hb00, hb00⟩ (fun hHeld => ?_)
              refine wpAnyH_take (i := 0) (oi := { dst := some 75, op := Op.move (Operand.tmp 12), type := 3, pos := "ref.go:103", after := #[], guard := none }) (v := ?_) rfl (by kernel_rfl) (by kernel_rfl) (by kernel_rfl) (fun _ _ _ h => h) (Or.inl ⟨by rfl, ?_⟩) (by assumption) ?_
              rotate_left
              · (intro wS hSw; (try dsimp only at hSw); go_simp; (try (with_reducible rfl)))
              try simp only [Act.put, List.setIfInBounds_toArray, List.set_cons_zero, List.set_cons_succ]
              refine wpAnyH_take (i := 1) (oi := { dst := some 76, op := Op.binOp BinOp.lss 3 (Operand.tmp 75) (Operand.const (Value.int IntKind.i64 0)) 3, type := 4, pos := "ref.go:103", after := #[{ on := 0, ground := Ground.data }], guard := none }) (v := ?_) rfl (by kernel_rfl) (by kernel_rfl) (by kernel_rfl) (fun _ _ _ h => h) (Or.inl ⟨by rfl, ?_⟩) (by assumption) ?_
              rotate_left
              · (intro wS hSw; (try dsimp only at hSw); go_simp; (try (with_reducible rfl)))
              try simp only [Act.put, List.setIfInBounds_toArray, List.set_cons_zero, List.set_cons_succ]
              refine wpAnyH_take (i := 2) (oi := { dst := some 77, op := Op.move (Operand.tmp 76), type := 4, pos := "ref.go:103", after := #[{ on := 1, ground := Ground.data }], guard := none }) (v := ?_) rfl (by kernel_rfl) (by kernel_rfl) (by kernel_rfl) (fun _ _ _ h => h) (Or.inl ⟨by rfl, ?_⟩) (by assumption) ?_
              rotate_left
              · (intro wS hSw; (try dsimp only at hSw); go_simp; (try (with_reducible rfl)))
              try simp only [Act.put, List.setIfInBounds_toArray, List.set_cons_zero, List.set_cons_succ]
              refine wpAnyH_take (i := 3) (oi := { dst := some 78, op := Op.move (Operand.tmp 9), type := 28, pos := "ref.go:103", after := #[{ on := 2, ground := Ground.guard }], guard := some (2, false) }) (v := ?_) rfl (by kernel_rfl) (by kernel_rfl) (by kernel_rfl) (fun _ _ _ h => h) (Or.inl ⟨by rfl, ?_⟩) (by assumption) ?_
              rotate_left
              · (intro wS hSw; (try dsimp only at hSw); go_simp; (try (with_reducible rfl)))
              try simp only [Act.put, List.setIfInBounds_toArray, List.set_cons_zero, List.set_cons_succ]
              refine wpAnyH_take (i := 4) (oi := { dst := some 79, op := Op.move (Operand.tmp 12), type := 3, pos := "ref.go:103", after := #[{ on := 2, ground := Ground.guard }], guard := some (2, false) }) (v := ?_) rfl (by kernel_rfl) (by kernel_rfl) (by kernel_rfl) (fun _ _ _ h => h) (Or.inl ⟨by rfl, ?_⟩) (by assumption) ?_
              rotate_left
              · (intro wS hSw; (try dsimp only at hSw); go_simp; (try (with_reducible rfl)))
              try simp only [Act.put, List.setIfInBounds_toArray, List.set_cons_zero, List.set_cons_succ]
              refine wpAnyH_take (i := 5) (oi := { dst := some 80, op := Op.slice 28 (Operand.tmp 78) none (some (Operand.tmp 79)) none, type := 28, pos := "ref.go:103", after := #[{ on := 3, ground := Ground.data }, { on := 4, ground := Ground.data }, { on := 2, ground := Ground.guard }], guard := some (2, false) }) (v := ?_) rfl (by kernel_rfl) (by kernel_rfl) (by kernel_rfl) (fun _ _ _ h => h) (Or.inl ⟨by rfl, ?_⟩) (by assumption) ?_
              rotate_left
              · (intro wS hSw; (try dsimp only at hSw); go_simp; (try (with_reducible rfl)))
              try simp only [Act.put, List.setIfInBounds_toArray, List.set_cons_zero, List.set_cons_succ]
              refine wpAnyH_take (i := 8) (oi := { dst := some 83, op := Op.move (Operand.tmp 9), type := 28, pos := "ref.go:103", after := #[{ on := 2, ground := Ground.guard }], guard := some (2, false) }) (v := ?_) rfl (by kernel_rfl) (by kernel_rfl) (by kernel_rfl) (fun _ _ _ h => h) (Or.inl ⟨by rfl, ?_⟩) (by assumption) ?_
              rotate_left
              · (intro wS hSw; (try dsimp only at hSw); go_simp; (try (with_reducible rfl)))
              try simp only [Act.put, List.setIfInBounds_toArray, List.set_cons_zero, List.set_cons_succ]
              refine wpAnyH_take (i := 9) (oi := { dst := some 84, op := Op.move (Operand.tmp 12), type := 3, pos := "ref.go:103", after := #[{ on := 2, ground := Ground.guard }], guard := some (2, false) }) (v := ?_) rfl (by kernel_rfl) (by kernel_rfl) (by kernel_rfl) (fun _ _ _ h => h) (Or.inl ⟨by rfl, ?_⟩) (by assumption) ?_
              rotate_left
              · (intro wS hSw; (try dsimp only at hSw); go_simp; (try (with_reducible rfl)))
              try simp only [Act.put, List.setIfInBounds_toArray, List.set_cons_zero, List.set_cons_succ]
              refine wpAnyH_take (i := 10) (oi := { dst := some 85, op := Op.slice 28 (Operand.tmp 83) (some (Operand.tmp 84)) none none, type := 28, pos := "ref.go:103", after := #[{ on := 8, ground := Ground.data }, { on := 9, ground := Ground.data }, { on := 2, ground := Ground.guard }], guard := some (2, false) }) (v := ?_) rfl (by kernel_rfl) (by kernel_rfl) (by kernel_rfl) (fun _ _ _ h => h) (Or.inl ⟨by rfl, ?_⟩) (by assumption) ?_
              rotate_left
              · (intro wS hSw; (try dsimp only at hSw); go_simp; (try (with_reducible rfl)))
              try simp only [Act.put, List.setIfInBounds_toArray, List.set_cons_zero, List.set_cons_succ]
              refine wpAnyH_take (i := 11) (oi := { dst := some 86, op := Op.convert 28 9 (Operand.tmp 85), type := 9, pos := "ref.go:103", after := #[{ on := 10, ground := Ground.data }, { on := 2, ground := Ground.guard }], guard := some (2, false) }) (v := ?_) rfl (by kernel_rfl) (by kernel_rfl) (by kernel_rfl) (fun _ _ _ h => h) (Or.inl ⟨by rfl, ?_⟩) (by assumption) ?_
              rotate_left
              · (intro wS hSw; (try dsimp only at hSw); go_simp; (try (with_reducible rfl)))
              try simp only [Act.put, List.setIfInBounds_toArray, List.set_cons_zero, List.set_cons_succ]
              refine wpAnyH_ready (rs := [6]) (by kernel_rfl) (by simp) ?_
              refine AllReadyH.cons (o := { dst := some 81, op := Op.call { callee := Callee.value (Operand.func 25), args := #[Operand.tmp 80], argTypes := #[28] }, type := 28, pos := "ref.go:103", after := #[{ on := 5, ground := Ground.data }, { on := 2, ground := Ground.chain }, { on := 2, ground := Ground.guard }], guard := some (2, false) }) rfl (fun K hK => ?_) AllReadyH.nil
              go_simp
              refine (refSum_any Ax cx t _ (HRD1.out _ (HX.out.below hb00)) HBT.out HTL.out).mono ?_
              rintro e w4 ⟨vz, rfl, hz, hbz⟩
              have hcz := own_str hz
              rw [← HSV.out] at hcz
              have hbz' : Below wr.heap.size wr w4 := ⟨hbz.os, hbz.tape, hbz.output, hbz.size, hbz.block⟩
              clear hz
              go_wp2_with fail
              refine hK.out _ _ ?_ (fun hHeld => ?_)
              · exact ⟨hcb _ hbz', hbz'⟩
              clear hK K
              try simp only [Act.put, List.setIfInBounds_toArray, List.set_cons_zero, List.set_cons_succ]
              refine wpAnyH_ready (rs := [7]) (by kernel_rfl) (by simp) ?_
              refine AllReadyH.cons (o := { dst := some 82, op := Op.convert 28 9 (Operand.tmp 81), type := 9, pos := "ref.go:103", after := #[{ on := 6, ground := Ground.data }, { on := 2, ground := Ground.guard }], guard := some (2, false) }) rfl (fun K hK => ?_) AllReadyH.nil
              go_simp
              refine hK.out _ _ ?_ (fun hHeld => ?_)
              · exact ⟨hcb _ hbz', hbz'⟩
              clear hK K
              try simp only [Act.put, List.setIfInBounds_toArray, List.set_cons_zero, List.set_cons_succ]
              refine wpAnyH_take (i := 12) (oi := { dst := some 87, op := Op.binOp BinOp.neq 9 (Operand.tmp 82) (Operand.tmp 86) 9, type := 4, pos := "ref.go:103", after := #[{ on := 7, ground := Ground.data }, { on := 11, ground := Ground.data }, { on := 2, ground := Ground.guard }], guard := some (2, false) }) (v := ?_) rfl (by kernel_rfl) (by kernel_rfl) (by kernel_rfl) (fun _ _ _ h => h) (Or.inl ⟨by rfl, ?_⟩) (by assumption) ?_
              rotate_left
              · (intro wS hSw; (try dsimp only at hSw); go_simp; (try (with_reducible rfl)))
              try simp only [Act.put, List.setIfInBounds_toArray, List.set_cons_zero, List.set_cons_succ]
              refine wpAnyH_take (i := 13) (oi := { dst := some 88, op := Op.pick (Operand.tmp 77) (Operand.const (Value.bool true)) (Operand.tmp 87), type := 4, pos := "ref.go:103", after := #[{ on := 2, ground := Ground.data }, { on := 12, ground := Ground.data }], guard := none }) (v := ?_) rfl (by kernel_rfl) (by kernel_rfl) (by kernel_rfl) (fun _ _ _ h => h) (Or.inl ⟨by rfl, ?_⟩) (by assumption) ?_
              rotate_left
              · (intro wS hSw; (try dsimp only at hSw); go_simp; (try (with_reducible rfl)))
              try simp only [Act.put, List.setIfInBounds_toArray, List.set_cons_zero, List.set_cons_succ]
              refine wpAnyH_done (by kernel_rfl) ?_ _
              go_wp2_with fail
              go_meet
              case rel => exact ⟨rfl, hbz'⟩
            case rest =>
              obtain ⟨rfl, HB4⟩ := hcut
              have HO4 := Lib.hid (own_step HOT.out HB4.out)
              have HBK4 := Lib.hid (HBk.out.trans (HB4.out.mono HBk.out.size))
              clear hc0 hc1 hc2 hc3
              go_wp2_with fail
              go_roundw
              case rel => exact ⟨k + 1, j, _, t, by have := HKM.out; omega, rfl, rfl, HO4.out, HBK4.out, by have := HON.out (by rw [HU.out]); rw [HU.out] at this; exact this, by have := un1_len (4, 0) x hxl; rw [HU.out] at this; exact this, HBT.out⟩
              case measure => simp [intOf]
          · have hU := HBAD.out (fun h => hum (by rw [HSV.out, HSB.out, HUR.out.2 h]))
            have HE2 := Lib.hid (show udR l b n = ([], 5) by rw [HE.out, HOFF.out (by rw [show un1 (4, 0) x = usF x from by simp [un1], hU]; decide)]; unfold fin; rw [if_neg (by decide)])
            have HNE := Lib.hid (fstr_beq_ne HSV.out HSB.out hum)
            have hne := HNE.out
            clear hU
            go_upto_region 20 with (fail)
            go_cut [88] from 30 to 93 (fun q wc => q = .bool true ∧ Hid (Below wr.heap.size wr wc))
            case first =>
              have hge0 : decide ((x.length : Int) - 4 < 0) = false := decide_eq_false (by omega)
              have hge1 : (4 : Int) ≤ x.length := by omega
              refine wp_region_held_drew (S := fun W' => (convert 28 9 (.slice A2 s.length (cx - (x.length - 4)))).run Try.prog W' = .ok (.string sb) W' ∧ Below wr.heap.size wr W') (by kernel_rfl) ⟨hcb _ hb00, hb00⟩ (fun hHeld => ?_)
              refine wpAnyH_take (i := 0) (oi := { dst := some 75, op := Op.move (Operand.tmp 12), type := 3, pos := "ref.go:103", after := #[], guard := none }) (v := ?_) rfl (by kernel_rfl) (by kernel_rfl) (by kernel_rfl) (fun _ _ _ h => h) (Or.inl ⟨by rfl, ?_⟩) (by assumption) ?_
              rotate_left
              · (intro wS hSw; (try dsimp only at hSw); go_simp; (try (with_reducible rfl)))
              try simp only [Act.put, List.setIfInBounds_toArray, List.set_cons_zero, List.set_cons_succ]
              refine wpAnyH_take (i := 1) (oi := { dst := some 76, op := Op.binOp BinOp.lss 3 (Operand.tmp 75) (Operand.const (Value.int IntKind.i64 0)) 3, type := 4, pos := "ref.go:103", after := #[{ on := 0, ground := Ground.data }], guard := none }) (v := ?_) rfl (by kernel_rfl) (by kernel_rfl) (by kernel_rfl) (fun _ _ _ h => h) (Or.inl ⟨by rfl, ?_⟩) (by assumption) ?_
              rotate_left
              · (intro wS hSw; (try dsimp only at hSw); go_simp; (try (with_reducible rfl)))
              try simp only [Act.put, List.setIfInBounds_toArray, List.set_cons_zero, List.set_cons_succ]
              refine wpAnyH_take (i := 2) (oi := { dst := some 77, op := Op.move (Operand.tmp 76), type := 4, pos := "ref.go:103", after := #[{ on := 1, ground := Ground.data }], guard := none }) (v := ?_) rfl (by kernel_rfl) (by kernel_rfl) (by kernel_rfl) (fun _ _ _ h => h) (Or.inl ⟨by rfl, ?_⟩) (by assumption) ?_
              rotate_left
              · (intro wS hSw; (try dsimp only at hSw); go_simp; (try (with_reducible rfl)))
              try simp only [Act.put, List.setIfInBounds_toArray, List.set_cons_zero, List.set_cons_succ]
              refine wpAnyH_take (i := 3) (oi := { dst := some 78, op := Op.move (Operand.tmp 9), type := 28, pos := "ref.go:103", after := #[{ on := 2, ground := Ground.guard }], guard := some (2, false) }) (v := ?_) rfl (by kernel_rfl) (by kernel_rfl) (by kernel_rfl) (fun _ _ _ h => h) (Or.inl ⟨by rfl, ?_⟩) (by assumption) ?_
              rotate_left
              · (intro wS hSw; (try dsimp only at hSw); go_simp; (try (with_reducible rfl)))
              try simp only [Act.put, List.setIfInBounds_toArray, List.set_cons_zero, List.set_cons_succ]
              refine wpAnyH_take (i := 4) (oi := { dst := some 79, op := Op.move (Operand.tmp 12), type := 3, pos := "ref.go:103", after := #[{ on := 2, ground := Ground.guard }], guard := some (2, false) }) (v := ?_) rfl (by kernel_rfl) (by kernel_rfl) (by kernel_rfl) (fun _ _ _ h => h) (Or.inl ⟨by rfl, ?_⟩) (by assumption) ?_
              rotate_left
              · (intro wS hSw; (try dsimp only at hSw); go_simp; (try (with_reducible rfl)))
              try simp only [Act.put, List.setIfInBounds_toArray, List.set_cons_zero, List.set_cons_succ]
              refine wpAnyH_take (i := 5) (oi := { dst := some 80, op := Op.slice 28 (Operand.tmp 78) none (some (Operand.tmp 79)) none, type := 28, pos := "ref.go:103", after := #[{ on := 3, ground := Ground.data }, { on := 4, ground := Ground.data }, { on := 2, ground := Ground.guard }], guard := some (2, false) }) (v := ?_) rfl (by kernel_rfl) (by kernel_rfl) (by kernel_rfl) (fun _ _ _ h => h) (Or.inl ⟨by rfl, ?_⟩) (by assumption) ?_
              rotate_left
              · (intro wS hSw; (try dsimp only at hSw); go_simp; (try (with_reducible rfl)))
              try simp only [Act.put, List.setIfInBounds_toArray, List.set_cons_zero, List.set_cons_succ]
              refine wpAnyH_take (i := 8) (oi := { dst := some 83, op := Op.move (Operand.tmp 9), type := 28, pos := "ref.go:103", after := #[{ on := 2, ground := Ground.guard }], guard := some (2, false) }) (v := ?_) rfl (by kernel_rfl) (by kernel_rfl) (by kernel_rfl) (fun _ _ _ h => h) (Or.inl ⟨by rfl, ?_⟩) (by assumption) ?_
              rotate_left
              · (intro wS hSw; (try dsimp only at hSw); go_simp; (try (with_reducible rfl)))
              try simp only [Act.put, List.setIfInBounds_toArray, List.set_cons_zero, List.set_cons_succ]
              refine wpAnyH_take (i := 9) (oi := { dst := some 84, op := Op.move (Operand.tmp 12), type := 3, pos := "ref.go:103", after := #[{ on := 2, ground := Ground.guard }], guard := some (2, false) }) (v := ?_) rfl (by kernel_rfl) (by kernel_rfl) (by kernel_rfl) (fun _ _ _ h => h) (Or.inl ⟨by rfl, ?_⟩) (by assumption) ?_
              rotate_left
              · (intro wS hSw; (try dsimp only at hSw); go_simp; (try (with_reducible rfl)))
              try simp only [Act.put, List.setIfInBounds_toArray, List.set_cons_zero, List.set_cons_succ]
              refine wpAnyH_take (i := 10) (oi := { dst := some 85, op := Op.slice 28 (Operand.tmp 83) (some (Operand.tmp 84)) none none, type := 28, pos := "ref.go:103", after := #[{ on := 8, ground := Ground.data }, { on := 9, ground := Ground.data }, { on := 2, ground := Ground.guard }], guard := some (2, false) }) (v := ?_) rfl (by kernel_rfl) (by kernel_rfl) (by kernel_rfl) (fun _ _ _ h => h) (Or.inl ⟨by rfl, ?_⟩) (by assumption) ?_
              rotate_left
              · (intro wS hSw; (try dsimp only at hSw); go_simp; (try (with_reducible rfl)))
              try simp only [Act.put, List.setIfInBounds_toArray, List.set_cons_zero, List.set_cons_succ]
              refine wpAnyH_take (i := 11) (oi := { dst := some 86, op := Op.convert 28 9 (Operand.tmp 85), type := 9, pos := "ref.go:103", after := #[{ on := 10, ground := Ground.data }, { on := 2, ground := Ground.guard }], guard := some (2, false) }) (v := ?_) rfl (by kernel_rfl) (by kernel_rfl) (by kernel_rfl) (fun _ _ _ h => h) (Or.inl ⟨by rfl, ?_⟩) (by assumption) ?_
              rotate_left
              · (intro wS hSw; (try dsimp only at hSw); go_simp; (try (with_reducible rfl)))
              try simp only [Act.put, List.setIfInBounds_toArray, List.set_cons_zero, List.set_cons_succ]
              refine wpAnyH_ready (rs := [6]) (by kernel_rfl) (by simp) ?_
              refine AllReadyH.cons (o := { dst := some 81, op := Op.call { callee := Callee.value (Operand.func 25), args := #[Operand.tmp 80], argTypes := #[28] }, type := 28, pos := "ref.go:103", after := #[{ on := 5, ground := Ground.data }, { on := 2, ground := Ground.chain }, { on := 2, ground := Ground.guard }], guard := some (2, false) }) rfl (fun K hK => ?_) AllReadyH.nil
              go_simp
              refine (refSum_any Ax cx t _ (HRD1.out _ (HX.out.below hb00)) HBT.out HTL.out).mono ?_
              rintro e w4 ⟨vz, rfl, hz, hbz⟩
              have hcz := own_str hz
              rw [← HSV.out] at hcz
              have hbz' : Below wr.heap.size wr w4 := ⟨hbz.os, hbz.tape, hbz.output, hbz.size, hbz.block⟩
              clear hz
              go_wp2_with fail
              refine hK.out _ _ ?_ (fun hHeld => ?_)
              · exact ⟨hcb _ hbz', hbz'⟩
              clear hK K
              try simp only [Act.put, List.setIfInBounds_toArray, List.set_cons_zero, List.set_cons_succ]
              refine wpAnyH_ready (rs := [7]) (by kernel_rfl) (by simp) ?_
              refine AllReadyH.cons (o := { dst := some 82, op := Op.convert 28 9 (Operand.tmp 81), type := 9, pos := "ref.go:103", after := #[{ on := 6, ground := Ground.data }, { on := 2, ground := Ground.guard }], guard := some (2, false) }) rfl (fun K hK => ?_) AllReadyH.nil
              go_simp
              refine hK.out _ _ ?_ (fun hHeld => ?_)
              · exact ⟨hcb _ hbz', hbz'⟩
              clear hK K
              try simp only [Act.put, List.setIfInBounds_toArray, List.set_cons_zero, List.set_cons_succ]
              refine wpAnyH_take (i := 12) (oi := { dst := some 87, op := Op.binOp BinOp.neq 9 (Operand.tmp 82) (Operand.tmp 86) 9, type := 4, pos := "ref.go:103", after := #[{ on := 7, ground := Ground.data }, { on := 11, ground := Ground.data }, { on := 2, ground := Ground.guard }], guard := some (2, false) }) (v := ?_) rfl (by kernel_rfl) (by kernel_rfl) (by kernel_rfl) (fun _ _ _ h => h) (Or.inl ⟨by rfl, ?_⟩) (by assumption) ?_
              rotate_left
              · (intro wS hSw; (try dsimp only at hSw); go_simp; (try (with_reducible rfl)))
              try simp only [Act.put, List.setIfInBounds_toArray, List.set_cons_zero, List.set_cons_succ]
              refine wpAnyH_take (i := 13) (oi := { dst := some 88, op := Op.pick (Operand.tmp 77) (Operand.const (Value.bool true)) (Operand.tmp 87), type := 4, pos := "ref.go:103", after := #[{ on := 2, ground := Ground.data }, { on := 12, ground := Ground.data }], guard := none }) (v := ?_) rfl (by kernel_rfl) (by kernel_rfl) (by kernel_rfl) (fun _ _ _ h => h) (Or.inl ⟨by rfl, ?_⟩) (by assumption) ?_
              rotate_left
              · (intro wS hSw; (try dsimp only at hSw); go_simp; (try (with_reducible rfl)))
              try simp only [Act.put, List.setIfInBounds_toArray, List.set_cons_zero, List.set_cons_succ]
              refine wpAnyH_done (by kernel_rfl) ?_ _
              go_wp2_with fail
              go_meet
              case rel => exact ⟨rfl, hbz'⟩
            case rest =>
              obtain ⟨rfl, HB4⟩ := hcut
              go_wp2_with fail
              go_ret2
              exact ⟨_, ret2 (by rw [HE2.out]), by rw [HE2.out]; exact World.ownsRow_nil _ _ _ _, HBk.out.trans (HB4.out.mono HBk.out.size)⟩
  · have HE := Lib.hid (show udR l b n = ([], ck) by unfold udR; rw [if_pos (by rw [← HCK.out]; exact hck), HCK.out])
    go_enter Try.func19, Try.ntmps19
    go_wp2_with (go_at_call 11; refine (refCheck_any A c l w HR.out).mono ?_; rintro e w1 ⟨rfl, rfl⟩; rw [← HCK.out])
    go_ret2
    exact ⟨_, ret2 (by rw [HE.out]), by rw [HE.out]; exact World.ownsRow_nil _ _ _ _, Below.refl _ _⟩
end Go.Proofs.Ytdfpikimeihefaa
