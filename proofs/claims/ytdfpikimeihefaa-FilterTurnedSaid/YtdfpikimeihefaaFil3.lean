/-
  filter.Apply. No premise.
-/
import Derived.Test.YtdfpikimeihefaaFil2
namespace Go.Proofs.Ytdfpikimeihefaa
open Go.RowKit Go.Proofs.YtdfpikimeihefaaW.PrintWords

theorem ok_at {l : List Fl} (h : fck l = 0) {k : Nat} (hk : k < l.length) : okF (l.getD k (0, 0)) = true ∧ l.length ≤ 4 := by
  unfold fck at h
  split at h
  · cases h
  split at h
  · rename_i h1 h2
    rw [List.all_eq_true] at h2
    exact ⟨h2 _ (by rw [List.getD_eq_getElem?_getD, List.getElem?_eq_getElem hk]; exact List.getElem_mem hk), by omega⟩
  · cases h
theorem fck_few {l : List Fl} (h : fck l = 0) : l.length ≤ 4 := by
  unfold fck at h
  split at h
  · cases h
  · omega
theorem doA_take {l : List Fl} {k : Nat} (hk : k < l.length) (x : List Int) : doA (l.take (k + 1)) x = do1 (l.getD k (0, 0)) (doA (l.take k) x) := by
  rw [List.take_add_one, List.getElem?_eq_getElem hk, doA_append, List.getD_eq_getElem?_getD, List.getElem?_eq_getElem hk]
  rfl
def ApPost (w : World) (l : List Fl) (b : List Int) (e : Ending) (w' : World) : Prop :=
  ∃ v, e = .returned (.tuple #[v, .int .i64 (apE l b)]) ∧ Own w' w.heap.size v (apL l b) ∧ Below w.heap.size w w'
set_option maxRecDepth 100000 in
set_option maxHeartbeats 3200000 in
theorem apply_any (A : Option Addr) (c : Nat) (l : List Fl) (B : Option Addr) (cb : Nat) (b : List Int) (w : World) (hr : Fls w A l) (hrb : Rd w B b) (hb : Bts b) (hl : b.length ≤ 149000000000000) :
    Calls Try.prog 14 #[.slice A l.length c, .slice B b.length cb] w (ApPost w l b) := by
  have HR := Lib.hid hr
  have HRB := Lib.hid hrb
  have HBt := Lib.hid hb
  clear hr hrb hb
  by_cases hck : fck l = 0
  · by_cases hbig : 4096 < b.length
    · have HE := Lib.hid (show apE l b = 20 by unfold apE; rw [if_neg (by rw [hck]; decide), if_pos hbig])
      have HC := Lib.hid hck
      clear hck
      go_enter Try.func14, Try.ntmps14
      go_wp2_with (go_at_call 10; refine (check_any A c l w HR.out).mono ?_; rintro e w1 ⟨rfl, hb1⟩; rw [HC.out]; have HB1 := Lib.hid hb1; clear hb1)
      go_ret2
      refine ⟨_, ret2 HE.out.symm, ?_, HB1.out⟩
      unfold apL
      rw [HE.out, if_pos (by decide)]
      exact World.ownsRow_nil _ _ _ _
    · have HE := Lib.hid (show apE l b = 0 by unfold apE; rw [if_neg (by rw [hck]; decide), if_neg hbig])
      have HAL := Lib.hid (show apL l b = doA l b by unfold apL; rw [HE.out, if_neg (by decide)])
      have HOK := Lib.hid (fun k hk => (ok_at hck (k := k) hk).1)
      have hf4 := fck_few hck
      have HC := Lib.hid hck
      clear hck
      go_enter Try.func14, Try.ntmps14
      go_wp2_with (first | (go_at_call 10; refine (check_any A c l w HR.out).mono ?_; rintro e w1 ⟨rfl, hb1⟩; rw [HC.out]; have HB1 := Lib.hid hb1; clear hb1) | (go_at_call 21; refine (clone_any B cb b _ (HRB.out.below HB1.out) (by omega)).mono ?_; rintro e w2 ⟨v0, rfl, ho, hb2⟩; have HO := Lib.hid (own_weaken ho HB1.out.size); have HB2 := Lib.hid (HB1.out.trans (hb2.mono HB1.out.size)); clear ho hb2))
      go_loopw [7, 24] (fun y t wr => ∃ (k : Nat) (v : Value), k ≤ l.length ∧ t = .int .i64 k ∧ y = v ∧ Hid (Own wr w.heap.size v (doA (l.take k) b)) ∧ Hid (Below w.heap.size w wr)) (fun _ t _ => l.length - (intOf t).toNat)
      case atStart => exact ⟨0, v0, Nat.zero_le _, rfl, rfl, HO.out, HB2.out⟩
      case round =>
        obtain ⟨k, v, hk, rfl, rfl, HOk, HBk⟩ := hrel
        by_cases hlt : k < l.length
        · obtain ⟨ad, rfl, hc⟩ := (HR.out.below HBk.out).2 (by omega)
          obtain ⟨hc0, hc1⟩ := hc k hlt
          have hfk := HOK.out k hlt
          have htk := doA_take hlt b
          have hxl := doA_length (l.take k) b
          have hxb := doA_bts (l.take k) HBt.out
          obtain ⟨f, hf⟩ : ∃ f, f = l.getD k (0, 0) := ⟨_, rfl⟩
          obtain ⟨x, hx⟩ : ∃ x, x = doA (l.take k) b := ⟨_, rfl⟩
          have hok := HOk.out
          rw [← hf] at hc0 hc1 hfk htk
          rw [← hx] at htk hxl hxb hok
          have hx16 : x.length ≤ 100000 := by have : (l.take k).length ≤ 4 := (by rw [List.length_take]; omega); omega
          obtain ⟨kk, d⟩ := f
          simp only at hc0 hc1
          obtain ⟨hc2, hc3⟩ := snd_cell hc1
          obtain ⟨Ax, cx, rfl, hox, hrx, hcx⟩ := own_split hok
          have HFK := Lib.hid hfk
          have HTK := Lib.hid htk
          have HXB := Lib.hid hxb
          have HX := Lib.hid hrx
          have HB0 := Lib.hid (HBk.out.alloc HBk.out.size (.cells #[.int .i64 kk, .int .i64 d] 43))
          clear hc hf hx hok hox hrx hfk htk hxl hxb HOk
          by_cases h1 : kk = 1
          · subst h1
            have hd : 1 ≤ d ∧ d ≤ 8 := by have := okF_iff.1 HFK.out; simp only at this; omega
            have HS := Lib.hid (show doA (l.take (k + 1)) b = mxL shufL d x by rw [HTK.out]; simp [do1])
            clear HTK
            go_wp2_with fail
            refine (fiFind1_any d _).mono ?_
            rintro e w3 ⟨rfl, hb3, hcell, hsz3⟩
            have hB3 := HB0.out.trans (hb3.mono HB0.out.size)
            have HB3 := Lib.hid (hB3.alloc hB3.size (.cells #[.func (.func 30) #[] #[.pointer (some ⟨wr.heap.size + 1, 0, none⟩)], .func (.func 32) #[] #[.pointer (some ⟨wr.heap.size + 1, 0, none⟩)]] 48))
            have hx3 : Rd (w3.alloc (.cells #[.func (.func 30) #[] #[.pointer (some ⟨wr.heap.size + 1, 0, none⟩)], .func (.func 32) #[] #[.pointer (some ⟨wr.heap.size + 1, 0, none⟩)]] 48)) Ax x := (HX.out.below (((Below.refl _ wr).alloc (Nat.le_refl _) (.cells #[.int .i64 1, .int .i64 d] 43)).trans (hb3.mono (by simp)))).below ((Below.refl _ w3).alloc (Nat.le_refl _) _)
            have HX3 := Lib.hid hx3
            have HC3 := Lib.hid (show (w3.alloc (.cells #[.func (.func 30) #[] #[.pointer (some ⟨wr.heap.size + 1, 0, none⟩)], .func (.func 32) #[] #[.pointer (some ⟨wr.heap.size + 1, 0, none⟩)]] 48)).cell? ⟨wr.heap.size + 1, 0 + 1, none⟩ = some (.int .i64 d) from (((Below.refl _ w3).alloc (Nat.le_refl _) _).cell (p := ⟨wr.heap.size + 1, 1, none⟩) (by show wr.heap.size + 1 < w3.heap.size; have := hsz3; simp at this; omega)).trans (by have := hcell; simp at this; exact this))
            clear hcell hsz3 hb3 hB3 hx3
            go_wp2_with fail
            refine (do_shuf (wr.heap.size + 1) 0 d Ax cx x _ HC3.out HX3.out HXB.out hcx (by omega)).mono ?_
            rintro e w4 ⟨v4, rfl, ho4, hb4⟩
            have HO4 := Lib.hid (own_weaken ho4 HB3.out.size)
            have HB4 := Lib.hid (HB3.out.trans (hb4.mono HB3.out.size))
            clear ho4 hb4
            go_wp2_with fail
            go_roundw
            case rel => exact ⟨k + 1, v4, by omega, by push_cast; rfl, rfl, by rw [HS.out]; exact HO4.out, HB4.out⟩
            case measure => simp [intOf]; omega
          by_cases h2 : kk = 2
          · subst h2
            have hd : 1 ≤ d ∧ d ≤ 8 := by have := okF_iff.1 HFK.out; simp only at this; omega
            have HS := Lib.hid (show doA (l.take (k + 1)) b = mxL deltaL d x by rw [HTK.out]; simp [do1])
            clear HTK
            go_wp2_with fail
            refine (fiFind2_any d _).mono ?_
            rintro e w3 ⟨rfl, hb3, hcell, hsz3⟩
            have hB3 := HB0.out.trans (hb3.mono HB0.out.size)
            have HB3 := Lib.hid (hB3.alloc hB3.size (.cells #[.func (.func 34) #[] #[.pointer (some ⟨wr.heap.size + 1, 0, none⟩)], .func (.func 36) #[] #[.pointer (some ⟨wr.heap.size + 1, 0, none⟩)]] 48))
            have hx3 : Rd (w3.alloc (.cells #[.func (.func 34) #[] #[.pointer (some ⟨wr.heap.size + 1, 0, none⟩)], .func (.func 36) #[] #[.pointer (some ⟨wr.heap.size + 1, 0, none⟩)]] 48)) Ax x := (HX.out.below (((Below.refl _ wr).alloc (Nat.le_refl _) (.cells #[.int .i64 2, .int .i64 d] 43)).trans (hb3.mono (by simp)))).below ((Below.refl _ w3).alloc (Nat.le_refl _) _)
            have HX3 := Lib.hid hx3
            have HC3 := Lib.hid (show (w3.alloc (.cells #[.func (.func 34) #[] #[.pointer (some ⟨wr.heap.size + 1, 0, none⟩)], .func (.func 36) #[] #[.pointer (some ⟨wr.heap.size + 1, 0, none⟩)]] 48)).cell? ⟨wr.heap.size + 1, 0 + 1, none⟩ = some (.int .i64 d) from (((Below.refl _ w3).alloc (Nat.le_refl _) _).cell (p := ⟨wr.heap.size + 1, 1, none⟩) (by show wr.heap.size + 1 < w3.heap.size; have := hsz3; simp at this; omega)).trans (by have := hcell; simp at this; exact this))
            clear hcell hsz3 hb3 hB3 hx3
            go_wp2_with fail
            refine (do_delta (wr.heap.size + 1) 0 d Ax cx x _ HC3.out HX3.out HXB.out hcx (by omega)).mono ?_
            rintro e w4 ⟨v4, rfl, ho4, hb4⟩
            have HO4 := Lib.hid (own_weaken ho4 HB3.out.size)
            have HB4 := Lib.hid (HB3.out.trans (hb4.mono HB3.out.size))
            clear ho4 hb4
            go_wp2_with fail
            go_roundw
            case rel => exact ⟨k + 1, v4, by omega, by push_cast; rfl, rfl, by rw [HS.out]; exact HO4.out, HB4.out⟩
            case measure => simp [intOf]; omega
          by_cases h3 : kk = 3
          · subst h3
            obtain rfl : d = 0 := by have := okF_iff.1 HFK.out; simp only at this; omega
            have HS := Lib.hid (show doA (l.take (k + 1)) b = pkL x by rw [HTK.out]; simp [do1])
            clear HTK
            go_wp2_with fail
            refine (fiFind3_any 0 _).mono ?_
            rintro e w3 ⟨rfl, hb3, hcell, hsz3⟩
            have hB3 := HB0.out.trans (hb3.mono HB0.out.size)
            have HB3 := Lib.hid (hB3.alloc hB3.size (.cells #[.func (.func 38) #[] #[], .func (.func 39) #[] #[]] 48))
            have hx3 : Rd (w3.alloc (.cells #[.func (.func 38) #[] #[], .func (.func 39) #[] #[]] 48)) Ax x := (HX.out.below (((Below.refl _ wr).alloc (Nat.le_refl _) (.cells #[.int .i64 3, .int .i64 0] 43)).trans (hb3.mono (by simp)))).below ((Below.refl _ w3).alloc (Nat.le_refl _) _)
            have HX3 := Lib.hid hx3
            clear hcell hsz3 hb3 hB3 hx3
            go_wp2_with fail
            refine (pack_any Ax cx x _ HX3.out hcx (by omega)).mono ?_
            rintro e w4 ⟨v4, rfl, ho4, hb4⟩
            have HO4 := Lib.hid (own_weaken ho4 HB3.out.size)
            have HB4 := Lib.hid (HB3.out.trans (hb4.mono HB3.out.size))
            clear ho4 hb4
            go_wp2_with fail
            go_roundw
            case rel => exact ⟨k + 1, v4, by omega, by push_cast; rfl, rfl, by rw [HS.out]; exact HO4.out, HB4.out⟩
            case measure => simp [intOf]; omega
          have h4 : kk = 4 := by have := okF_iff.1 HFK.out; simp only at this; omega
          subst h4
          obtain rfl : d = 0 := by have := okF_iff.1 HFK.out; simp only at this; omega
          have HS := Lib.hid (show doA (l.take (k + 1)) b = sealF x by rw [HTK.out]; simp [do1])
          clear HTK
          go_wp2_with fail
          refine (fiFind4_any 0 _).mono ?_
          rintro e w3 ⟨rfl, hb3, hcell, hsz3⟩
          have hB3 := HB0.out.trans (hb3.mono HB0.out.size)
          have HB3 := Lib.hid (hB3.alloc hB3.size (.cells #[.func (.func 41) #[] #[], .func (.func 42) #[] #[]] 48))
          have hx3 : Rd (w3.alloc (.cells #[.func (.func 41) #[] #[], .func (.func 42) #[] #[]] 48)) Ax x := (HX.out.below (((Below.refl _ wr).alloc (Nat.le_refl _) (.cells #[.int .i64 4, .int .i64 0] 43)).trans (hb3.mono (by simp)))).below ((Below.refl _ w3).alloc (Nat.le_refl _) _)
          have HX3 := Lib.hid hx3
          clear hcell hsz3 hb3 hB3 hx3
          go_wp2_with fail
          refine (fiSeal_any Ax cx x _ HX3.out HXB.out (by omega)).mono ?_
          rintro e w4 ⟨v4, rfl, ho4, hb4⟩
          have HO4 := Lib.hid (own_weaken ho4 HB3.out.size)
          have HB4 := Lib.hid (HB3.out.trans (hb4.mono HB3.out.size))
          clear ho4 hb4
          go_wp2_with fail
          go_roundw
          case rel => exact ⟨k + 1, v4, by omega, by push_cast; rfl, rfl, by rw [HS.out]; exact HO4.out, HB4.out⟩
          case measure => simp [intOf]; omega
        · have hkl : k = l.length := by omega
          subst hkl
          have ho := HOk.out
          rw [List.take_length, ← HAL.out] at ho
          have HO' := Lib.hid ho
          clear ho
          go_wp2_with fail
          go_ret2
          exact ⟨_, ret2 HE.out.symm, HO'.out, HBk.out⟩
  · have HE := Lib.hid (show apE l b = fck l by unfold apE; rw [if_pos hck])
    have HL := Lib.hid (show apL l b = [] by unfold apL; rw [HE.out, if_pos hck])
    obtain ⟨ck, hk⟩ : ∃ ck, ck = fck l := ⟨_, rfl⟩
    rw [← hk] at hck HE
    have HK := Lib.hid hk
    clear hk
    go_enter Try.func14, Try.ntmps14
    go_wp2_with (go_at_call 10; refine (check_any A c l w HR.out).mono ?_; rintro e w1 ⟨rfl, hb1⟩; rw [← HK.out]; have HB1 := Lib.hid hb1; clear hb1)
    go_ret2
    exact ⟨_, ret2 HE.out.symm, by rw [HL.out]; exact World.ownsRow_nil _ _ _ _, HB1.out⟩
end Go.Proofs.Ytdfpikimeihefaa
