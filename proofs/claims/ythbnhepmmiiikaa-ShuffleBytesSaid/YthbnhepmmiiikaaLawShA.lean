/-
  ShuffleMixes, ShuffleDeltas: the walks. No premise.
-/
import Derived.Test.YthbnhepmmiiikaaLive14
import Derived.Test.YthbnhepmmiiikaaHelp14
namespace Go.Proofs.Ythbnhepmmiiikaa
open Go.RowKit Go.Proofs.YthbnhepmmiiikaaW.PrintWords

theorem wf_i64' {a : Int} (h : (Lit.int .i64 a).wf = true) : -9223372036854775808 ≤ a ∧ a ≤ 9223372036854775807 := by
  simp [Lit.wf, IntKind.min, IntKind.max, IntKind.signed, IntKind.bits] at h
  omega
theorem wf_u64' {a : Int} (h : (Lit.int .u64 a).wf = true) : 0 ≤ a ∧ a < 18446744073709551616 := by
  simp [Lit.wf, IntKind.min, IntKind.max, IntKind.signed, IntKind.bits] at h
  omega
theorem wf_u8' {a : Int} (h : (Lit.int .u8 a).wf = true) : 0 ≤ a ∧ a ≤ 255 := by
  simp [Lit.wf, IntKind.min, IntKind.max, IntKind.signed, IntKind.bits] at h
  omega
theorem wf_bts' {l : List Int} (h : ∀ x ∈ l, (Lit.int .u8 x).wf = true) : Bts l := fun x hx => wf_u8' (h x hx)
theorem mxL_bts {f : Nat → List Int → List Int} (h : ∀ {l : List Int}, Bts l → ∀ w, Bts (f w l)) (width : Int) {l : List Int} (hb : Bts l) : Bts (mxL f width l) := by
  unfold mxL
  split
  · exact h hb _
  · exact Bts.nil
theorem mxL_length {f : Nat → List Int → List Int} (h : ∀ w l, (f w l).length = l.length) (width : Int) (l : List Int) : (mxL f width l).length ≤ l.length := by
  unfold mxL
  split
  · rw [h]; exact Nat.le_refl _
  · exact Nat.zero_le _
theorem lent_cap {w : World} {base g cap n : Nat} {l : List Int} (h : Own w base (.slice (some ⟨g, 0, none⟩) (n + 1) cap) l) : n ≤ cap := by have := (own_open h).2.2.1; omega
set_option maxHeartbeats 1600000 in
theorem shuffleMixes_walk (width : Int) (A : Option Addr) (c : Nat) (l : List Int) (w : World) (_hww : (Lit.int .i64 width).wf = true) (hr : ReadsInt w .u8 A l.length l) (hw : ∀ x ∈ l, (Lit.int .u8 x).wf = true) (hc : l.length ≤ c) (hy : l.length * 1 ≤ 140737488351232) :
    Calls Try.prog 5 #[.int .i64 width, .slice A l.length c] w fun e w' => e = .returned (.bool true) ∧ Below w.heap.size w w' := by
  have hl : l.length + 8 ≤ 150000000000000 := by omega
  have HR := Lib.hid (show Rd w A l from hr)
  have HBt := Lib.hid (wf_bts' hw)
  have hXb := mxL_bts shufL_bts width HBt.out
  have hXl := mxL_length shufL_length width l
  have hYb := mxL_bts unshL_bts width HBt.out
  have hYl := mxL_length unshL_length width l
  have HXB := Lib.hid hXb
  have HXL := Lib.hid hXl
  have HYB := Lib.hid hYb
  have HYL := Lib.hid hYl
  clear hr hw hy hXb hXl hYb hYl _hww
  go_enter Try.func5, Try.ntmps5
  go_wp2_with fail
  refine (lent_any A c l w HR.out (by omega)).mono ?_
  rintro e w1 ⟨g, cap, rfl, ho1, hb1⟩
  have HO1 := Lib.hid ho1
  have HB1 := Lib.hid hb1
  have hs1 := hb1.size
  clear ho1 hb1
  go_wp2_with fail
  refine (shuffle_any (some ⟨g, 0, none⟩) cap l width w1 (lent_rd HO1.out) (by omega)).mono ?_
  rintro e w2 ⟨vx, rfl, hx, hbx⟩
  have HVX := Lib.hid hx
  have HB2 := Lib.hid hbx
  have hs2 := hbx.size
  clear hx hbx
  go_wp2_with fail
  refine (unshuffle_any (some ⟨g, 0, none⟩) cap l width w2 ((lent_rd HO1.out).below HB2.out) (by omega)).mono ?_
  rintro e w3 ⟨vy, rfl, hx, hbx⟩
  have HVY := Lib.hid hx
  have HB3 := Lib.hid hbx
  have hs3 := hbx.size
  clear hx hbx
  have HB13 := Lib.hid (HB2.out.trans (HB3.out.mono hs2))
  have HB03 := Lib.hid (HB1.out.trans (HB13.out.mono hs1))
  go_wp2_with fail
  refine (refShuffle_any A c l width w3 (HR.out.below HB03.out) hc (by omega)).mono ?_
  rintro e w4 ⟨vw, rfl, hx, hbx⟩
  have HVW := Lib.hid hx
  have HB4 := Lib.hid hbx
  have hs4 := hbx.size
  clear hx hbx
  have HB04 := Lib.hid (HB03.out.trans (HB4.out.mono HB03.out.size))
  go_wp2_with fail
  refine (refUnshuffle_any A c l width w4 (HR.out.below HB04.out) hc (by omega)).mono ?_
  rintro e w5 ⟨vo, rfl, hx, hbx⟩
  have HVO := Lib.hid hx
  have HB5 := Lib.hid hbx
  have hs5 := hbx.size
  clear hx hbx
  have HB35 := Lib.hid (HB4.out.trans (HB5.out.mono hs4))
  have HB25 := Lib.hid (HB3.out.trans (HB35.out.mono hs3))
  have HB15 := Lib.hid (HB2.out.trans (HB25.out.mono hs2))
  have HB05 := Lib.hid (HB1.out.trans (HB15.out.mono hs1))
  have HVX5 := Lib.hid (own_step HVX.out HB25.out)
  have HVY5 := Lib.hid (own_step HVY.out HB35.out)
  have HVW5 := Lib.hid (own_step HVW.out HB5.out)
  have HO5 := Lib.hid (own_step HO1.out HB15.out)
  have hcx := own_str HVX5.out
  have hcy := own_str HVY5.out
  have hcw := own_str HVW5.out
  have hco := own_str HVO.out
  have hzx : (strOfNums (mxL shufL width l)).size ≤ 9223372036854775807 := by rw [strOfNums_size]; have := HXL.out; omega
  have hzy : (strOfNums (mxL unshL width l)).size ≤ 9223372036854775807 := by rw [strOfNums_size]; have := HYL.out; omega
  go_wp2_with (go_at_call 22; refine (kept_b A w.heap.size g c cap l _ (HR.out.below HB05.out) HO5.out (by omega)).mono ?_; rintro e w6 ⟨rfl, hb6⟩; clear hcx hcy hcw hco)
  have HB6 := Lib.hid hb6
  have hs6 := hb6.size
  have HVX6 := Lib.hid (own_step HVX5.out hb6)
  have HVY6 := Lib.hid (own_step HVY5.out hb6)
  have HO6 := Lib.hid (own_step HO5.out hb6)
  have HB06 := Lib.hid (HB05.out.trans (hb6.mono HB05.out.size))
  clear hb6
  refine (spoil_any vx _ HXB.out w1.heap.size w6 HVX6.out (by have := HXL.out; omega)).mono ?_
  rintro e w7 ⟨rfl, hg7⟩
  have hxlo := fun k h => own_lo HVX.out (k := k) h
  have hxhi := fun k h => own_hi HVX.out (k := k) h
  have HVY7 := Lib.hid (own_far HVY6.out hg7 (fun k h1 h2 => by have := hxhi k h1; have := own_lo HVY.out h2; omega))
  have HO7 := Lib.hid (own_far HO6.out hg7 (fun k h1 h2 => by have := hxlo k h1; have := own_hi HO1.out h2; omega))
  have HB7 := Lib.hid (HB06.out.grown hg7 HB06.out.size (fun k h1 => by have := hxlo k h1; omega))
  clear hg7 hxlo hxhi
  go_wp2_with fail
  refine (spoil_any vy _ HYB.out w2.heap.size w7 HVY7.out (by have := HYL.out; omega)).mono ?_
  rintro e w8 ⟨rfl, hg8⟩
  have hylo := fun k h => own_lo HVY.out (k := k) h
  have HO8 := Lib.hid (own_far HO7.out hg8 (fun k h1 h2 => by have := hylo k h1; have := own_hi HO1.out h2; omega))
  have HB8 := Lib.hid (HB7.out.grown hg8 HB7.out.size (fun k h1 => by have := hylo k h1; omega))
  clear hg8 hylo
  go_wp2_with (first | (go_at_call 22; refine (kept_b A w.heap.size g c cap l _ (HR.out.below HB8.out) HO8.out (by omega)).mono ?_; rintro e w9 ⟨rfl, hb9⟩; have HB9 := Lib.hid (HB8.out.trans (hb9.mono HB8.out.size)); clear hb9) | (go_at_call 16; refine (lives14 _).mono ?_; rintro e w10 ⟨rfl, hb10⟩))
  go_ret
  exact ⟨rfl, HB9.out.trans (hb10.mono HB9.out.size)⟩
set_option maxHeartbeats 1600000 in
theorem shuffleDeltas_walk (width : Int) (A : Option Addr) (c : Nat) (l : List Int) (w : World) (_hww : (Lit.int .i64 width).wf = true) (hr : ReadsInt w .u8 A l.length l) (hw : ∀ x ∈ l, (Lit.int .u8 x).wf = true) (hc : l.length ≤ c) (hy : l.length * 1 ≤ 140737488351232) :
    Calls Try.prog 6 #[.int .i64 width, .slice A l.length c] w fun e w' => e = .returned (.bool true) ∧ Below w.heap.size w w' := by
  have hl : l.length + 8 ≤ 150000000000000 := by omega
  have HR := Lib.hid (show Rd w A l from hr)
  have HBt := Lib.hid (wf_bts' hw)
  have hXb := mxL_bts deltaL_bts width HBt.out
  have hXl := mxL_length deltaL_length width l
  have hYb := mxL_bts undelL_bts width HBt.out
  have hYl := mxL_length undelL_length width l
  have HXB := Lib.hid hXb
  have HXL := Lib.hid hXl
  have HYB := Lib.hid hYb
  have HYL := Lib.hid hYl
  clear hr hw hy hXb hXl hYb hYl _hww
  go_enter Try.func6, Try.ntmps6
  go_wp2_with fail
  refine (lent_any A c l w HR.out (by omega)).mono ?_
  rintro e w1 ⟨g, cap, rfl, ho1, hb1⟩
  have HO1 := Lib.hid ho1
  have HB1 := Lib.hid hb1
  have hs1 := hb1.size
  clear ho1 hb1
  go_wp2_with fail
  refine (delta_any (some ⟨g, 0, none⟩) cap l width w1 (lent_rd HO1.out) HBt.out (lent_cap HO1.out) (by omega)).mono ?_
  rintro e w2 ⟨vx, rfl, hx, hbx⟩
  have HVX := Lib.hid hx
  have HB2 := Lib.hid hbx
  have hs2 := hbx.size
  clear hx hbx
  go_wp2_with fail
  refine (undelta_any (some ⟨g, 0, none⟩) cap l width w2 ((lent_rd HO1.out).below HB2.out) HBt.out (lent_cap HO1.out) (by omega)).mono ?_
  rintro e w3 ⟨vy, rfl, hx, hbx⟩
  have HVY := Lib.hid hx
  have HB3 := Lib.hid hbx
  have hs3 := hbx.size
  clear hx hbx
  have HB13 := Lib.hid (HB2.out.trans (HB3.out.mono hs2))
  have HB03 := Lib.hid (HB1.out.trans (HB13.out.mono hs1))
  go_wp2_with fail
  refine (refDelta_any A c l width w3 (HR.out.below HB03.out) HBt.out hc (by omega)).mono ?_
  rintro e w4 ⟨vw, rfl, hx, hbx⟩
  have HVW := Lib.hid hx
  have HB4 := Lib.hid hbx
  have hs4 := hbx.size
  clear hx hbx
  have HB04 := Lib.hid (HB03.out.trans (HB4.out.mono HB03.out.size))
  go_wp2_with fail
  refine (refUndelta_any A c l width w4 (HR.out.below HB04.out) HBt.out hc (by omega)).mono ?_
  rintro e w5 ⟨vo, rfl, hx, hbx⟩
  have HVO := Lib.hid hx
  have HB5 := Lib.hid hbx
  have hs5 := hbx.size
  clear hx hbx
  have HB35 := Lib.hid (HB4.out.trans (HB5.out.mono hs4))
  have HB25 := Lib.hid (HB3.out.trans (HB35.out.mono hs3))
  have HB15 := Lib.hid (HB2.out.trans (HB25.out.mono hs2))
  have HB05 := Lib.hid (HB1.out.trans (HB15.out.mono hs1))
  have HVX5 := Lib.hid (own_step HVX.out HB25.out)
  have HVY5 := Lib.hid (own_step HVY.out HB35.out)
  have HVW5 := Lib.hid (own_step HVW.out HB5.out)
  have HO5 := Lib.hid (own_step HO1.out HB15.out)
  have hcx := own_str HVX5.out
  have hcy := own_str HVY5.out
  have hcw := own_str HVW5.out
  have hco := own_str HVO.out
  have hzx : (strOfNums (mxL deltaL width l)).size ≤ 9223372036854775807 := by rw [strOfNums_size]; have := HXL.out; omega
  have hzy : (strOfNums (mxL undelL width l)).size ≤ 9223372036854775807 := by rw [strOfNums_size]; have := HYL.out; omega
  go_wp2_with (go_at_call 22; refine (kept_b A w.heap.size g c cap l _ (HR.out.below HB05.out) HO5.out (by omega)).mono ?_; rintro e w6 ⟨rfl, hb6⟩; clear hcx hcy hcw hco)
  have HB6 := Lib.hid hb6
  have hs6 := hb6.size
  have HVX6 := Lib.hid (own_step HVX5.out hb6)
  have HVY6 := Lib.hid (own_step HVY5.out hb6)
  have HO6 := Lib.hid (own_step HO5.out hb6)
  have HB06 := Lib.hid (HB05.out.trans (hb6.mono HB05.out.size))
  clear hb6
  refine (spoil_any vx _ HXB.out w1.heap.size w6 HVX6.out (by have := HXL.out; omega)).mono ?_
  rintro e w7 ⟨rfl, hg7⟩
  have hxlo := fun k h => own_lo HVX.out (k := k) h
  have hxhi := fun k h => own_hi HVX.out (k := k) h
  have HVY7 := Lib.hid (own_far HVY6.out hg7 (fun k h1 h2 => by have := hxhi k h1; have := own_lo HVY.out h2; omega))
  have HO7 := Lib.hid (own_far HO6.out hg7 (fun k h1 h2 => by have := hxlo k h1; have := own_hi HO1.out h2; omega))
  have HB7 := Lib.hid (HB06.out.grown hg7 HB06.out.size (fun k h1 => by have := hxlo k h1; omega))
  clear hg7 hxlo hxhi
  go_wp2_with fail
  refine (spoil_any vy _ HYB.out w2.heap.size w7 HVY7.out (by have := HYL.out; omega)).mono ?_
  rintro e w8 ⟨rfl, hg8⟩
  have hylo := fun k h => own_lo HVY.out (k := k) h
  have HO8 := Lib.hid (own_far HO7.out hg8 (fun k h1 h2 => by have := hylo k h1; have := own_hi HO1.out h2; omega))
  have HB8 := Lib.hid (HB7.out.grown hg8 HB7.out.size (fun k h1 => by have := hylo k h1; omega))
  clear hg8 hylo
  go_wp2_with (first | (go_at_call 22; refine (kept_b A w.heap.size g c cap l _ (HR.out.below HB8.out) HO8.out (by omega)).mono ?_; rintro e w9 ⟨rfl, hb9⟩; have HB9 := Lib.hid (HB8.out.trans (hb9.mono HB8.out.size)); clear hb9) | (go_at_call 16; refine (lives14 _).mono ?_; rintro e w10 ⟨rfl, hb10⟩))
  go_ret
  exact ⟨rfl, HB9.out.trans (hb10.mono HB9.out.size)⟩
end Go.Proofs.Ythbnhepmmiiikaa
