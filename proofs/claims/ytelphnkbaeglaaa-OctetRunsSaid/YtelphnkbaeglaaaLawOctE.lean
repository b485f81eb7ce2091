/-
  OctetRuns: the walk. No premise.
-/
import Derived.Test.YtelphnkbaeglaaaLawOctB
namespace Go.Proofs.Ytelphnkbaeglaaa
open Go.RowKit Go.Proofs.YtelphnkbaeglaaaW.PrintWords

theorem pbL_bts {b x : List Int} (hb : Bts b) (hx : Bts x) : Bts (pbL b x) := by
  have h1 : Bts (b ++ dig 4 true x.length ++ x) := (hb.append (dig_bts 4 true x.length)).append hx
  rw [pbL]
  by_cases h : x.length ≤ 65536
  · rw [if_pos h]
    exact h1
  · rw [if_neg h]
    exact Bts.nil
theorem pbL_len (b x : List Int) : (pbL b x).length ≤ b.length + 70000 := by
  have h1 : (b ++ dig 4 true x.length ++ x).length = b.length + 4 + x.length := by rw [List.length_append, List.length_append, dig_length]
  rw [pbL]
  by_cases h : x.length ≤ 65536
  · rw [if_pos h, h1]
    omega
  · rw [if_neg h]
    exact Nat.zero_le _
theorem gbL_bts {b : List Int} (hb : Bts b) (at_ : Int) : Bts (gbL b at_) := by
  unfold gbL
  split
  · exact (hb.drop _).take _
  · exact Bts.nil
theorem gbL_len (b : List Int) (at_ : Int) : (gbL b at_).length ≤ b.length := by
  unfold gbL
  split
  · simp; omega
  · simp

set_option maxHeartbeats 3200000 in
theorem octetRuns_walk (A : Option Addr) (c : Nat) (l : List Int) (B : Option Addr) (d : Nat) (x : List Int) (at_ : Int) (w : World)
    (hr : ReadsInt w .u8 A l.length l) (hw : ∀ x ∈ l, (Lit.int .u8 x).wf = true) (_hc : l.length ≤ c) (hy : l.length * 1 ≤ 140737488351232)
    (hrx : ReadsInt w .u8 B x.length x) (hwx : ∀ y ∈ x, (Lit.int .u8 y).wf = true) (_hd : x.length ≤ d) (hyx : x.length * 1 ≤ 140737488351232) (hwa : (Lit.int .i64 at_).wf = true) :
    Calls Try.prog 8 #[.slice A l.length c, .slice B x.length d, .int .i64 at_] w fun e w' => e = .returned (.bool true) ∧ Below w.heap.size w w' := by
  obtain ⟨ha, ha2⟩ := wf_i64 hwa
  have hl : l.length ≤ 140737488351232 := by omega
  have hxl : x.length ≤ 140737488351232 := by omega
  have HR := Lib.hid (show Rd w A l from hr)
  have HBt := Lib.hid (wf_bts hw)
  have HRx := Lib.hid (show Rd w B x from hrx)
  have HBx := Lib.hid (wf_bts hwx)
  have hXb := pbL_bts HBt.out HBx.out
  have hXl := pbL_len l x
  obtain ⟨X, hX⟩ : ∃ X, pbL l x = X := ⟨_, rfl⟩
  rw [hX] at hXb hXl
  have HX := Lib.hid hX
  have HXB := Lib.hid hXb
  have hGb := gbL_bts HBt.out at_
  have hGl := gbL_len l at_
  obtain ⟨G, hG⟩ : ∃ G, gbL l at_ = G := ⟨_, rfl⟩
  rw [hG] at hGb hGl
  have HG := Lib.hid hG
  have HGB := Lib.hid hGb
  clear hX hXb hG hGb hwa hr hw hy hrx hwx hyx
  go_enter Try.func8, Try.ntmps8
  go_wp2_with fail
  refine (lent_any A c l w HR.out (by omega)).mono ?_
  rintro e w1 ⟨g, cap, rfl, ho1, hb1⟩
  have HO1 := Lib.hid ho1
  have HB1 := Lib.hid hb1
  have hs1 := hb1.size
  have hcap : l.length ≤ cap := by have := (own_open ho1).2.2.1; omega
  clear ho1 hb1
  go_wp2_with fail
  refine (lent_any B d x w1 (HRx.out.below HB1.out) (by omega)).mono ?_
  rintro e w2 ⟨g2, cap2, rfl, ho2, hb2⟩
  have HO2 := Lib.hid ho2
  have HB2 := Lib.hid (HB1.out.trans (hb2.mono hs1))
  have HO1b := Lib.hid (own_step HO1.out hb2)
  have hs2 := hb2.size
  clear ho2 hb2
  go_wp2_with fail
  refine (putbytes_any (some ⟨g, 0, none⟩) (some ⟨g2, 0, none⟩) cap cap2 l x w2 (lent_rd HO1b.out) (lent_rd HO2.out) (by omega) (by omega)).mono ?_
  rintro e w3 ⟨vl, rfl, hx3, hb3⟩
  rw [HX.out] at hx3
  have HVL := Lib.hid hx3
  have hs3 := hb3.size
  have HB3 := Lib.hid hb3
  clear hx3 hb3
  go_wp2_with fail
  refine (refPutBytes_any A B c d l x w3 (HR.out.below (HB2.out.trans (HB3.out.mono (by omega)))) (HRx.out.below (HB2.out.trans (HB3.out.mono (by omega)))) (by omega) (by omega)).mono ?_
  rintro e w4 ⟨vz, rfl, hx4, hb4⟩
  rw [HX.out] at hx4
  have hs4 := hb4.size
  have hb24 : Below w2.heap.size w2 w4 := HB3.out.trans (hb4.mono hs3)
  have cl := own_str (own_step HVL.out hb4)
  have cz := own_str hx4
  generalize strOfNums X = S at cl cz
  have HVL4 := Lib.hid (own_step HVL.out hb4)
  have HO14 := Lib.hid (own_step HO1b.out hb24)
  have HO24 := Lib.hid (own_step HO2.out hb24)
  have HB4 := Lib.hid (HB2.out.trans (hb24.mono (by omega)))
  clear hx4 hb4 hb24
  go_wp2_with fail
  refine (kept_b A w.heap.size g c cap l _ (HR.out.below HB4.out) HO14.out (by omega)).mono ?_
  rintro e w5 ⟨rfl, hb5⟩
  have hs5 := hb5.size
  have HB5 := Lib.hid hb5
  clear hb5 cl cz
  go_wp2_with fail
  refine (kept_b B w1.heap.size g2 d cap2 x _ (HRx.out.below (HB4.out.trans (HB5.out.mono HB4.out.size))) (own_step HO24.out HB5.out) (by omega)).mono ?_
  rintro e w6 ⟨rfl, hb6⟩
  have hs6 := hb6.size
  have HB6 := Lib.hid (HB5.out.trans (hb6.mono hs5))
  clear hb6
  go_wp2_with fail
  refine (spoil_any vl X HXB.out w2.heap.size w6 (own_step HVL4.out HB6.out) (by omega)).mono ?_
  rintro e w7 ⟨rfl, hg7⟩
  have ho17 := own_far (own_step HO14.out HB6.out) hg7 (fun k h1 h2 => by have := own_lo HVL.out h1; have := own_hi HO1b.out h2; omega)
  have ho27 := own_far (own_step HO24.out HB6.out) hg7 (fun k h1 h2 => by have := own_lo HVL.out h1; have := own_hi HO2.out h2; omega)
  have hb7 : Below w.heap.size w w7 := (HB4.out.trans (HB6.out.mono HB4.out.size)).grown hg7 (by have := HB4.out.size; omega) (fun k h1 => by have := own_lo HVL.out h1; omega)
  have HO17 := Lib.hid ho17
  have HO27 := Lib.hid ho27
  have HB7 := Lib.hid hb7
  have hs7 := hb7.size
  clear ho17 ho27 hb7 hg7
  go_wp2_with fail
  refine (getbytes_any (some ⟨g, 0, none⟩) cap l at_ w7 (lent_rd HO17.out) HBt.out hcap (by omega) ha ha2).mono ?_
  rintro e w8 ⟨vg, rfl, hx8, hb8⟩
  rw [HG.out] at hx8
  have hs8 := hb8.size
  have HVG := Lib.hid hx8
  have HB8 := Lib.hid hb8
  clear hx8 hb8
  go_wp2_with fail
  refine (refGetBytes_any A c l at_ w8 (HR.out.below (HB7.out.trans (HB8.out.mono hs7))) HBt.out _hc (by omega) ha ha2).mono ?_
  rintro e w9 ⟨vh, rfl, hx9, hb9⟩
  rw [HG.out] at hx9
  have hs9 := hb9.size
  have cg := own_str (own_step HVG.out hb9)
  have ch := own_str hx9
  generalize strOfNums G = S at cg ch
  have HVG9 := Lib.hid (own_step HVG.out hb9)
  have hb79 : Below w7.heap.size w7 w9 := HB8.out.trans (hb9.mono hs8)
  have HO19 := Lib.hid (own_step HO17.out hb79)
  have HO29 := Lib.hid (own_step HO27.out hb79)
  have HB9 := Lib.hid (HB7.out.trans (hb79.mono hs7))
  clear hx9 hb9 hb79
  go_wp2_with fail
  refine (spoil_any vg G HGB.out w7.heap.size w9 HVG9.out (by omega)).mono ?_
  rintro e w10 ⟨rfl, hg10⟩
  have ho110 := own_far HO19.out hg10 (fun k h1 h2 => by have := own_lo HVG.out h1; have := own_hi HO17.out h2; omega)
  have ho210 := own_far HO29.out hg10 (fun k h1 h2 => by have := own_lo HVG.out h1; have := own_hi HO27.out h2; omega)
  have hb10 : Below w.heap.size w w10 := HB9.out.grown hg10 HB9.out.size (fun k h1 => by have := own_lo HVG.out h1; omega)
  have HO110 := Lib.hid ho110
  have HO210 := Lib.hid ho210
  have HB10 := Lib.hid hb10
  clear ho110 ho210 hb10 hg10 cg ch
  go_wp2_with fail
  refine (kept_b A w.heap.size g c cap l _ (HR.out.below HB10.out) HO110.out (by omega)).mono ?_
  rintro e w11 ⟨rfl, hb11⟩
  have HB11 := Lib.hid hb11
  have hs11 := hb11.size
  clear hb11
  go_wp2_with fail
  refine (kept_b B w1.heap.size g2 d cap2 x _ (HRx.out.below (HB10.out.trans (HB11.out.mono HB10.out.size))) (own_step HO210.out HB11.out) (by omega)).mono ?_
  rintro e w12 ⟨rfl, hb12⟩
  have HB12 := Lib.hid (HB11.out.trans (hb12.mono hs11))
  clear hb12
  go_wp2_with (go_at_call 15; refine (lives01 _).mono ?_; rintro e w13 ⟨rfl, hb13⟩; have HB13 := Lib.hid (HB12.out.trans (hb13.mono HB12.out.size)); clear hb13)
  go_ret
  exact ⟨rfl, HB10.out.trans (HB13.out.mono HB10.out.size)⟩
end Go.Proofs.Ytelphnkbaeglaaa
