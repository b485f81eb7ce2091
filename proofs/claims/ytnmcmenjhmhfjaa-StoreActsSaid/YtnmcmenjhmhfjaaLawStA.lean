/-
  StoreReads: the walk. No premise.
-/
import Derived.Test.YtnmcmenjhmhfjaaLive03
import Derived.Deep.RegionHeld3
namespace Go.Proofs.Ytnmcmenjhmhfjaa
open Go.RowKit Go.Shelf Go.Proofs.YtnmcmenjhmhfjaaW.PrintWords

theorem fcut_pre (A : Option Addr) (l : List Int) (c : Nat) (hi : Int) (h1 : 0 ≤ hi) (h2 : hi ≤ l.length) (hc : l.length ≤ c) :
    (∀ W : World, (Instr.slice 22 (.slice A l.length c) none (some (.int .i64 hi)) none).run Try.prog W = .ok (.slice A (l.take hi.toNat).length c) W) ∧ (∀ w, Rd w A l → Rd w A (l.take hi.toNat)) := by
  obtain ⟨i0, hi', hz0, hz1, hz2⟩ := info_parts infoB
  obtain ⟨g1, g2⟩ := print_take_int (P := Try.prog) (k := .u8) 22 5 Try.underlying22 hi' hz1 A c l hi h1 h2 hc
  exact ⟨g1, g2.1⟩
theorem own_splitM {w : World} {base : Nat} {v : Value} {l : List Int} (h : Own w base v l) : ∃ A m c, v = .slice A m c ∧ Hid (m = l.length) ∧ Own w base (.slice A m c) l := by
  obtain ⟨A, c, h1, h2, _, _⟩ := own_split h
  exact ⟨A, _, c, h1, rfl, h2⟩
/-- A write for which there is room, no cut planned. -/
theorem write_plain {F : FM} (hoff : F.off = false) (hl : F.left < 0) {a : Nat} {x : List Int} (ha : a ≤ F.b.length) (hm : (a : Int) + x.length ≤ F.most) :
    wE F a x = 0 ∧ (wF F a x).b = layL F.b a x ∧ (wF F a x).off = false ∧ (wF F a x).left = F.left ∧ (wF F a x).most = F.most ∧ (wF F a x).raws = F.raws ++ pcs a x (chN x.length 16) := by
  have hN : x.take (chN x.length 16 * 16) = x := by
    refine List.take_of_length_le ?_
    unfold chN
    omega
  have h1 : wF F a x = FN F a x (chN x.length 16) := by
    unfold wF
    rw [if_neg (by rw [hoff]; decide), if_neg (by omega), if_neg (by omega)]
    unfold wrF
    rw [if_neg (by omega), Int.toNat_natCast]
  have h2 : wE F a x = 0 := by
    unfold wE
    rw [if_neg (by rw [hoff]; decide), if_neg (by omega), if_neg (by omega)]
    unfold wrE
    rw [if_neg (by omega)]
  rw [h1]
  refine ⟨h2, ?_, hoff, ?_, rfl, rfl⟩
  · show layL F.b a (x.take _) = _
    rw [hN]
  · show (if 0 ≤ F.left then F.left - _ else F.left) = F.left
    rw [if_neg (by omega)]
theorem read_plain {F : FM} (hoff : F.off = false) {a n : Nat} (h : a + n ≤ F.b.length) : rdE F a n = 0 ∧ rdL F a n = (F.b.drop a).take n := by
  have h1 : rdE F a n = 0 := by
    unfold rdE
    rw [if_neg (by rw [hoff]; decide), if_neg (by omega), if_neg (by omega)]
  refine ⟨h1, ?_⟩
  unfold rdL
  rw [if_pos h1]
  simp
theorem place_at (pl : Int) (n : Nat) : ∃ (t : Int) (k : Nat), pl.tmod ((n : Int) + 1) = t ∧ -((n : Int) + 1) < t ∧ t < (n : Int) + 1 ∧ (t + (n : Int) + 1).tmod ((n : Int) + 1) = (k : Int) ∧ k ≤ n := by
  have a1 : pl.tmod ((n : Int) + 1) < (n : Int) + 1 := Int.tmod_lt_of_pos _ (by omega)
  have a2 : -((n : Int) + 1) < pl.tmod ((n : Int) + 1) := by
    have := Int.tmod_lt_of_pos (-pl) (show (0 : Int) < (n : Int) + 1 by omega)
    rw [Int.neg_tmod] at this
    omega
  obtain ⟨t, ht⟩ : ∃ t, t = pl.tmod ((n : Int) + 1) := ⟨_, rfl⟩
  rw [← ht] at a1 a2
  have b1 := Int.emod_nonneg (t + (n : Int) + 1) (show (n : Int) + 1 ≠ 0 by omega)
  have b2 := Int.emod_lt_of_pos (t + (n : Int) + 1) (show (0 : Int) < (n : Int) + 1 by omega)
  obtain ⟨k, hk⟩ := Int.eq_ofNat_of_zero_le b1
  refine ⟨t, k, ht.symm, a2, a1, ?_, by omega⟩
  rw [Int.tmod_eq_emod_of_nonneg (by omega)]
  exact hk
set_option maxRecDepth 100000 in
set_option maxHeartbeats 3200000 in
theorem storeReads_walk (B : Option Addr) (cb : Nat) (b : List Int) (pl : Int) (X : Option Addr) (cx : Nat) (x : List Int) (w : World) (hrb : ReadsInt w .u8 B b.length b) (hwb : ∀ x ∈ b, (Lit.int .u8 x).wf = true) (hcb : b.length ≤ cb) (hyb : b.length * 1 ≤ 140737488351232) (_hwp : (Lit.int .i64 pl).wf = true)
    (hrx : ReadsInt w .u8 X x.length x) (hwx : ∀ y ∈ x, (Lit.int .u8 y).wf = true) (hcx : x.length ≤ cx) (hyx : x.length * 1 ≤ 140737488351232) :
    Calls Try.prog 5 #[.slice B b.length cb, .int .i64 pl, .slice X x.length cx] w fun e w' => e = .returned (.bool true) ∧ Below w.heap.size w w' := by
  have HRB := Lib.hid (show Rd w B b from hrb)
  have HRX := Lib.hid (show Rd w X x from hrx)
  have HBB := Lib.hid (wf_bts' hwb)
  have HBX := Lib.hid (wf_bts' hwx)
  clear hrb hwb hrx hwx
  by_cases hbig : 10000 < b.length + x.length
  · go_enter Try.func5, Try.ntmps5
    go_wp2_with (go_at_call 11; refine (lives03 _).mono ?_; rintro e w1 ⟨rfl, hb1⟩)
    go_ret
    exact ⟨rfl, hb1⟩
  obtain ⟨t, k, ht, ht1, ht2, hk, hkn⟩ := place_at pl b.length
  have hn0 : ¬ ((b.length : Int) + 1) = 0 := by omega
  have hn1 : (((b.length : Int) + 1) == 0) = false := by rw [beq_eq_false_iff_ne]; exact hn0
  obtain ⟨F0, hF0⟩ : ∃ F0, F0 = mkF b 20000 := ⟨_, rfl⟩
  obtain ⟨F1, hF1⟩ : ∃ F1, F1 = wF F0 k x := ⟨_, rfl⟩
  have hb0 : F0.b = b := by rw [hF0]; rfl
  have hm0 : F0.most = 20000 := by rw [hF0]; rfl
  obtain ⟨w1e, w1b, w1o, _, _, w1r⟩ := write_plain (F := F0) (a := k) (x := x) (by rw [hF0]; rfl) (by rw [hF0]; show (-1 : Int) < 0; decide) (by rw [hb0]; exact hkn) (by rw [hm0]; omega)
  rw [← hF1] at w1b w1o
  rw [hb0] at w1b
  have hl1 : F1.b.length = max b.length (k + x.length) := by rw [w1b, layL_length _ _ _ hkn]
  have hok : FOk F0 := by rw [hF0]; exact mkF_ok HBB.out (by unfold ofB; omega)
  have hr0 : F0.raws.length ≤ 900000000 := by rw [hF0]; show (0 : Nat) ≤ _; omega
  have hkt : (b.take k).length = k := by rw [List.length_take]; omega
  have hr1 := read_plain (F := F1) (a := k) (n := x.length) w1o (by rw [hl1]; omega)
  have e1 : rdL F1 k x.length = x := by
    rw [hr1.2, w1b]
    unfold layL
    rw [List.drop_append, hkt, List.drop_of_length_le (by omega), Nat.sub_self, List.drop_zero, List.nil_append]
    exact List.take_left
  have hr2 := read_plain (F := F1) (a := 0) (n := k) w1o (by rw [hl1]; omega)
  have e2 : rdL F1 (0 : Nat) k = b.take k := by
    rw [hr2.2, w1b, List.drop_zero]
    unfold layL
    exact List.take_left' hkt
  have HF0 := Lib.hid hF0
  have HF1 := Lib.hid hF1
  have HE1 := Lib.hid w1e
  have HR1E := Lib.hid hr1.1
  have HR1L := Lib.hid e1
  have HR2E := Lib.hid (show rdE F1 0 k = 0 from hr2.1)
  have HR2L := Lib.hid (show rdL F1 0 k = b.take k from e2)
  have HOK := Lib.hid hok
  have HL1 := Lib.hid hl1
  have HW1B := Lib.hid w1b
  have HW1O := Lib.hid w1o
  have HR0 := Lib.hid hr0
  obtain ⟨hcut, hcr⟩ := fcut_pre B b cb (k : Int) (by omega) (by omega) hcb
  rw [Int.toNat_natCast] at hcut hcr
  have HCR := Lib.hid hcr
  have HFR0 := Lib.hid (show Fr (fun _ => 0) w from fun _ _ => rfl)
  have hlb : F1.b.length ≤ 4200000 := by rw [hl1]; omega
  have HLB := Lib.hid hlb
  have hofb : ¬ ofB b 20000 := by unfold ofB; omega
  clear hF0 hF1 w1e w1b w1o w1r hl1 hok hr0 hkt hr1 e1 hr2 e2 hcr hb0 hm0 hlb
  go_enter Try.func5, Try.ntmps5
  go_wp2_with fail
  refine (of_any (fun _ => 0) 1 B cb b 20000 w HFR0.out HRB.out hofb).mono ?_
  rintro e w1 ⟨p, o1, rfl, hf1, hu1, _, _⟩
  rw [← HF0.out] at hf1
  have HFI1 := Lib.hid hf1
  have HU1 := Lib.hid hu1
  clear hf1 hu1 hofb
  go_wp2_with fail
  refine (write_any o1 1 (by decide) (by decide) p F0 k X cx x w1 HFI1.out HU1.out.fr HOK.out (by omega) (by omega) (HU1.out.rd HRX.out (fun _ _ _ => by decide)) (HU1.out.arg (by decide) HRX.out) (by omega) hcx HR0.out).mono ?_
  rintro e w2 ⟨o2, rfl, hu2, hf2⟩
  rw [HE1.out]
  rw [← HF1.out] at hf2
  have HFI2 := Lib.hid hf2
  have HU2 := Lib.hid (HU1.out.trans hu2)
  clear hu2 hf2
  go_wp2_with fail
  refine (read_any o2 1 p F1 k x.length w2 HFI2.out HLB.out (by omega) (by omega) (by omega) (by omega)).mono ?_
  rintro e w3 ⟨vy, rfl, hy3, hb3⟩
  rw [HR1E.out]
  rw [HR1L.out] at hy3
  obtain ⟨Ay, cy, rfl, hy3', _, _⟩ := own_split hy3
  have HY3 := Lib.hid hy3'
  have HFI3 := Lib.hid (HFI2.out.below hb3)
  have HU3 := Lib.hid (HU2.out.below' hb3)
  clear hy3 hy3' hb3
  go_wp2_with fail
  refine (read_any o2 1 p F1 0 k w3 HFI3.out HLB.out (by omega) (by omega) (by omega) (by omega)).mono ?_
  rintro e w4 ⟨vz, rfl, hz4, hb4⟩
  rw [HR2E.out]
  rw [HR2L.out] at hz4
  obtain ⟨Az, cz, rfl, hz4', _, _⟩ := own_split hz4
  have HZ4 := Lib.hid hz4'
  have HY4 := Lib.hid (own_step HY3.out hb4)
  have HFI4 := Lib.hid (HFI3.out.below hb4)
  have HU4 := Lib.hid (HU3.out.below' hb4)
  have HB4 := Lib.hid (HU4.out.below (by decide) (Nat.le_refl _) (fun _ _ => rfl))
  clear hz4 hz4' hb4
  have hX4 : Rd w4 X x := HRX.out.below HB4.out
  have hB4 : Rd w4 B (b.take k) := HCR.out _ (HRB.out.below HB4.out)
  have hv1 : ∀ m, (convert 22 9 (.slice Ay x.length cy)).run Try.prog (w4.drewN m) = .ok (.string (strOfNums x)) (w4.drewN m) := fun m => own_strN HY4.out m
  have hv2 : ∀ m, (convert 22 9 (.slice X x.length cx)).run Try.prog (w4.drewN m) = .ok (.string (strOfNums x)) (w4.drewN m) := fun m => string_of_reads Try.underlying22 Try.underlying5 Try.underlying9 (show ReadsInt (w4.drewN m) .u8 X x.length x from hX4)
  have hv3 : ∀ m, (convert 22 9 (.slice Az (b.take k).length cz)).run Try.prog (w4.drewN m) = .ok (.string (strOfNums (b.take k))) (w4.drewN m) := fun m => own_strN HZ4.out m
  have hv4 : ∀ m, (convert 22 9 (.slice B (b.take k).length cb)).run Try.prog (w4.drewN m) = .ok (.string (strOfNums (b.take k))) (w4.drewN m) := fun m => string_of_reads Try.underlying22 Try.underlying5 Try.underlying9 (show ReadsInt (w4.drewN m) .u8 B (b.take k).length (b.take k) from hB4)
  have hz1 : (strOfNums x).size ≤ 9223372036854775807 := by rw [strOfNums_size]; omega
  have hz2 : (strOfNums (b.take k)).size ≤ 9223372036854775807 := by rw [strOfNums_size, List.length_take]; omega
  obtain ⟨bk, hbk⟩ : ∃ bk, bk = b.take k := ⟨_, rfl⟩
  rw [← hbk] at hcut hv3 hv4 hz2 ⊢
  have HBK := Lib.hid hbk
  clear hbk hX4 hB4
  go_wp2_with fail
  go_quiet (fail)
  clear hv1 hv2 hv3 hv4 hz1 hz2 hcut
  have HFI5 := Lib.hid (HFI4.out.below (w' := w4.drewN nq) (pw_below_drewN (Below.refl _ _) nq))
  have HB5 := Lib.hid (pw_below_drewN HB4.out nq)
  obtain ⟨w5, hw5⟩ : ∃ w5, w5 = w4.drewN nq := ⟨_, rfl⟩
  rw [← hw5] at HFI5 HB5 ⊢
  clear hw5
  by_cases hge : b.length ≤ k + x.length
  · have hl1 : F1.b.length = k + x.length := by have := HL1.out; omega
    have hle : ((F1.b.length : Int) == (k : Int) + (x.length : Int)) = true := by rw [hl1]; simp
    have HLE := Lib.hid hl1
    clear hl1
    go_wp2_with fail
    refine (len_any o2 1 p F1 w5 HFI5.out).mono ?_
    rintro e w6 ⟨rfl, rfl⟩
    rw [HLE.out]
    go_wp2_with (go_at_call 11; refine (lives03 _).mono ?_; rintro e w7 ⟨rfl, hb7⟩)
    go_ret
    exact ⟨rfl, HB5.out.trans (hb7.mono HB5.out.size)⟩
  · have hl1 : F1.b.length = b.length := by have := HL1.out; omega
    have hr3 := read_plain (F := F1) (a := k + x.length) (n := b.length - (k + x.length)) HW1O.out (by omega)
    have e3 : rdL F1 (k + x.length : Nat) (b.length - (k + x.length) : Nat) = b.drop (k + x.length) := by
      rw [hr3.2, HW1B.out]
      unfold layL
      have hkt : (b.take k).length = k := by rw [List.length_take]; omega
      rw [← List.append_assoc, List.drop_append, List.drop_of_length_le (by rw [List.length_append, hkt]; exact Nat.le_refl _), List.nil_append, List.length_append, hkt, Nat.sub_self, List.drop_zero]
      exact List.take_of_length_le (by rw [List.length_drop]; exact Nat.le_refl _)
    have hcast : ((b.length - (k + x.length) : Nat) : Int) = (b.length : Int) - ((k : Int) + (x.length : Int)) := by omega
    have hr3e : rdE F1 ((k : Int) + (x.length : Int)) ((b.length : Int) - ((k : Int) + (x.length : Int))) = 0 := by
      have := hr3.1
      rw [hcast, Int.natCast_add] at this
      exact this
    have hr3l : rdL F1 ((k : Int) + (x.length : Int)) ((b.length : Int) - ((k : Int) + (x.length : Int))) = b.drop (k + x.length) := by
      rw [hcast, Int.natCast_add] at e3
      exact e3
    obtain ⟨B', hsuf, hsr, _⟩ := cut_suf B b cb ((k : Int) + (x.length : Int)) (by omega) (by omega) hcb
    rw [show ((k : Int) + (x.length : Int)).toNat = k + x.length from by omega] at hsuf hsr
    obtain ⟨be, hbe⟩ : ∃ be, be = b.drop (k + x.length) := ⟨_, rfl⟩
    rw [← hbe] at hsuf hsr hr3l
    have HSR := Lib.hid hsr
    have HRE := Lib.hid hr3e
    have HRL := Lib.hid hr3l
    have HLE := Lib.hid hl1
    have HBE := Lib.hid hbe
    clear hr3 e3 hcast hr3e hr3l hsr hl1 hbe
    go_wp2_with fail
    refine (read_any o2 1 p F1 ((k : Int) + (x.length : Int)) ((b.length : Int) - ((k : Int) + (x.length : Int))) w5 HFI5.out HLB.out (by omega) (by omega) (by omega) (by omega)).mono ?_
    rintro e w6 ⟨vw, rfl, hw6, hb6⟩
    rw [HRE.out]
    rw [HRL.out] at hw6
    obtain ⟨Aw, mw, cw, rfl, HMW, hw6'⟩ := own_splitM hw6
    have HB6 := Lib.hid (HB5.out.trans (hb6.mono HB5.out.size))
    have HFI6 := Lib.hid (HFI5.out.below hb6)
    have hbl : be.length ≤ 20000 := by rw [HBE.out, List.length_drop]; omega
    have HC := Lib.hid (show ∀ w', Below w6.heap.size w6 w' → (convert 22 9 (.slice Aw mw cw)).run Try.prog w' = .ok (.string (strOfNums be)) w' ∧ (convert 22 9 (.slice B' be.length (cb - (k + x.length)))).run Try.prog w' = .ok (.string (strOfNums be)) w' from fun w' hb' =>
      ⟨own_str (own_step hw6' hb'), string_of_reads Try.underlying22 Try.underlying5 Try.underlying9 (show ReadsInt w' .u8 B' be.length be from HSR.out _ (HRB.out.below (HB6.out.trans (hb'.mono HB6.out.size))))⟩)
    clear hw6 hw6' hb6
    go_wp2_with fail
    have hz3 : (strOfNums be).size ≤ 9223372036854775807 := by rw [strOfNums_size]; omega
    obtain ⟨s1, s2⟩ := HC.out w6.drew (Below.refl _ _).drew
    have hb0 : Below w6.heap.size w6 w6.drew := (Below.refl _ _).drew
    go_region_held3 (fun W' => (convert 22 9 (.slice Aw mw cw)).run Try.prog W' = .ok (.string (strOfNums be)) W' ∧ (convert 22 9 (.slice B' be.length (cb - (k + x.length)))).run Try.prog W' = .ok (.string (strOfNums be)) W') (first | exact HC.out _ hb9 | exact HC.out _ hb0)
      (first | (go_at_call 20; refine (len_any o2 1 p F1 _ (HFI6.out.below hb0)).mono ?_; rintro e wl ⟨rfl, rfl⟩; rw [HLE.out]) | (go_at_call 11; refine (lives03 _).mono ?_; rintro e w8 ⟨rfl, hb8⟩; have hb9 : Below w6.heap.size w6 w8 := hb0.trans hb8))
    all_goals
      go_wp2_with fail
      go_ret
      exact ⟨rfl, HB6.out.trans (hb9.mono HB6.out.size)⟩
end Go.Proofs.Ytnmcmenjhmhfjaa
