/-
  The references of layer 1 (slabvaultref01): Get, Signed. No premise.
-/
import Derived.Test.YtelphnkbaeglaaaRef2
namespace Go.Proofs.Ytelphnkbaeglaaa
open Go.RowKit Go.Proofs.YtelphnkbaeglaaaW.PrintWords

theorem rdI_cut (b : List Int) (m n j : Nat) (h : j < n) : rdI ((b.drop m).take n) j = rdI b (m + j) := by
  simp [rdI, List.getD_eq_getElem?_getD, h]

theorem u64_acc (x y : Int) (h0 : 0 ≤ x) (h1 : x < 72057594037927936) (hy : 0 ≤ y) (hy2 : y ≤ 255) : IntKind.u64.wrap (IntKind.u64.wrap (x * 256) + IntKind.u64.wrap y) = x * 256 + y := by
  simp only [IntKind.wrap_u64]
  omega

set_option maxHeartbeats 800000 in
theorem refGet_any (A : Option Addr) (c : Nat) (l : List Int) (at_ width : Int) (big : Bool) (w : World) (hr : Rd w A l) (hb : Bts l) (hl : l.length ≤ 150000000000000) (ha : -9223372036854775808 ≤ at_) (ha2 : at_ ≤ 9223372036854775807) :
    Calls Try.prog 19 #[.slice A l.length c, .int .i64 at_, .int .i64 width, .bool big] w fun e w' => e = .returned (.tuple #[.int .u64 (getU l at_ width big), .int .i64 (getE l at_ width)]) ∧ w = w' := by
  have HR := Lib.hid hr
  have HBt := Lib.hid hb
  clear hr hb
  by_cases h1 : width < 1
  · go_enter Try.func19, Try.ntmps19
    go_wp2_with fail
    go_ret2
    exact ⟨ret2' (by rw [getU, if_neg (by omega)]) (by rw [getE, if_neg (by omega)]), rfl⟩
  by_cases h2 : 8 < width
  · go_enter Try.func19, Try.ntmps19
    go_wp2_with fail
    go_ret2
    exact ⟨ret2' (by rw [getU, if_neg (by omega)]) (by rw [getE, if_neg (by omega)]), rfl⟩
  by_cases h3 : at_ < 0
  · go_enter Try.func19, Try.ntmps19
    go_wp2_with fail
    go_ret2
    exact ⟨ret2' (by rw [getU, if_neg (by omega)]) (by rw [getE, if_neg (by omega)]), rfl⟩
  by_cases h4 : (l.length : Int) < at_
  · go_enter Try.func19, Try.ntmps19
    go_wp2_with fail
    go_ret2
    exact ⟨ret2' (by rw [getU, if_neg (by omega)]) (by rw [getE, if_neg (by omega)]), rfl⟩
  by_cases h5 : (l.length : Int) - at_ < width
  · go_enter Try.func19, Try.ntmps19
    go_wp2_with fail
    go_ret2
    exact ⟨ret2' (by rw [getU, if_neg (by omega)]) (by rw [getE, if_pos (by omega), if_pos h5]), rfl⟩
  obtain ⟨m, rfl⟩ := Int.eq_ofNat_of_zero_le (show 0 ≤ at_ by omega)
  obtain ⟨n, rfl⟩ := Int.eq_ofNat_of_zero_le (show 0 ≤ width by omega)
  have h1n : 1 ≤ n := by omega
  have h2n : n ≤ 8 := by omega
  have h3n : m + n ≤ l.length := by omega
  obtain ⟨ad, rfl, hcc⟩ := HR.out.2.2 (by omega)
  have HC := Lib.hid hcc
  clear hcc h1 h2 h3 h4 h5
  have fin : Ending.returned (.tuple #[.int .u64 (hrn ((l.drop m).take n) n big n), .int .i64 0]) = .returned (.tuple #[.int .u64 (getU l m n big), .int .i64 (getE l m n)]) :=
    ret2' (by rw [hrn_all, getU, if_pos (by omega)]; rfl) (by rw [getE, if_pos (by omega), if_neg (by omega)])
  have FIN := Lib.hid fin
  clear fin
  have hbl : Bts ((l.drop m).take n) := (HBt.out.drop _).take _
  have HBl := Lib.hid hbl
  clear hbl
  cases big
  · go_enter Try.func19, Try.ntmps19
    go_wp2_with fail
    go_loop [10, 11] (fun u i => ∃ k : Nat, k ≤ n ∧ i = .int .i64 k ∧ u = .int .u64 (hrn ((l.drop m).take n) n false k)) (fun _ i => n - (intOf i).toNat)
    case atStart => exact ⟨0, by omega, rfl, rfl⟩
    case round =>
      obtain ⟨k, hk, rfl, rfl⟩ := hrel
      by_cases hlt : k < n
      · have hg := hrn_range HBl.out n false k
        have hp := pow_le56 k (by omega)
        have hd := HBl.out.at (n - 1 - k)
        have hc := HC.out (m + (n - 1 - k)) (by omega)
        have hs : hrn ((l.drop m).take n) n false (k + 1) = hrn ((l.drop m).take n) n false k * 256 + rdI ((l.drop m).take n) (n - 1 - k) := by
          simp only [hrn, dgt, if_false, Bool.false_eq_true]
        rw [show l.getD (m + (n - 1 - k)) 0 = rdI ((l.drop m).take n) (n - 1 - k) from (rdI_cut l m n _ (by omega)).symm] at hc
        have ha := u64_acc (hrn ((l.drop m).take n) n false k) (rdI ((l.drop m).take n) (n - 1 - k)) hg.1 (by omega) hd.1 hd.2
        generalize rdI ((l.drop m).take n) (n - 1 - k) = y at hd hc hs ha
        generalize hrn ((l.drop m).take n) n false k = x at hg hs ha
        have HS := Lib.hid hs
        clear hs
        have hc2 : w.cell? (ad.add (m + n - 1 - k)) = some (.int .u8 y) := by rw [show m + n - 1 - k = m + (n - 1 - k) from by omega]; exact hc
        go_wp2_with fail
        go_round
        case rel => exact ⟨k + 1, by omega, by go_num, by rw [HS.out]⟩
        case measure => simp [intOf]; omega
      · go_wp2_with fail
        go_ret2
        obtain rfl : k = n := by omega
        exact ⟨FIN.out, rfl⟩
  · go_enter Try.func19, Try.ntmps19
    go_wp2_with fail
    go_loop [10, 11] (fun u i => ∃ k : Nat, k ≤ n ∧ i = .int .i64 k ∧ u = .int .u64 (hrn ((l.drop m).take n) n true k)) (fun _ i => n - (intOf i).toNat)
    case atStart => exact ⟨0, by omega, rfl, rfl⟩
    case round =>
      obtain ⟨k, hk, rfl, rfl⟩ := hrel
      by_cases hlt : k < n
      · have hg := hrn_range HBl.out n true k
        have hp := pow_le56 k (by omega)
        have hd := HBl.out.at (k)
        have hc := HC.out (m + (k)) (by omega)
        have hs : hrn ((l.drop m).take n) n true (k + 1) = hrn ((l.drop m).take n) n true k * 256 + rdI ((l.drop m).take n) (k) := by
          simp only [hrn, dgt, if_true]
          rw [show n - 1 - (n - 1 - k) = k from by omega]
        rw [show l.getD (m + (k)) 0 = rdI ((l.drop m).take n) (k) from (rdI_cut l m n _ (by omega)).symm] at hc
        have ha := u64_acc (hrn ((l.drop m).take n) n true k) (rdI ((l.drop m).take n) (k)) hg.1 (by omega) hd.1 hd.2
        generalize rdI ((l.drop m).take n) (k) = y at hd hc hs ha
        generalize hrn ((l.drop m).take n) n true k = x at hg hs ha
        have HS := Lib.hid hs
        clear hs
        go_wp2_with fail
        go_round
        case rel => exact ⟨k + 1, by omega, by go_num, by rw [HS.out]⟩
        case measure => simp [intOf]; omega
      · go_wp2_with fail
        go_ret2
        obtain rfl : k = n := by omega
        exact ⟨FIN.out, rfl⟩

theorem pow_step (k : Nat) : (2 : Int) * 2 ^ k = 2 ^ (k + 1) := by rw [Int.pow_succ, Int.mul_comm]
theorem pow_le55 (k : Nat) (hk : k ≤ 55) : (2 : Int) ^ k ≤ 36028797018963968 := by
  have hp : (2 : Nat) ^ k ≤ 2 ^ 55 := Nat.pow_le_pow_right (by decide) hk
  have e : (2 : Int) ^ k = ((2 ^ k : Nat) : Int) := by norm_cast
  rw [e]
  have e2 : (2 : Nat) ^ 55 = 36028797018963968 := rfl
  omega
theorem pow_le62 (k : Nat) (hk : k ≤ 62) : 0 < (2 : Int) ^ k ∧ (2 : Int) ^ k ≤ 4611686018427387904 := by
  refine ⟨Int.pow_pos (by decide), ?_⟩
  have hp : (2 : Nat) ^ k ≤ 2 ^ 62 := Nat.pow_le_pow_right (by decide) hk
  have e : (2 : Int) ^ k = ((2 ^ k : Nat) : Int) := by norm_cast
  rw [e]
  have e2 : (2 : Nat) ^ 62 = 4611686018427387904 := rfl
  omega

set_option maxHeartbeats 800000 in
theorem refSigned_any (u width : Int) (w : World) (hu : 0 ≤ u) (hu2 : u < 18446744073709551616) :
    Calls Try.prog 17 #[.int .u64 u, .int .i64 width] w fun e w' => e = .returned (.tuple #[.int .i64 (sgnR u width), .int .i64 (putE width u)]) ∧ w = w' := by
  by_cases h1 : width < 1
  · go_enter Try.func17, Try.ntmps17
    go_wp2_with fail
    go_ret2
    exact ⟨ret2' (by rw [sgnR, if_neg (by omega)]) (by rw [putE, if_neg (by omega)]), rfl⟩
  by_cases h2 : 8 < width
  · go_enter Try.func17, Try.ntmps17
    go_wp2_with fail
    go_ret2
    exact ⟨ret2' (by rw [sgnR, if_neg (by omega)]) (by rw [putE, if_neg (by omega)]), rfl⟩
  obtain ⟨n, rfl⟩ := Int.eq_ofNat_of_zero_le (show 0 ≤ width by omega)
  have h1n : 1 ≤ n := by omega
  have h2n : n ≤ 8 := by omega
  clear h1 h2
  by_cases h3 : fitsB u n = true
  · by_cases h8 : n = 8
    · subst h8
      go_enter Try.func17, Try.ntmps17
      go_wp2_with (go_at_call 29; refine (refFits_any _ 8 _ h2n hu hu2).mono ?_; rintro e w' ⟨rfl, rfl⟩)
      go_ret2
      exact ⟨ret2' (by rw [show ((8 : Nat) : Int) = 8 from rfl, sgnR_8 u h3]) (by rw [putE, if_pos (by omega), if_pos h3]), rfl⟩
    · have h8b : ((n : Int) == 8) = false := by simp; omega
      have h8c : n ≤ 7 := by omega
      clear h8
      go_enter Try.func17, Try.ntmps17
      go_wp2_with (go_at_call 29; refine (refFits_any _ n _ h2n hu hu2).mono ?_; rintro e w' ⟨rfl, rfl⟩)
      go_loop [6, 7] (fun h i => ∃ k : Nat, k + 1 ≤ 8 * n ∧ i = .int .i64 ((k : Int) + 1) ∧ h = .int .u64 (2 ^ k)) (fun _ i => (8 * (n : Int) - intOf i).toNat)
      case atStart => exact ⟨0, by omega, rfl, rfl⟩
      case round =>
        obtain ⟨k, hk, rfl, rfl⟩ := hrel
        have hp := pow_le62 k (by omega)
        have hst := pow_step k
        by_cases hlt : k + 1 < 8 * n
        · have hp2 := pow_le62 (k + 1) (by omega)
          have HST := Lib.hid hst
          generalize hx : (2 : Int) ^ k = x at hp HST
          have HX := Lib.hid hx
          clear hst hx
          go_wp2_with fail
          go_round
          case rel => exact ⟨k + 1, by omega, by go_num, by rw [← HST.out]⟩
          case measure => simp [intOf]; omega
        · have hlo := fun h => sgnR_lo u n k h1n h8c h3 (by omega) h
          have hhi := fun h => sgnR_hi u n k h1n h8c h3 (by omega) h
          have hub := fits_lt u n h8c h3
          have h55 := pow_le55 k (by omega)
          rw [show 8 * n = k + 1 from by omega, ← hst] at hub
          generalize (2 : Int) ^ k = x at hp hub hlo hhi h55
          have HLO := Lib.hid hlo
          have HHI := Lib.hid hhi
          clear hst hlo hhi
          by_cases hge : x ≤ u
          · go_wp2_with fail
            go_ret2
            exact ⟨ret2' (HHI.out hge).symm (by rw [putE, if_pos (by omega), if_pos h3]), rfl⟩
          · go_wp2_with fail
            go_ret2
            exact ⟨ret2' (HLO.out hge).symm (by rw [putE, if_pos (by omega), if_pos h3]), rfl⟩
  · have h3 := Bool.eq_false_iff.2 h3
    go_enter Try.func17, Try.ntmps17
    go_wp2_with (go_at_call 29; refine (refFits_any _ n _ h2n hu hu2).mono ?_; rintro e w' ⟨rfl, rfl⟩)
    go_ret2
    exact ⟨ret2' (by rw [sgnR, if_neg (fun h => by rw [h3] at h; exact absurd h.2.2 (by simp))]) (by rw [putE, if_pos (by omega), h3]; rfl), rfl⟩

set_option maxHeartbeats 800000 in
theorem refPutBytes_any (A B : Option Addr) (c d : Nat) (b x : List Int) (w : World) (hr : Rd w A b) (hx : Rd w B x) (hl : b.length + 4 + 65536 ≤ 150000000000000) (hxl : x.length ≤ 150000000000000) :
    Calls Try.prog 23 #[.slice A b.length c, .slice B x.length d] w (PbPost w b x) := by
  have HR := Lib.hid hr
  have HX := Lib.hid hx
  clear hr hx
  by_cases h1 : 65536 < x.length
  · go_enter Try.func23, Try.ntmps23
    go_wp2_with fail
    go_ret2
    refine ⟨.slice none 0 0, ret2 (by rw [pbE, if_neg (by omega)]), ?_, Below.refl _ _⟩
    rw [pbL, if_neg (by omega)]
    exact World.ownsRow_nil _ _ _ _
  · have h1' : x.length ≤ 65536 := by omega
    have HO0 := Lib.hid (own_empty w w.heap.size (Nat.le_refl _))
    have HB0 := Lib.hid ((Below.refl w.heap.size w).alloc (Nat.le_refl _) (.cells #[] 5))
    go_enter Try.func23, Try.ntmps23
    go_wp2_with (first | ((with_reducible refine gate_builtin (b := .append) (xs := #[.tmp 9, .tmp 10]) rfl ?_); refine app w.heap.size rfl _ _ rfl (.slice (some ⟨w.heap.size, 0, none⟩) 0 0) [] b A c rfl rfl HO0.out (HR.out.below HB0.out) (by simp) (by simp; omega) ?_; intro v1 w1 h1 h2; have H1 := Lib.hid h1; have H2 := Lib.hid (HB0.out.grown h2 (by simp) (by simp [Value.ownBlock])); clear h1 h2) | (go_at_call 30; refine (refDigits_any 4 true x.length _ (by decide) (by omega) (by omega)).mono ?_; rintro e w2 ⟨v2, rfl, ho, hb⟩; obtain ⟨A', c', hv, hrd⟩ := own_reads ho; have hrd' : Rd w2 A' (dig 4 true x.length) := hrd; have HRD := Lib.hid hrd'; subst hv; have H3 := Lib.hid hb; clear hrd hrd' ho hb) | ((with_reducible refine gate_builtin (b := .append) (xs := #[.tmp 11, .tmp 15]) rfl ?_); refine app w.heap.size rfl _ _ rfl v1 ([] ++ b) (dig 4 true x.length) A' c' rfl rfl (pw_own_below H1.out H3.out) HRD.out (by have := H2.out.size; have := H3.out.size; omega) (by rw [dig_length]; simp; omega) ?_; intro v3 w3 h4 h5; have H4 := Lib.hid h4; have H5 := Lib.hid ((H2.out.trans (H3.out.mono H2.out.size)).grown h5 (by have := H2.out.size; have := H3.out.size; omega) (fun k hk => own_base H1.out k hk)); clear h4 h5) | ((with_reducible refine gate_builtin (b := .append) (xs := #[.tmp 16, .tmp 17]) rfl ?_); refine app w.heap.size rfl _ _ rfl v3 ([] ++ b ++ dig 4 true x.length) x B d rfl rfl H4.out (HX.out.below H5.out) H5.out.size (by rw [List.length_append, dig_length]; simp; omega) ?_; intro v4 w4 h7 h8; have H7 := Lib.hid h7; have H8 := Lib.hid (H5.out.grown h8 H5.out.size (fun k hk => own_base H4.out k hk)); clear h7 h8))
    go_ret2
    refine ⟨_, ret2 (by rw [pbE, if_pos h1']), ?_, H8.out⟩
    rw [pbL, if_pos h1']
    exact H7.out

set_option maxHeartbeats 800000 in
theorem refGetBytes_any (A : Option Addr) (c : Nat) (b : List Int) (at_ : Int) (w : World) (hr : Rd w A b) (hb : Bts b) (hc : b.length ≤ c) (hl : b.length ≤ 150000000000000) (ha : -9223372036854775808 ≤ at_) (ha2 : at_ ≤ 9223372036854775807) :
    Calls Try.prog 25 #[.slice A b.length c, .int .i64 at_] w (GbPost w b at_) := by
  have HR := Lib.hid hr
  have HBt := Lib.hid hb
  clear hr hb
  by_cases h1 : getE b at_ 4 = 0
  · have h1b : (getE b at_ 4 != 0) = false := by simp [h1]
    have hr1 : 0 ≤ at_ ∧ at_ + 4 ≤ b.length := by
      unfold getE at h1
      split at h1
      · split at h1 <;> omega
      · omega
    have hu : 0 ≤ getU b at_ 4 true ∧ getU b at_ 4 true < 4294967296 := by
      rw [getU, if_pos (by omega)]
      exact getk_range ((HBt.out.drop _).take _) 4 true 4
    obtain ⟨u, hu'⟩ : ∃ u, u = getU b at_ 4 true := ⟨_, rfl⟩
    have hE : gbE b at_ = if 65536 < u then 3 else if (b.length : Int) - at_ - 4 < u then 4 else 0 := by rw [gbE, if_neg (by omega), hu']
    have HE := Lib.hid hE
    have HU := Lib.hid hu'
    have H1 := Lib.hid h1
    rw [← hu'] at hu
    clear hE hu' h1
    by_cases h2 : 65536 < u
    · go_enter Try.func25, Try.ntmps25
      go_wp2_with (go_at_call 19; refine (refGet_any A c b at_ 4 true _ HR.out HBt.out hl ha ha2).mono ?_; rintro e w1 ⟨rfl, rfl⟩; rw [H1.out, ← HU.out])
      go_ret3
      have hE := HE.out
      rw [if_pos h2] at hE
      refine ⟨.slice none 0 0, ret3 (by rw [gbN, if_neg (by omega)]) hE.symm, ?_, Below.refl _ _⟩
      rw [gbL, if_neg (by omega)]
      exact World.ownsRow_nil _ _ _ _
    by_cases h3 : (b.length : Int) - at_ - 4 < u
    · go_enter Try.func25, Try.ntmps25
      go_wp2_with (go_at_call 19; refine (refGet_any A c b at_ 4 true _ HR.out HBt.out hl ha ha2).mono ?_; rintro e w1 ⟨rfl, rfl⟩; rw [H1.out, ← HU.out])
      go_ret3
      have hE := HE.out
      rw [if_neg (by omega), if_pos h3] at hE
      refine ⟨.slice none 0 0, ret3 (by rw [gbN, if_neg (by omega)]) hE.symm, ?_, Below.refl _ _⟩
      rw [gbL, if_neg (by omega)]
      exact World.ownsRow_nil _ _ _ _
    obtain ⟨A', l', hl', hll, hcut, hrd, hcap⟩ := cut_int A b c (at_ + 4) (at_ + 4 + u) (by omega) (by omega) (by omega) hc
    have HRD := Lib.hid hrd
    have HO0 := Lib.hid (own_empty w w.heap.size (Nat.le_refl _))
    have HB0 := Lib.hid ((Below.refl w.heap.size w).alloc (Nat.le_refl _) (.cells #[] 5))
    clear hrd
    go_enter Try.func25, Try.ntmps25
    go_wp2_with (first | (go_at_call 19; refine (refGet_any A c b at_ 4 true _ HR.out HBt.out hl ha ha2).mono ?_; rintro e w1 ⟨rfl, rfl⟩; rw [H1.out, ← HU.out]) | ((with_reducible refine gate_builtin (b := .append) (xs := #[.tmp 28, .tmp 37]) rfl ?_); refine app w.heap.size rfl _ _ rfl (.slice (some ⟨w.heap.size, 0, none⟩) 0 0) [] l' A' (c - (at_ + 4).toNat) rfl rfl HO0.out (HRD.out _ (HR.out.below HB0.out)) (by simp) (by have := hll.out; simp; omega) ?_; intro v1 w1 h1 h2; have H1 := Lib.hid h1; have H2 := Lib.hid (HB0.out.grown h2 (by simp) (by simp [Value.ownBlock])); clear h1 h2))
    have hE := HE.out
    rw [if_neg (by omega), if_neg (by omega)] at hE
    go_ret3
    refine ⟨v1, ret3 (by rw [gbN, if_pos hE, HU.out]) hE.symm, ?_, H2.out⟩
    rw [gbL, if_pos hE]
    have := H1.out
    rw [hl'.out, HU.out] at this
    rw [show (at_ + 4).toNat = at_.toNat + 4 from by omega, show (at_ + 4 + getU b at_ 4 true - (at_ + 4)) = getU b at_ 4 true from by omega] at this
    exact this
  · have h1b : (getE b at_ 4 != 0) = true := by simp [h1]
    have hE : gbE b at_ = getE b at_ 4 := by rw [gbE, if_pos h1]
    have HE := Lib.hid hE
    clear hE
    go_enter Try.func25, Try.ntmps25
    go_wp2_with (go_at_call 19; refine (refGet_any A c b at_ 4 true _ HR.out HBt.out hl ha ha2).mono ?_; rintro e w1 ⟨rfl, rfl⟩)
    go_ret3
    have hE := HE.out
    refine ⟨.slice none 0 0, ret3 (by rw [gbN, if_neg (by omega)]) hE.symm, ?_, Below.refl _ _⟩
    rw [gbL, if_neg (by omega)]
    exact World.ownsRow_nil _ _ _ _
end Go.Proofs.Ytelphnkbaeglaaa
