/-
  shuffle.Delta, shuffle.Undelta. No premise.
-/
import Derived.Test.YtdfpikimeihefaaDeP
import Derived.Test.YtdfpikimeihefaaShf2
namespace Go.Proofs.Ytdfpikimeihefaa
open Go.RowKit Go.Proofs.YtdfpikimeihefaaW.PrintWords

set_option maxHeartbeats 400000 in
theorem del1_any (u s : Int) (bx : Addr) (w : World) (hb : w.cell? bx = some (.int .u64 s)) (hf : w.frozen? bx = false) :
    Calls Try.prog 53 #[.int .u64 u, .pointer (some bx)] w fun e w' => e = .returned (.int .u64 ((u - s) % 18446744073709551616)) ∧ w.setCell bx (.int .u64 u) = w' := by
  go_enter Try.func53, Try.ntmps53
  go_wp2_with fail
  go_ret
  refine ⟨?_, rfl⟩
  first | rfl | (rw [IntKind.wrap_u64])
set_option maxHeartbeats 400000 in
theorem und1_any (u s : Int) (bx : Addr) (w : World) (hb : w.cell? bx = some (.int .u64 s)) (hf : w.frozen? bx = false) :
    Calls Try.prog 54 #[.int .u64 u, .pointer (some bx)] w fun e w' => e = .returned (.int .u64 ((s + u) % 18446744073709551616)) ∧ w.setCell bx (.int .u64 ((s + u) % 18446744073709551616)) = w' := by
  go_enter Try.func54, Try.ntmps54
  go_wp2_with fail
  go_ret
  refine ⟨?_, ?_⟩
  all_goals first | rfl | (rw [IntKind.wrap_u64])

theorem shift_back (x : Int) (up wd : Nat) (h : up + 8 * wd = 64) : x * 2 ^ up % 18446744073709551616 / 2 ^ up = x % 2 ^ (8 * wd) := by
  have e : (18446744073709551616 : Int) = 2 ^ (8 * wd) * 2 ^ up := by
    rw [← Int.pow_add, Nat.add_comm, h]
    decide +kernel
  have hp : (0 : Int) < 2 ^ up := Int.pow_pos (by decide)
  rw [e, Int.mul_comm x, Int.mul_comm (2 ^ (8 * wd)), Int.mul_emod_mul_of_pos _ _ hp, Int.mul_ediv_cancel_left _ (by omega)]
theorem fits_mod (x : Int) (wd : Nat) : fitsB (x % 2 ^ (8 * wd)) (wd : Int) = true := by
  unfold fitsB
  have hp : (0 : Int) < 2 ^ (8 * wd) := Int.pow_pos (by decide)
  have e : (8 * (wd : Int)).toNat = 8 * wd := by omega
  rw [e, Int.ediv_eq_zero_of_lt (Int.emod_nonneg _ (by omega)) (Int.emod_lt_of_pos _ hp)]
  simp
theorem put_num (wd : Nat) (h1 : 1 ≤ wd) (h8 : wd ≤ 8) (x : Int) : putL [] (wd : Int) false (x % 2 ^ (8 * wd)) = dig wd false x ∧ putE (wd : Int) (x % 2 ^ (8 * wd)) = 0 := by
  constructor
  · unfold putL
    rw [if_pos ⟨by omega, by omega, fits_mod x wd⟩, List.nil_append, Int.toNat_natCast, dig_mod wd wd (Nat.le_refl _)]
  · unfold putE
    rw [if_pos ⟨by omega, by omega⟩, if_pos (fits_mod x wd)]
theorem rd_nil0 (w : World) : Rd w none [] := ⟨rfl, by simp, fun h => absurd h (by simp)⟩
/-- In place, the first i numbers. -/
def mixN (w : Nat) (f : Nat → Int) (l : List Int) (i : Nat) : List Int := numL w f i ++ l.drop (i * w)
theorem mixN_length (w : Nat) (f : Nat → Int) (l : List Int) (i : Nat) (h : i * w ≤ l.length) : (mixN w f l i).length = l.length := by
  unfold mixN
  rw [List.length_append, numL_length, List.length_drop]
  omega
theorem mixN_step (w : Nat) (f : Nat → Int) (l : List Int) (i : Nat) (h : (i + 1) * w ≤ l.length) : splice (mixN w f l i) (i * w) (dig w false (f i)) = mixN w f l (i + 1) := by
  unfold mixN splice
  have e1 : (numL w f i ++ l.drop (i * w)).take (i * w) = numL w f i := by
    rw [show i * w = (numL w f i).length from (numL_length w f i).symm, List.take_left]
  have e2 : (numL w f i ++ l.drop (i * w)).drop (i * w + (dig w false (f i)).length) = l.drop ((i + 1) * w) := by
    rw [dig_length, ← List.drop_drop, drop_num, List.drop_drop, Nat.succ_mul]
  rw [e1, e2, numL, List.append_assoc]
def stD (w : Nat) (l : List Int) (i : Nat) : Int := lastU w l i
def stU (w : Nat) (l : List Int) (i : Nat) : Int := sumU w l i % 18446744073709551616
def fD (w : Nat) (l : List Int) (i : Nat) : Int := uN w l i - lastU w l i
def fU (w : Nat) (l : List Int) (i : Nat) : Int := sumU w l (i + 1)
theorem stU_succ (w : Nat) (l : List Int) (i : Nat) : (stU w l i + uN w l i) % 18446744073709551616 = stU w l (i + 1) := by
  unfold stU
  show _ = (sumU w l i + uN w l i) % _
  rw [Int.emod_add_emod]
theorem getU_num (l : List Int) (wd i : Nat) (h1 : 1 ≤ wd) (h8 : wd ≤ 8) (h : (i + 1) * wd ≤ l.length) : getU l ((i * wd : Nat) : Int) (wd : Int) false = uN wd l i ∧ getE l ((i * wd : Nat) : Int) (wd : Int) = 0 := by
  rw [Nat.succ_mul] at h
  constructor
  · unfold getU
    rw [if_pos (by omega), Int.toNat_natCast, Int.toNat_natCast]
    rfl
  · unfold getE
    rw [if_pos (by omega), if_neg (by omega)]
theorem mod64_dig (wd : Nat) (h8 : wd ≤ 8) (x : Int) : dig wd false (x % 18446744073709551616) = dig wd false x := by
  have e : (18446744073709551616 : Int) = 2 ^ (8 * 8) := by decide +kernel
  rw [e, dig_mod wd 8 h8]

set_option maxHeartbeats 1600000 in
theorem each_delta (A : Option Addr) (c : Nat) (l : List Int) (width : Int) (b : Nat) (W0 w : World) (hr : Rd W0 A l) (hb : Bts l) (hc : l.length ≤ c) (hl : l.length ≤ 150000000000000) (hB : Below W0.heap.size W0 w) (hb0 : W0.heap.size ≤ b)
    (hbx : w.heap[b]? = some (.cells #[.int .u64 0] 59 (0, 0))) :
    Calls Try.prog 52 #[.int .i64 width, .slice A l.length c, .func (.func 53) #[] #[.pointer (some ⟨b, 0, none⟩)]] w (MixPost deltaL W0 width l) := by
  have HR := Lib.hid hr
  have HBt := Lib.hid hb
  have HB := Lib.hid hB
  have HBX := Lib.hid hbx
  have hs0 := hB.size
  have hbl := blk_lt hbx
  clear hr hb hB hbx
  by_cases hw : 1 ≤ width ∧ width ≤ 8
  · obtain ⟨wd, rfl⟩ := Int.eq_ofNat_of_zero_le (show 0 ≤ width by omega)
    have hE : mxE (wd : Int) = 0 := by unfold mxE; rw [if_pos hw]
    have hL : mxL deltaL (wd : Int) l = deltaL wd l := by unfold mxL; rw [if_pos hw]; rfl
    obtain ⟨n, hn⟩ : ∃ n, n = l.length / wd := ⟨_, rfl⟩
    have hd1 : (l.length : Int).tdiv (wd : Int) = (n : Int) := by rw [Int.tdiv_eq_ediv_of_nonneg (by omega), hn]; exact (Int.natCast_ediv _ _).symm
    have hd2 : (l.length : Int) / (wd : Int) = (n : Int) := by rw [hn]; exact (Int.natCast_ediv _ _).symm
    have hwn : n * wd ≤ l.length := by rw [hn]; exact Nat.div_mul_le_self _ _
    have hnl : n ≤ l.length := by rw [hn]; exact Nat.div_le_self _ _
    have hw1 : 1 ≤ wd := by omega
    have hw8 : wd ≤ 8 := by omega
    have hw0 : ¬ (wd : Int) = 0 := by omega
    obtain ⟨up, hup⟩ : ∃ up : Nat, up + 8 * wd = 64 := ⟨64 - 8 * wd, by omega⟩
    have hupi : (64 : Int) - 8 * (wd : Int) = (up : Int) := by omega
    have hL2 : mxL deltaL (wd : Int) l = mixN wd (fD wd l) l n := by rw [hL, hn]; rfl
    have HE := Lib.hid hE
    have HL := Lib.hid hL2
    clear hE hL hL2 hn hw
    go_enter Try.func52, Try.ntmps52
    go_wp2_with fail
    refine (clone_any A c l w (HR.out.below HB.out) hl).mono ?_
    rintro e w1 ⟨v, rfl, ho, hb1⟩
    have HBX1 := Lib.hid (blk_below HBX.out hb1)
    have HB1 := Lib.hid (HB.out.trans (hb1.mono hs0))
    rcases own_cases ho with ⟨rfl, hz⟩ | ⟨g, cap, rfl⟩
    · subst hz
      have hn0 : n = 0 := by simpa using hnl
      subst hn0
      clear ho hb1
      go_wp2_with fail
      refine wp_loop_once ?_
      go_wp2_with fail
      go_ret2
      refine ⟨_, pair_ret HE.out.symm, ?_, HB1.out⟩
      rw [HL.out]
      have : mixN wd (fD wd []) [] 0 = [] := by unfold mixN numL; simp
      rw [this]
      exact World.ownsRow_nil _ _ _ _
    · have hg := own_lo ho (k := g) rfl
      have hcap := (own_open ho).2.2.1
      have HO := Lib.hid (own_weaken ho hs0)
      clear ho hb1
      go_wp2_with fail
      go_loopw [30] (fun t wr => ∃ i : Nat, i ≤ n ∧ t = .int .i64 i ∧ Hid (Own wr W0.heap.size (.slice (some ⟨g, 0, none⟩) l.length cap) (mixN wd (fD wd l) l i)) ∧ Hid (wr.heap[b]? = some (.cells #[.int .u64 (stD wd l i)] 59 (0, 0))) ∧ Hid (Below W0.heap.size W0 wr)) (fun t _ => n - (intOf t).toNat)
      case atStart => exact ⟨0, by omega, rfl, by have : mixN wd (fD wd l) l 0 = l := by { unfold mixN numL; simp }
                                                  rw [this]; exact HO.out, HBX1.out, HB1.out⟩
      case round =>
        obtain ⟨i, hi, rfl, HOi, HXi, HBi⟩ := hrel
        by_cases hlt : i < n
        · have hi1 : (i + 1) * wd ≤ n * wd := Nat.mul_le_mul_right _ hlt
          have hiwd : (i + 1) * wd = i * wd + wd := Nat.succ_mul i wd
          obtain ⟨hgu, hge⟩ := getU_num l wd i hw1 hw8 (by omega)
          have hmst := mixN_step wd (fD wd l) l i (by omega)
          have hmln := mixN_length wd (fD wd l) l i (by omega)
          have hiw2 : i * wd + wd ≤ l.length := by omega
          clear hi1 hiwd
          obtain ⟨iw, hiw⟩ : ∃ iw, iw = i * wd := ⟨_, rfl⟩
          have hm1 : (i : Int) * (wd : Int) = (iw : Int) := by rw [hiw, Int.natCast_mul]
          rw [← hiw] at hgu hge hmst hiw2
          have hur := uN_range HBt.out wd i
          obtain ⟨u, hu⟩ : ∃ u, u = uN wd l i := ⟨_, rfl⟩
          rw [← hu] at hgu hur
          obtain ⟨s, hs⟩ : ∃ s, s = stD wd l i := ⟨_, rfl⟩
          rw [← hs] at HXi
          obtain ⟨s2, hs2⟩ : ∃ s2, s2 = stD wd l (i + 1) := ⟨_, rfl⟩
          obtain ⟨x, hx⟩ : ∃ x : Int, x = (u - s) % 18446744073709551616 := ⟨_, rfl⟩
          have hst : s2 = u := by rw [hs2, hu]; rfl
          have hfx : dig wd false (fD wd l i) = dig wd false x := by
            rw [hx, mod64_dig wd hw8, show fD wd l i = u - s from by rw [hu, hs]; rfl]
          have hsh := shift_back x up wd hup
          have hpn := put_num wd hw1 hw8 x
          have hcb := blk_cell HXi.out 0
          have hfz := blk_frozen HXi.out 0
          rw [hfx] at hmst
          have HGU := Lib.hid hgu
          have HGE := Lib.hid hge
          have HMS := Lib.hid hmst
          have HML := Lib.hid hmln
          have HPN := Lib.hid hpn
          have HST := Lib.hid hst
          have HS2 := Lib.hid hs2
          have HX := Lib.hid hx
          have HIW := Lib.hid hiw
          have HCB := Lib.hid hcb
          have HFZ := Lib.hid hfz
          have HSH := Lib.hid hsh
          clear hgu hge hmst hmln hpn hst hs2 hx hiw hcb hfz hfx hu hs hsh
          go_wp2_with fail
          refine (get_any A c l (iw : Int) (wd : Int) false _ (HR.out.below HBi.out) HBt.out hc hl (by omega) (by omega)).mono ?_
          rintro e w2 ⟨rfl, hb2⟩
          rw [HGU.out, HGE.out]
          have hsi := HBi.out.size
          have HO2 := Lib.hid (own_step HOi.out hb2)
          have HX2 := Lib.hid (blk_below HXi.out hb2)
          have HB2 := Lib.hid (HBi.out.trans (hb2.mono hsi))
          clear hb2
          go_wp2_with fail
          refine (del1_any u s ⟨b, 0, none⟩ w2 (blk_cell HX2.out 0) (blk_frozen HX2.out 0)).mono ?_
          rintro e w3 ⟨rfl, rfl⟩
          rw [← HX.out]
          have hX3 : (w2.setCell ⟨b, 0, none⟩ (.int .u64 u)).heap[b]? = some (.cells #[.int .u64 s2] 59 (0, 0)) := by
            rw [HST.out]
            exact blk_put HX2.out 0 _ rfl
          have hO3 := own_far HO2.out (set_grown w2 b 0 (.int .u64 u)) (fun k' e h => by injection e with e; have h2 : g = k' := by { injection h }; omega)
          have hB3 := HB2.out.grown (set_grown w2 b 0 (.int .u64 u)) HB2.out.size (fun k' e => by injection e with e; omega)
          generalize w2.setCell ⟨b, 0, none⟩ (.int .u64 u) = w3 at hX3 hO3 hB3
          have HX3 := Lib.hid hX3
          have HO3 := Lib.hid hO3
          have HB3 := Lib.hid hB3
          have hsh : IntKind.u64.wrap (x * 2 ^ up) / 2 ^ up = x % 2 ^ (8 * wd) := by rw [IntKind.wrap_u64]; exact HSH.out
          generalize x % 2 ^ (8 * wd) = y at hsh HPN
          have hs3 := HB3.out.size
          clear hX3 hO3 hB3
          go_wp2_with fail
          refine (put_any none 0 [] (wd : Int) false y _ (rd_nil0 _) (by simp)).mono ?_
          rintro e w4 ⟨vx, rfl, hx4, hb4⟩
          rw [HPN.out.1] at hx4
          rw [HPN.out.2]
          obtain ⟨A4, c4, rfl, hr4⟩ := own_reads hx4
          have hdl : (dig wd false x).length = wd := dig_length ..
          have HR4 := Lib.hid (show Rd w4 A4 (dig wd false x) from hr4)
          have HX4 := Lib.hid (blk_below HX3.out hb4)
          have HO4 := Lib.hid (own_step HO3.out hb4)
          have HB4 := Lib.hid (HB3.out.trans (hb4.mono hs3))
          have HDL := Lib.hid hdl
          rw [hdl]
          have hic : (iw : Int) < (cap : Int) := by omega
          have hil : (iw : Int) ≤ (l.length : Int) := by omega
          clear hx4 hb4 hr4 hdl
          generalize dig wd false x = D at HR4 HMS HDL
          have ho5 := HO4.out
          rw [← HML.out] at ho5
          have HO5 := Lib.hid ho5
          clear ho5
          have hMl := HML.out
          have HTK := Lib.hid (show D.take (l.length - iw) = D from List.take_of_length_le (by rw [HDL.out]; omega))
          generalize mixN wd (fD wd l) l i = X at HO5 HMS HML hMl
          have HMl := Lib.hid hMl
          clear hMl
          go_wp2_with ((with_reducible refine gate_builtin (b := .copy) (xs := #[.tmp 58, .tmp 59]) rfl ?_); refine cpy rfl _ _ rfl W0.heap.size g cap iw X D (some ⟨g, iw, none⟩) A4 (l.length - iw) (cap - iw) c4 rfl (by rw [HDL.out]; rfl) (fun _ => rfl) HO5.out HR4.out (by rw [HMl.out]; omega) ?_)
          intro w5 ho6 hg6
          rw [HTK.out, HMS.out, HMl.out] at ho6
          have HO6 := Lib.hid ho6
          have HX6 := Lib.hid (blk_grown HX4.out hg6 (fun e => by injection e with e; omega))
          have HB6 := Lib.hid (HB4.out.grown hg6 HB4.out.size (fun k' e => by injection e with e; omega))
          clear ho6 hg6
          go_wp2_with fail
          go_roundw
          case rel => exact ⟨i + 1, by omega, by push_cast; rfl, HO6.out, by rw [← HS2.out]; exact HX6.out, HB6.out⟩
          case measure => simp [intOf]; omega
        · have hin : i = n := by omega
          subst hin
          go_wp2_with fail
          go_ret2
          refine ⟨_, pair_ret HE.out.symm, ?_, HBi.out⟩
          rw [HL.out]
          have h1 := HOi.out
          have h2 := mixN_length wd (fD wd l) l i (by omega)
          unfold Own at h1 ⊢
          rw [h2] at h1 ⊢
          exact h1
  · have hE : mxE width = 2 := by unfold mxE; rw [if_neg hw]
    have hL : mxL deltaL width l = [] := by unfold mxL; rw [if_neg hw]
    have HE := Lib.hid hE
    have HL := Lib.hid hL
    clear hE hL
    have hww : width < 1 ∨ (¬ width < 1 ∧ 8 < width) := by omega
    clear hw
    rcases hww with h1 | ⟨h0, h1⟩
    all_goals
      go_enter Try.func52, Try.ntmps52
      go_wp2_with fail
      go_ret2
      refine ⟨.slice none 0 0, pair_ret HE.out.symm, ?_, HB.out⟩
      rw [HL.out]
      exact World.ownsRow_nil _ _ _ _
set_option maxHeartbeats 1600000 in
theorem each_undelta (A : Option Addr) (c : Nat) (l : List Int) (width : Int) (b : Nat) (W0 w : World) (hr : Rd W0 A l) (hb : Bts l) (hc : l.length ≤ c) (hl : l.length ≤ 150000000000000) (hB : Below W0.heap.size W0 w) (hb0 : W0.heap.size ≤ b)
    (hbx : w.heap[b]? = some (.cells #[.int .u64 0] 59 (0, 0))) :
    Calls Try.prog 52 #[.int .i64 width, .slice A l.length c, .func (.func 54) #[] #[.pointer (some ⟨b, 0, none⟩)]] w (MixPost undelL W0 width l) := by
  have HR := Lib.hid hr
  have HBt := Lib.hid hb
  have HB := Lib.hid hB
  have HBX := Lib.hid hbx
  have hs0 := hB.size
  have hbl := blk_lt hbx
  clear hr hb hB hbx
  by_cases hw : 1 ≤ width ∧ width ≤ 8
  · obtain ⟨wd, rfl⟩ := Int.eq_ofNat_of_zero_le (show 0 ≤ width by omega)
    have hE : mxE (wd : Int) = 0 := by unfold mxE; rw [if_pos hw]
    have hL : mxL undelL (wd : Int) l = undelL wd l := by unfold mxL; rw [if_pos hw]; rfl
    obtain ⟨n, hn⟩ : ∃ n, n = l.length / wd := ⟨_, rfl⟩
    have hd1 : (l.length : Int).tdiv (wd : Int) = (n : Int) := by rw [Int.tdiv_eq_ediv_of_nonneg (by omega), hn]; exact (Int.natCast_ediv _ _).symm
    have hd2 : (l.length : Int) / (wd : Int) = (n : Int) := by rw [hn]; exact (Int.natCast_ediv _ _).symm
    have hwn : n * wd ≤ l.length := by rw [hn]; exact Nat.div_mul_le_self _ _
    have hnl : n ≤ l.length := by rw [hn]; exact Nat.div_le_self _ _
    have hw1 : 1 ≤ wd := by omega
    have hw8 : wd ≤ 8 := by omega
    have hw0 : ¬ (wd : Int) = 0 := by omega
    obtain ⟨up, hup⟩ : ∃ up : Nat, up + 8 * wd = 64 := ⟨64 - 8 * wd, by omega⟩
    have hupi : (64 : Int) - 8 * (wd : Int) = (up : Int) := by omega
    have hL2 : mxL undelL (wd : Int) l = mixN wd (fU wd l) l n := by rw [hL, hn]; rfl
    have HE := Lib.hid hE
    have HL := Lib.hid hL2
    clear hE hL hL2 hn hw
    go_enter Try.func52, Try.ntmps52
    go_wp2_with fail
    refine (clone_any A c l w (HR.out.below HB.out) hl).mono ?_
    rintro e w1 ⟨v, rfl, ho, hb1⟩
    have HBX1 := Lib.hid (blk_below HBX.out hb1)
    have HB1 := Lib.hid (HB.out.trans (hb1.mono hs0))
    rcases own_cases ho with ⟨rfl, hz⟩ | ⟨g, cap, rfl⟩
    · subst hz
      have hn0 : n = 0 := by simpa using hnl
      subst hn0
      clear ho hb1
      go_wp2_with fail
      refine wp_loop_once ?_
      go_wp2_with fail
      go_ret2
      refine ⟨_, pair_ret HE.out.symm, ?_, HB1.out⟩
      rw [HL.out]
      have : mixN wd (fU wd []) [] 0 = [] := by unfold mixN numL; simp
      rw [this]
      exact World.ownsRow_nil _ _ _ _
    · have hg := own_lo ho (k := g) rfl
      have hcap := (own_open ho).2.2.1
      have HO := Lib.hid (own_weaken ho hs0)
      clear ho hb1
      go_wp2_with fail
      go_loopw [30] (fun t wr => ∃ i : Nat, i ≤ n ∧ t = .int .i64 i ∧ Hid (Own wr W0.heap.size (.slice (some ⟨g, 0, none⟩) l.length cap) (mixN wd (fU wd l) l i)) ∧ Hid (wr.heap[b]? = some (.cells #[.int .u64 (stU wd l i)] 59 (0, 0))) ∧ Hid (Below W0.heap.size W0 wr)) (fun t _ => n - (intOf t).toNat)
      case atStart => exact ⟨0, by omega, rfl, by have : mixN wd (fU wd l) l 0 = l := by { unfold mixN numL; simp }
                                                  rw [this]; exact HO.out, HBX1.out, HB1.out⟩
      case round =>
        obtain ⟨i, hi, rfl, HOi, HXi, HBi⟩ := hrel
        by_cases hlt : i < n
        · have hi1 : (i + 1) * wd ≤ n * wd := Nat.mul_le_mul_right _ hlt
          have hiwd : (i + 1) * wd = i * wd + wd := Nat.succ_mul i wd
          obtain ⟨hgu, hge⟩ := getU_num l wd i hw1 hw8 (by omega)
          have hmst := mixN_step wd (fU wd l) l i (by omega)
          have hmln := mixN_length wd (fU wd l) l i (by omega)
          have hiw2 : i * wd + wd ≤ l.length := by omega
          clear hi1 hiwd
          obtain ⟨iw, hiw⟩ : ∃ iw, iw = i * wd := ⟨_, rfl⟩
          have hm1 : (i : Int) * (wd : Int) = (iw : Int) := by rw [hiw, Int.natCast_mul]
          rw [← hiw] at hgu hge hmst hiw2
          have hur := uN_range HBt.out wd i
          obtain ⟨u, hu⟩ : ∃ u, u = uN wd l i := ⟨_, rfl⟩
          rw [← hu] at hgu hur
          obtain ⟨s, hs⟩ : ∃ s, s = stU wd l i := ⟨_, rfl⟩
          rw [← hs] at HXi
          obtain ⟨s2, hs2⟩ : ∃ s2, s2 = stU wd l (i + 1) := ⟨_, rfl⟩
          obtain ⟨x, hx⟩ : ∃ x : Int, x = (s + u) % 18446744073709551616 := ⟨_, rfl⟩
          have hst : s2 = (s + u) % 18446744073709551616 := by rw [hs2, hs, hu]; exact (stU_succ wd l i).symm
          have hfx : dig wd false (fU wd l i) = dig wd false x := by
            rw [hx, mod64_dig wd hw8, ← mod64_dig wd hw8 (fU wd l i), ← mod64_dig wd hw8 (s + u), hs, hu, stU_succ, show stU wd l (i + 1) = fU wd l i % 18446744073709551616 from rfl]
          have hsh := shift_back x up wd hup
          have hpn := put_num wd hw1 hw8 x
          have hcb := blk_cell HXi.out 0
          have hfz := blk_frozen HXi.out 0
          rw [hfx] at hmst
          have HGU := Lib.hid hgu
          have HGE := Lib.hid hge
          have HMS := Lib.hid hmst
          have HML := Lib.hid hmln
          have HPN := Lib.hid hpn
          have HST := Lib.hid hst
          have HS2 := Lib.hid hs2
          have HX := Lib.hid hx
          have HIW := Lib.hid hiw
          have HCB := Lib.hid hcb
          have HFZ := Lib.hid hfz
          have HSH := Lib.hid hsh
          clear hgu hge hmst hmln hpn hst hs2 hx hiw hcb hfz hfx hu hs hsh
          go_wp2_with fail
          refine (get_any A c l (iw : Int) (wd : Int) false _ (HR.out.below HBi.out) HBt.out hc hl (by omega) (by omega)).mono ?_
          rintro e w2 ⟨rfl, hb2⟩
          rw [HGU.out, HGE.out]
          have hsi := HBi.out.size
          have HO2 := Lib.hid (own_step HOi.out hb2)
          have HX2 := Lib.hid (blk_below HXi.out hb2)
          have HB2 := Lib.hid (HBi.out.trans (hb2.mono hsi))
          clear hb2
          go_wp2_with fail
          refine (und1_any u s ⟨b, 0, none⟩ w2 (blk_cell HX2.out 0) (blk_frozen HX2.out 0)).mono ?_
          rintro e w3 ⟨rfl, rfl⟩
          rw [← HX.out]
          have hX3 : (w2.setCell ⟨b, 0, none⟩ (.int .u64 x)).heap[b]? = some (.cells #[.int .u64 s2] 59 (0, 0)) := by
            rw [HST.out, ← HX.out]
            exact blk_put HX2.out 0 _ rfl
          have hO3 := own_far HO2.out (set_grown w2 b 0 (.int .u64 x)) (fun k' e h => by injection e with e; have h2 : g = k' := by { injection h }; omega)
          have hB3 := HB2.out.grown (set_grown w2 b 0 (.int .u64 x)) HB2.out.size (fun k' e => by injection e with e; omega)
          generalize w2.setCell ⟨b, 0, none⟩ (.int .u64 x) = w3 at hX3 hO3 hB3
          have HX3 := Lib.hid hX3
          have HO3 := Lib.hid hO3
          have HB3 := Lib.hid hB3
          have hsh : IntKind.u64.wrap (x * 2 ^ up) / 2 ^ up = x % 2 ^ (8 * wd) := by rw [IntKind.wrap_u64]; exact HSH.out
          generalize x % 2 ^ (8 * wd) = y at hsh HPN
          have hs3 := HB3.out.size
          clear hX3 hO3 hB3
          go_wp2_with fail
          refine (put_any none 0 [] (wd : Int) false y _ (rd_nil0 _) (by simp)).mono ?_
          rintro e w4 ⟨vx, rfl, hx4, hb4⟩
          rw [HPN.out.1] at hx4
          rw [HPN.out.2]
          obtain ⟨A4, c4, rfl, hr4⟩ := own_reads hx4
          have hdl : (dig wd false x).length = wd := dig_length ..
          have HR4 := Lib.hid (show Rd w4 A4 (dig wd false x) from hr4)
          have HX4 := Lib.hid (blk_below HX3.out hb4)
          have HO4 := Lib.hid (own_step HO3.out hb4)
          have HB4 := Lib.hid (HB3.out.trans (hb4.mono hs3))
          have HDL := Lib.hid hdl
          rw [hdl]
          have hic : (iw : Int) < (cap : Int) := by omega
          have hil : (iw : Int) ≤ (l.length : Int) := by omega
          clear hx4 hb4 hr4 hdl
          generalize dig wd false x = D at HR4 HMS HDL
          have ho5 := HO4.out
          rw [← HML.out] at ho5
          have HO5 := Lib.hid ho5
          clear ho5
          have hMl := HML.out
          have HTK := Lib.hid (show D.take (l.length - iw) = D from List.take_of_length_le (by rw [HDL.out]; omega))
          generalize mixN wd (fU wd l) l i = X at HO5 HMS HML hMl
          have HMl := Lib.hid hMl
          clear hMl
          go_wp2_with ((with_reducible refine gate_builtin (b := .copy) (xs := #[.tmp 58, .tmp 59]) rfl ?_); refine cpy rfl _ _ rfl W0.heap.size g cap iw X D (some ⟨g, iw, none⟩) A4 (l.length - iw) (cap - iw) c4 rfl (by rw [HDL.out]; rfl) (fun _ => rfl) HO5.out HR4.out (by rw [HMl.out]; omega) ?_)
          intro w5 ho6 hg6
          rw [HTK.out, HMS.out, HMl.out] at ho6
          have HO6 := Lib.hid ho6
          have HX6 := Lib.hid (blk_grown HX4.out hg6 (fun e => by injection e with e; omega))
          have HB6 := Lib.hid (HB4.out.grown hg6 HB4.out.size (fun k' e => by injection e with e; omega))
          clear ho6 hg6
          go_wp2_with fail
          go_roundw
          case rel => exact ⟨i + 1, by omega, by push_cast; rfl, HO6.out, by rw [← HS2.out]; exact HX6.out, HB6.out⟩
          case measure => simp [intOf]; omega
        · have hin : i = n := by omega
          subst hin
          go_wp2_with fail
          go_ret2
          refine ⟨_, pair_ret HE.out.symm, ?_, HBi.out⟩
          rw [HL.out]
          have h1 := HOi.out
          have h2 := mixN_length wd (fU wd l) l i (by omega)
          unfold Own at h1 ⊢
          rw [h2] at h1 ⊢
          exact h1
  · have hE : mxE width = 2 := by unfold mxE; rw [if_neg hw]
    have hL : mxL undelL width l = [] := by unfold mxL; rw [if_neg hw]
    have HE := Lib.hid hE
    have HL := Lib.hid hL
    clear hE hL
    have hww : width < 1 ∨ (¬ width < 1 ∧ 8 < width) := by omega
    clear hw
    rcases hww with h1 | ⟨h0, h1⟩
    all_goals
      go_enter Try.func52, Try.ntmps52
      go_wp2_with fail
      go_ret2
      refine ⟨.slice none 0 0, pair_ret HE.out.symm, ?_, HB.out⟩
      rw [HL.out]
      exact World.ownsRow_nil _ _ _ _
set_option maxHeartbeats 400000 in
theorem delta_any (A : Option Addr) (c : Nat) (l : List Int) (width : Int) (w : World) (hr : Rd w A l) (hb : Bts l) (hc : l.length ≤ c) (hl : l.length ≤ 150000000000000) :
    Calls Try.prog 35 #[.int .i64 width, .slice A l.length c] w (MixPost deltaL w width l) := by
  have HR := Lib.hid hr
  have HBt := Lib.hid hb
  have hB0 := (Below.refl w.heap.size w).alloc (Nat.le_refl _) (.cells #[.int .u64 0] 59)
  have HB0 := Lib.hid hB0
  clear hr hB0 hb
  go_enter Try.func35, Try.ntmps35
  go_wp2_with fail
  refine (each_delta A c l width w.heap.size w _ HR.out HBt.out hc hl HB0.out (Nat.le_refl _) (blk_new _ _)).mono ?_
  rintro e w1 ⟨v, rfl, ho, hb⟩
  have HO := Lib.hid ho
  have HB := Lib.hid hb
  clear ho hb
  go_wp2_with fail
  go_ret2
  exact ⟨_, rfl, HO.out, HB.out⟩
set_option maxHeartbeats 400000 in
theorem undelta_any (A : Option Addr) (c : Nat) (l : List Int) (width : Int) (w : World) (hr : Rd w A l) (hb : Bts l) (hc : l.length ≤ c) (hl : l.length ≤ 150000000000000) :
    Calls Try.prog 37 #[.int .i64 width, .slice A l.length c] w (MixPost undelL w width l) := by
  have HR := Lib.hid hr
  have HBt := Lib.hid hb
  have hB0 := (Below.refl w.heap.size w).alloc (Nat.le_refl _) (.cells #[.int .u64 0] 59)
  have HB0 := Lib.hid hB0
  clear hr hB0 hb
  go_enter Try.func37, Try.ntmps37
  go_wp2_with fail
  refine (each_undelta A c l width w.heap.size w _ HR.out HBt.out hc hl HB0.out (Nat.le_refl _) (blk_new _ _)).mono ?_
  rintro e w1 ⟨v, rfl, ho, hb⟩
  have HO := Lib.hid ho
  have HB := Lib.hid hb
  clear ho hb
  go_wp2_with fail
  go_ret2
  exact ⟨_, rfl, HO.out, HB.out⟩
end Go.Proofs.Ytdfpikimeihefaa
