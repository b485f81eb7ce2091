/-
  shuffle.Shuffle, shuffle.Unshuffle. No premise.
-/
import Derived.Test.YtdfpikimeihefaaShP
namespace Go.Proofs.Ytdfpikimeihefaa
open Go.RowKit Go.Proofs.YtdfpikimeihefaaW.PrintWords

theorem rd_cell {W : World} {ad : Addr} {l : List Int} (h : Rd W (some ad) l) (j : Nat) (hj : j < l.length) : W.cell? (ad.add j) = some (.int .u8 (rdI l j)) := by
  obtain ⟨ad', e, h⟩ := h.2.2 (by omega)
  injection e with e
  subst e
  exact h j hj
set_option maxHeartbeats 400000 in
theorem sh1_any (g n cap : Nat) (A : Addr) (m c : Nat) (p r x : Int) (bx : Addr) (w : World) (hp0 : 0 ≤ p) (hp1 : p < m) (hr0 : 0 ≤ r) (hr1 : r < n) (hb : w.cell? bx = some (.slice (some A) m c)) (hx : w.cell? (A.add p.toNat) = some (.int .u8 x))
    (ho : ∃ v0, w.cell? ⟨g, r.toNat, none⟩ = some v0) (hf : w.frozen? ⟨g, r.toNat, none⟩ = false) :
    Calls Try.prog 50 #[.slice (some ⟨g, 0, none⟩) n cap, .int .i64 p, .int .i64 r, .pointer (some bx)] w fun e w' => e = .returned (.tuple #[]) ∧ w.setCell ⟨g, r.toNat, none⟩ (.int .u8 x) = w' := by
  obtain ⟨v0, ho⟩ := ho
  go_enter Try.func50, Try.ntmps50
  go_wp2_with fail
  go_end0
  exact ⟨rfl, rfl⟩
set_option maxHeartbeats 400000 in
theorem un1_any (g n cap : Nat) (A : Addr) (m c : Nat) (p r x : Int) (bx : Addr) (w : World) (hp0 : 0 ≤ p) (hp1 : p < n) (hr0 : 0 ≤ r) (hr1 : r < m) (hb : w.cell? bx = some (.slice (some A) m c)) (hx : w.cell? (A.add r.toNat) = some (.int .u8 x))
    (ho : ∃ v0, w.cell? ⟨g, p.toNat, none⟩ = some v0) (hf : w.frozen? ⟨g, p.toNat, none⟩ = false) :
    Calls Try.prog 51 #[.slice (some ⟨g, 0, none⟩) n cap, .int .i64 p, .int .i64 r, .pointer (some bx)] w fun e w' => e = .returned (.tuple #[]) ∧ w.setCell ⟨g, p.toNat, none⟩ (.int .u8 x) = w' := by
  obtain ⟨v0, ho⟩ := ho
  go_enter Try.func51, Try.ntmps51
  go_wp2_with fail
  go_end0
  exact ⟨rfl, rfl⟩

def mxE (width : Int) : Int := if 1 ≤ width ∧ width ≤ 8 then 0 else 2
def mxL (f : Nat → List Int → List Int) (width : Int) (l : List Int) : List Int := if 1 ≤ width ∧ width ≤ 8 then f width.toNat l else []
def MixPost (f : Nat → List Int → List Int) (w : World) (width : Int) (l : List Int) (e : Ending) (w' : World) : Prop :=
  ∃ v, e = .returned (.tuple #[v, .int .i64 (mxE width)]) ∧ Own w' w.heap.size v (mxL f width l) ∧ Below w.heap.size w w'

set_option maxHeartbeats 1600000 in
theorem swap_shuf (A : Option Addr) (c : Nat) (l : List Int) (width : Int) (bx : Addr) (w : World) (hr : Rd w A l) (hl : l.length ≤ 150000000000000) (hbx : w.cell? bx = some (.slice A l.length c)) :
    Calls Try.prog 49 #[.int .i64 width, .slice A l.length c, .func (.func 50) #[] #[.pointer (some bx)]] w (MixPost shufL w width l) := by
  have HR := Lib.hid hr
  have HBX := Lib.hid hbx
  clear hr hbx
  by_cases hw : 1 ≤ width ∧ width ≤ 8
  · obtain ⟨wd, rfl⟩ := Int.eq_ofNat_of_zero_le (show 0 ≤ width by omega)
    have hE : mxE (wd : Int) = 0 := by unfold mxE; rw [if_pos hw]
    have hL : mxL shufL (wd : Int) l = shufL wd l := by unfold mxL; rw [if_pos hw]; rfl
    obtain ⟨n, hn⟩ : ∃ n, n = l.length / wd := ⟨_, rfl⟩
    have hd1 : (l.length : Int).tdiv (wd : Int) = (n : Int) := by rw [Int.tdiv_eq_ediv_of_nonneg (by omega), hn]; exact (Int.natCast_ediv _ _).symm
    have hd2 : (l.length : Int) / (wd : Int) = (n : Int) := by rw [hn]; exact (Int.natCast_ediv _ _).symm
    have hwn : wd * n ≤ l.length := by rw [hn]; exact Nat.mul_div_le _ _
    have hnl : n ≤ l.length := by rw [hn]; exact Nat.div_le_self _ _
    have hw1 : 1 ≤ wd := by omega
    have hw8 : wd ≤ 8 := by omega
    have hw0 : ¬ (wd : Int) = 0 := by omega
    have HE := Lib.hid hE
    have HL := Lib.hid hL
    have HN := Lib.hid hn
    clear hE hL hn hw
    go_enter Try.func49, Try.ntmps49
    go_wp2_with fail
    refine (clone_any A c l w HR.out hl).mono ?_
    rintro e w1 ⟨v, rfl, ho, hb⟩
    have HB := Lib.hid hb
    rcases own_cases ho with ⟨rfl, hz⟩ | ⟨g, cap, rfl⟩
    · subst hz
      have hn0 : n = 0 := by simpa using hnl
      subst hn0
      clear ho hb
      go_wp2_with fail
      refine wp_loop_once ?_
      go_wp2_with fail
      go_ret2
      refine ⟨_, pair_ret HE.out.symm, ?_, HB.out⟩
      rw [HL.out]
      have : shufL wd [] = [] := by unfold shufL preL; simp
      rw [this]
      exact World.ownsRow_nil _ _ _ _
    · have hg := own_lo ho (k := g) rfl
      have HO := Lib.hid ho
      clear ho hb
      go_wp2_with fail
      go_loopw [25] (fun t wr => ∃ i : Nat, i ≤ n ∧ t = .int .i64 i ∧ Hid (Own wr w.heap.size (.slice (some ⟨g, 0, none⟩) l.length cap) (mixS wd n l i 0)) ∧ Hid (w1.grownBy wr (some g))) (fun t _ => n - (intOf t).toNat)
      case atStart => exact ⟨0, by omega, rfl, by rw [mixS_start]; exact HO.out, World.grownBy.refl _ _⟩
      case round =>
        obtain ⟨i, hi, rfl, HOi, HGi⟩ := hrel
        by_cases hlt : i < n
        · obtain ⟨iw, hiw⟩ : ∃ iw, iw = i * wd := ⟨_, rfl⟩
          have hm1 : (i : Int) * (wd : Int) = (iw : Int) := by rw [hiw, Int.natCast_mul]
          have HIW := Lib.hid hiw
          clear hiw
          go_wp2_with fail
          go_loopw [29] (fun t wr2 => ∃ k : Nat, k ≤ wd ∧ t = .int .i64 k ∧ Hid (Own wr2 w.heap.size (.slice (some ⟨g, 0, none⟩) l.length cap) (mixS wd n l i k)) ∧ Hid (w1.grownBy wr2 (some g))) (fun t _ => wd - (intOf t).toNat)
          case atStart => exact ⟨0, by omega, rfl, HOi.out, HGi.out⟩
          case round =>
            obtain ⟨k, hk, rfl, HOk, HGk⟩ := hrel
            by_cases hkl : k < wd
            · obtain ⟨kn, hkn⟩ : ∃ kn, kn = k * n := ⟨_, rfl⟩
              have hm2 : (k : Int) * (n : Int) = (kn : Int) := by rw [hkn, Int.natCast_mul]
              have hp := place_in hlt hkl
              have hq := rank_in hlt hkl
              rw [← HIW.out] at hp
              rw [← hkn] at hq
              have hst := mixS_step hwn hlt hkl
              rw [← HIW.out, ← hkn] at hst
              have HST := Lib.hid hst
              clear hkn hst
              obtain ⟨ad, rfl, hcc⟩ := HR.out.2.2 (by omega)
              have hBW := Lib.hid (HB.out.grown HGk.out HB.out.size (fun k' e => by injection e with e; omega))
              have hpt : ((iw : Int) + (k : Int)).toNat = iw + k := by omega
              have hqt : ((kn : Int) + (i : Int)).toNat = kn + i := by omega
              have hx1 := rd_cell (HR.out.below hBW.out) (iw + k) (by omega)
              have hlm : (mixS wd n l i k).length = l.length := mixS_length ..
              obtain ⟨ho1, hf1⟩ := own_cell HOk.out ((kn + i : Nat) : Int) (by omega) (by rw [hlm]; omega)
              rw [Int.toNat_natCast] at ho1 hf1
              have h9 := own_setc HOk.out ((kn + i : Nat) : Int) (rdI l (iw + k))
              rw [Int.toNat_natCast, HST.out] at h9
              have hB9 := HBX.out
              have hB8 := hBW.out.cell (p := bx) (World.block_lt_of_cell? w _ (by rw [hB9]))
              rw [hB9] at hB8
              have HX1 := Lib.hid hx1
              have HO1 := Lib.hid ho1
              have HF1 := Lib.hid hf1
              have HPT := Lib.hid hpt
              have HQT := Lib.hid hqt
              have HB8 := Lib.hid hB8
              have H9 := Lib.hid h9
              clear hcc hx1 ho1 hf1 hpt hqt hlm hB9 hB8 h9
              go_wp2_with fail
              refine (sh1_any g l.length cap ad l.length c ((iw : Int) + (k : Int)) ((kn : Int) + (i : Int)) (rdI l (iw + k)) bx _ (by omega) (by omega) (by omega) (by omega) HB8.out (by rw [HPT.out]; exact HX1.out) (by rw [HQT.out]; exact ⟨_, HO1.out⟩) (by rw [HQT.out]; exact HF1.out)).mono ?_
              rintro e w2 ⟨rfl, rfl⟩
              go_wp2_with fail
              go_roundw
              case rel =>
                refine ⟨k + 1, by omega, by push_cast; rfl, ?_, ?_⟩
                · exact H9.out
                · exact HGk.out.trans (set_grown _ _ _ _)
              case measure => simp [intOf]; omega
            · have hkw : k = wd := by omega
              subst hkw
              rw [mixS_next] at HOk
              go_wp2_with fail
              go_roundw
              case rel => exact ⟨i + 1, by omega, by push_cast; rfl, HOk.out, HGk.out⟩
              case measure => simp [intOf]; omega
        · have hin : i = n := by omega
          subst hin
          go_wp2_with fail
          go_ret2
          refine ⟨_, pair_ret HE.out.symm, ?_, HB.out.grown HGi.out HB.out.size (fun k' e => by injection e with e; omega)⟩
          rw [HL.out, ← mixS_end, ← HN.out]
          have h1 := HOi.out
          unfold Own at h1 ⊢
          rw [mixS_length] at h1 ⊢
          exact h1
  · have hE : mxE width = 2 := by unfold mxE; rw [if_neg hw]
    have hL : mxL shufL width l = [] := by unfold mxL; rw [if_neg hw]
    have HE := Lib.hid hE
    have HL := Lib.hid hL
    clear hE hL
    have hww : width < 1 ∨ (¬ width < 1 ∧ 8 < width) := by omega
    clear hw
    rcases hww with h1 | ⟨h0, h1⟩
    all_goals
      go_enter Try.func49, Try.ntmps49
      go_wp2_with fail
      go_ret2
      refine ⟨.slice none 0 0, pair_ret HE.out.symm, ?_, Below.refl _ _⟩
      rw [HL.out]
      exact World.ownsRow_nil _ _ _ _
set_option maxHeartbeats 1600000 in
theorem swap_unsh (A : Option Addr) (c : Nat) (l : List Int) (width : Int) (bx : Addr) (w : World) (hr : Rd w A l) (hl : l.length ≤ 150000000000000) (hbx : w.cell? bx = some (.slice A l.length c)) :
    Calls Try.prog 49 #[.int .i64 width, .slice A l.length c, .func (.func 51) #[] #[.pointer (some bx)]] w (MixPost unshL w width l) := by
  have HR := Lib.hid hr
  have HBX := Lib.hid hbx
  clear hr hbx
  by_cases hw : 1 ≤ width ∧ width ≤ 8
  · obtain ⟨wd, rfl⟩ := Int.eq_ofNat_of_zero_le (show 0 ≤ width by omega)
    have hE : mxE (wd : Int) = 0 := by unfold mxE; rw [if_pos hw]
    have hL : mxL unshL (wd : Int) l = unshL wd l := by unfold mxL; rw [if_pos hw]; rfl
    obtain ⟨n, hn⟩ : ∃ n, n = l.length / wd := ⟨_, rfl⟩
    have hd1 : (l.length : Int).tdiv (wd : Int) = (n : Int) := by rw [Int.tdiv_eq_ediv_of_nonneg (by omega), hn]; exact (Int.natCast_ediv _ _).symm
    have hd2 : (l.length : Int) / (wd : Int) = (n : Int) := by rw [hn]; exact (Int.natCast_ediv _ _).symm
    have hwn : wd * n ≤ l.length := by rw [hn]; exact Nat.mul_div_le _ _
    have hnl : n ≤ l.length := by rw [hn]; exact Nat.div_le_self _ _
    have hw1 : 1 ≤ wd := by omega
    have hw8 : wd ≤ 8 := by omega
    have hw0 : ¬ (wd : Int) = 0 := by omega
    have HE := Lib.hid hE
    have HL := Lib.hid hL
    have HN := Lib.hid hn
    clear hE hL hn hw
    go_enter Try.func49, Try.ntmps49
    go_wp2_with fail
    refine (clone_any A c l w HR.out hl).mono ?_
    rintro e w1 ⟨v, rfl, ho, hb⟩
    have HB := Lib.hid hb
    rcases own_cases ho with ⟨rfl, hz⟩ | ⟨g, cap, rfl⟩
    · subst hz
      have hn0 : n = 0 := by simpa using hnl
      subst hn0
      clear ho hb
      go_wp2_with fail
      refine wp_loop_once ?_
      go_wp2_with fail
      go_ret2
      refine ⟨_, pair_ret HE.out.symm, ?_, HB.out⟩
      rw [HL.out]
      have : unshL wd [] = [] := by unfold unshL preL; simp
      rw [this]
      exact World.ownsRow_nil _ _ _ _
    · have hg := own_lo ho (k := g) rfl
      have HO := Lib.hid ho
      clear ho hb
      go_wp2_with fail
      go_loopw [25] (fun t wr => ∃ i : Nat, i ≤ n ∧ t = .int .i64 i ∧ Hid (Own wr w.heap.size (.slice (some ⟨g, 0, none⟩) l.length cap) (mixU wd n l (i * wd))) ∧ Hid (w1.grownBy wr (some g))) (fun t _ => n - (intOf t).toNat)
      case atStart => exact ⟨0, by omega, rfl, by rw [Nat.zero_mul, mixU_start]; exact HO.out, World.grownBy.refl _ _⟩
      case round =>
        obtain ⟨i, hi, rfl, HOi, HGi⟩ := hrel
        by_cases hlt : i < n
        · obtain ⟨iw, hiw⟩ : ∃ iw, iw = i * wd := ⟨_, rfl⟩
          have hm1 : (i : Int) * (wd : Int) = (iw : Int) := by rw [hiw, Int.natCast_mul]
          have HIW := Lib.hid hiw
          clear hiw
          go_wp2_with fail
          go_loopw [29] (fun t wr2 => ∃ k : Nat, k ≤ wd ∧ t = .int .i64 k ∧ Hid (Own wr2 w.heap.size (.slice (some ⟨g, 0, none⟩) l.length cap) (mixU wd n l (i * wd + k))) ∧ Hid (w1.grownBy wr2 (some g))) (fun t _ => wd - (intOf t).toNat)
          case atStart => exact ⟨0, by omega, rfl, HOi.out, HGi.out⟩
          case round =>
            obtain ⟨k, hk, rfl, HOk, HGk⟩ := hrel
            by_cases hkl : k < wd
            · obtain ⟨kn, hkn⟩ : ∃ kn, kn = k * n := ⟨_, rfl⟩
              have hm2 : (k : Int) * (n : Int) = (kn : Int) := by rw [hkn, Int.natCast_mul]
              have hp := place_in hlt hkl
              have hq := rank_in hlt hkl
              rw [← HIW.out] at hp
              rw [← hkn] at hq
              have hst := mixU_step hwn hlt hkl
              rw [← HIW.out, ← hkn] at hst
              rw [← HIW.out] at HOk
              have HST := Lib.hid hst
              clear hkn hst
              obtain ⟨ad, rfl, hcc⟩ := HR.out.2.2 (by omega)
              have hBW := Lib.hid (HB.out.grown HGk.out HB.out.size (fun k' e => by injection e with e; omega))
              have hpt : ((iw : Int) + (k : Int)).toNat = iw + k := by omega
              have hqt : ((kn : Int) + (i : Int)).toNat = kn + i := by omega
              have hx1 := rd_cell (HR.out.below hBW.out) (kn + i) (by omega)
              have hlm : (mixU wd n l (iw + k)).length = l.length := mixU_length ..
              obtain ⟨ho1, hf1⟩ := own_cell HOk.out ((iw + k : Nat) : Int) (by omega) (by rw [hlm]; omega)
              rw [Int.toNat_natCast] at ho1 hf1
              have h9 := own_setc HOk.out ((iw + k : Nat) : Int) (rdI l (kn + i))
              rw [Int.toNat_natCast, HST.out] at h9
              have hB9 := HBX.out
              have hB8 := hBW.out.cell (p := bx) (World.block_lt_of_cell? w _ (by rw [hB9]))
              rw [hB9] at hB8
              have HX1 := Lib.hid hx1
              have HO1 := Lib.hid ho1
              have HF1 := Lib.hid hf1
              have HPT := Lib.hid hpt
              have HQT := Lib.hid hqt
              have HB8 := Lib.hid hB8
              have H9 := Lib.hid h9
              clear hcc hx1 ho1 hf1 hpt hqt hlm hB9 hB8 h9
              go_wp2_with fail
              refine (un1_any g l.length cap ad l.length c ((iw : Int) + (k : Int)) ((kn : Int) + (i : Int)) (rdI l (kn + i)) bx _ (by omega) (by omega) (by omega) (by omega) HB8.out (by rw [HQT.out]; exact HX1.out) (by rw [HPT.out]; exact ⟨_, HO1.out⟩) (by rw [HPT.out]; exact HF1.out)).mono ?_
              rintro e w2 ⟨rfl, rfl⟩
              go_wp2_with fail
              go_roundw
              case rel =>
                refine ⟨k + 1, by omega, by push_cast; rfl, ?_, ?_⟩
                · rw [← HIW.out]
                  exact H9.out
                · exact HGk.out.trans (set_grown _ _ _ _)
              case measure => simp [intOf]; omega
            · have hkw : k = wd := by omega
              subst hkw
              rw [← Nat.succ_mul] at HOk
              go_wp2_with fail
              go_roundw
              case rel => exact ⟨i + 1, by omega, by push_cast; rfl, HOk.out, HGk.out⟩
              case measure => simp [intOf]; omega
        · have hin : i = n := by omega
          subst hin
          go_wp2_with fail
          go_ret2
          refine ⟨_, pair_ret HE.out.symm, ?_, HB.out.grown HGi.out HB.out.size (fun k' e => by injection e with e; omega)⟩
          rw [HL.out, ← mixU_end, ← HN.out, Nat.mul_comm]
          have h1 := HOi.out
          unfold Own at h1 ⊢
          rw [mixU_length] at h1 ⊢
          exact h1
  · have hE : mxE width = 2 := by unfold mxE; rw [if_neg hw]
    have hL : mxL unshL width l = [] := by unfold mxL; rw [if_neg hw]
    have HE := Lib.hid hE
    have HL := Lib.hid hL
    clear hE hL
    have hww : width < 1 ∨ (¬ width < 1 ∧ 8 < width) := by omega
    clear hw
    rcases hww with h1 | ⟨h0, h1⟩
    all_goals
      go_enter Try.func49, Try.ntmps49
      go_wp2_with fail
      go_ret2
      refine ⟨.slice none 0 0, pair_ret HE.out.symm, ?_, Below.refl _ _⟩
      rw [HL.out]
      exact World.ownsRow_nil _ _ _ _
set_option maxHeartbeats 400000 in
theorem shuffle_any (A : Option Addr) (c : Nat) (l : List Int) (width : Int) (w : World) (hr : Rd w A l) (hl : l.length ≤ 150000000000000) :
    Calls Try.prog 31 #[.int .i64 width, .slice A l.length c] w (MixPost shufL w width l) := by
  have HR := Lib.hid hr
  have hB0 := (Below.refl w.heap.size w).alloc (Nat.le_refl _) (.cells #[.slice A l.length c] 28)
  have HB0 := Lib.hid hB0
  clear hr hB0
  go_enter Try.func31, Try.ntmps31
  go_wp2_with fail
  refine (swap_shuf A c l width ⟨w.heap.size, 0, none⟩ _ (HR.out.below HB0.out) hl (by simp)).mono ?_
  rintro e w1 ⟨v, rfl, ho, hb⟩
  have HO := Lib.hid (own_weaken ho (show w.heap.size ≤ _ by simp))
  have HB := Lib.hid (HB0.out.trans (hb.mono (by simp)))
  clear ho hb
  go_wp2_with fail
  go_ret2
  exact ⟨_, rfl, HO.out, HB.out⟩
set_option maxHeartbeats 400000 in
theorem unshuffle_any (A : Option Addr) (c : Nat) (l : List Int) (width : Int) (w : World) (hr : Rd w A l) (hl : l.length ≤ 150000000000000) :
    Calls Try.prog 33 #[.int .i64 width, .slice A l.length c] w (MixPost unshL w width l) := by
  have HR := Lib.hid hr
  have hB0 := (Below.refl w.heap.size w).alloc (Nat.le_refl _) (.cells #[.slice A l.length c] 28)
  have HB0 := Lib.hid hB0
  clear hr hB0
  go_enter Try.func33, Try.ntmps33
  go_wp2_with fail
  refine (swap_unsh A c l width ⟨w.heap.size, 0, none⟩ _ (HR.out.below HB0.out) hl (by simp)).mono ?_
  rintro e w1 ⟨v, rfl, ho, hb⟩
  have HO := Lib.hid (own_weaken ho (show w.heap.size ≤ _ by simp))
  have HB := Lib.hid (HB0.out.trans (hb.mono (by simp)))
  clear ho hb
  go_wp2_with fail
  go_ret2
  exact ⟨_, rfl, HO.out, HB.out⟩
end Go.Proofs.Ytdfpikimeihefaa
