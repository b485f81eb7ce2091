/-
  ShuffleBytes: the walk. No premise.
-/
import Derived.Test.YthbnhepmmiiikaaLawShA
import Derived.Test.YthbnhepmmiiikaaCntP
import Derived.Test.YthbnhepmmiiikaaFillP
import Derived.Deep.MidRow
import Derived.RangeFuncRecord
import Derived.Deep.DeepCutAuto
import Derived.Laws.NewBlocks
namespace Go.Proofs.Ythbnhepmmiiikaa
open Go.RowKit Go.Proofs.YthbnhepmmiiikaaW.PrintWords

theorem mxL_in' {f : Nat → List Int → List Int} (m : Nat) (hm : m < 8) (l : List Int) : mxL f (1 + (m : Int)) l = f (1 + m) l := by
  unfold mxL
  rw [if_pos (by omega), show (1 + (m : Int)).toNat = 1 + m from by omega]

/-- The counts, as cells. -/
def cnC (f : Nat → Int) : Array Value := ((List.range 256).map fun v => Value.int .i64 (f v)).toArray
theorem cnC_size (f : Nat → Int) : (cnC f).size = 256 := by simp [cnC]
theorem cnC_at (f : Nat → Int) (v : Nat) (h : v < 256) : (cnC f)[v]? = some (.int .i64 (f v)) := by
  simp [cnC, List.getElem?_range h]
def bump (f : Nat → Int) (x : Nat) (d : Int) : Nat → Int := fun v => if v = x then f v + d else f v
theorem cnC_set (f : Nat → Int) (x : Nat) (d : Int) (_h : x < 256) : (cnC f).setIfInBounds x (.int .i64 (f x + d)) = cnC (bump f x d) := by
  apply Array.ext
  · simp [cnC]
  · intro i h1 h2
    simp [cnC] at h1 h2
    rw [Array.getElem_setIfInBounds]
    · simp only [cnC, bump]
      by_cases hx : x = i
      · subst hx; simp
      · rw [if_neg hx]
        simp [show ¬ i = x from fun e => hx e.symm]
    · simpa [cnC] using h1
theorem cnC_zero : cnC (fun _ => 0) = Try.zeroCells27 := by kernel_rfl
def cf (l X : List Int) (i v : Nat) : Int := sumTo (fun j => ind (rdI l j) v - ind (rdI X j) v) i
theorem ind_01 (x v : Int) : 0 ≤ ind x v ∧ ind x v ≤ 1 := by unfold ind; split <;> omega
theorem cf_bd (l X : List Int) (i v : Nat) : -(i : Int) ≤ cf l X i v ∧ cf l X i v ≤ i := by
  induction i with
  | zero => simp [cf, sumTo]
  | succ i ih =>
    have a := ind_01 (rdI l i) v
    have b := ind_01 (rdI X i) v
    have e : cf l X (i + 1) v = cf l X i v + (ind (rdI l i) v - ind (rdI X i) v) := rfl
    omega
theorem cf_succ (l X : List Int) (i x y : Nat) (hx : rdI l i = x) (hy : rdI X i = y) : bump (bump (cf l X i) x 1) y (-1) = cf l X (i + 1) := by
  funext v
  have e : cf l X (i + 1) v = cf l X i v + (ind (rdI l i) v - ind (rdI X i) v) := rfl
  rw [e, hx, hy]
  unfold bump ind
  by_cases h1 : v = x <;> by_cases h2 : v = y
  · subst h1; subst h2; simp; omega
  · subst h1
    have : ¬ ((y : Int) = (v : Int)) := by omega
    simp [h2, this]
  · subst h2
    have : ¬ ((x : Int) = (v : Int)) := by omega
    simp [h1, this]
  · have a1 : ¬ ((y : Int) = (v : Int)) := by omega
    have a2 : ¬ ((x : Int) = (v : Int)) := by omega
    simp [h1, h2, a1, a2]
theorem cf_zero (l X : List Int) : cf l X 0 = fun _ => 0 := rfl

theorem eq_zero : ∀ W : World, (Op.equalIn 10000 27 (.agg Try.zeroCells27) (.agg Try.zeroCells27)).run Try.prog W = .ok true W := fun W => by kernel_rfl
set_option maxHeartbeats 1600000 in
theorem shuffleBytes_walk (width : Int) (A : Option Addr) (c : Nat) (l : List Int) (w : World) (hww : (Lit.int .u64 width).wf = true) (hr : ReadsInt w .u8 A l.length l) (hw : ∀ x ∈ l, (Lit.int .u8 x).wf = true) (hc : l.length ≤ c) (hy : l.length * 1 ≤ 140737488351232) :
    Calls Try.prog 3 #[.int .u64 width, .slice A l.length c] w fun e w' => e = .returned (.bool true) ∧ Below w.heap.size w w' := by
  have hl : l.length + 8 ≤ 150000000000000 := by omega
  obtain ⟨h0, h1⟩ := wf_u64' hww
  have HR := Lib.hid (show Rd w A l from hr)
  have hbt := wf_bts' hw
  have HBt := Lib.hid hbt
  obtain ⟨m, hm1, hm8⟩ : ∃ m : Nat, width % 8 = (m : Int) ∧ m < 8 := ⟨(width % 8).toNat, by omega, by omega⟩
  have hm2 : width.tmod 8 = (m : Int) := by rw [Int.tmod_eq_emod_of_nonneg h0]; exact hm1
  have hE : mxE (1 + (m : Int)) = 0 := by unfold mxE; rw [if_pos (by omega)]
  have HE := Lib.hid hE
  obtain ⟨X, hX⟩ : ∃ X, X = mxL shufL (1 + (m : Int)) l := ⟨_, rfl⟩
  have hXl : X.length = l.length := by rw [hX, mxL_in' m hm8, shufL_length]
  have HX := Lib.hid hX
  have HXL := Lib.hid hXl
  have HXB := Lib.hid (show Bts X by rw [hX, mxL_in' m hm8]; exact shufL_bts hbt _)
  have HCZ := Lib.hid (show cf l X l.length = fun _ => 0 from by
    funext v
    rw [hX, mxL_in' m hm8]
    exact cnt_shuf (1 + m) (by omega) l v)
  clear hr hw hy hww hE hbt hX hXl
  go_enter Try.func3, Try.ntmps3
  go_wp2_with fail
  refine (shuffle_any A c l (1 + (m : Int)) w HR.out (by omega)).mono ?_
  rintro e w1 ⟨vx, rfl, hx, hb⟩
  rw [← HX.out] at hx
  rw [HE.out]
  obtain ⟨Ax, cx, rfl, hrx⟩ := own_reads hx
  have HRX := Lib.hid (show Rd w1 Ax X from hrx)
  have HB1 := Lib.hid hb
  rw [HXL.out]
  clear hx hb hrx
  go_wp2_with fail
  rw [← cnC_zero]
  obtain ⟨g, hg⟩ : ∃ g, g = w1.heap.size := ⟨_, rfl⟩
  have hgs : w1.heap.size ≤ g := by omega
  have HH0 := Lib.hid (show (w1.alloc (.cells (cnC (cf l X 0)) 27)).heap[g]? = some (.cells (cnC (cf l X 0)) 27 (0, 0)) by subst hg; exact World.alloc_heap_new _ _)
  have HBa := Lib.hid ((Below.refl w1.heap.size w1).alloc (Nat.le_refl _) (.cells (cnC (cf l X 0)) 27))
  rw [cf_zero] at HH0 HBa
  rw [← hg]
  have HG := Lib.hid hg
  clear hg
  generalize w1.alloc (.cells (cnC (fun _ => 0)) 27) = w2 at HH0 HBa ⊢
  go_loopw [9] (fun t wr => ∃ i : Nat, i ≤ l.length ∧ t = .int .i64 i ∧ Hid (wr.heap[g]? = some (.cells (cnC (cf l X i)) 27 (0, 0))) ∧ Hid (Below w1.heap.size w1 wr)) (fun t _ => l.length - (intOf t).toNat)
  case atStart => exact ⟨0, by omega, rfl, HH0.out, HBa.out⟩
  case round =>
    obtain ⟨i, hi, rfl, HH, HBi⟩ := hrel
    by_cases hlt : i < l.length
    · obtain ⟨ad, rfl, _⟩ := HR.out.2.2 (by omega)
      obtain ⟨ax, rfl, _⟩ := HRX.out.2.2 (by rw [HXL.out]; omega)
      have hc1 := rd_cell ((HR.out.below HB1.out).below HBi.out) i hlt
      have hb1 := HBt.out.at i
      have hb2 := HXB.out.at i
      obtain ⟨x, hx⟩ := Int.eq_ofNat_of_zero_le hb1.1
      obtain ⟨y, hy⟩ := Int.eq_ofNat_of_zero_le hb2.1
      have HS := Lib.hid (cf_succ l X i x y hx hy)
      have HY := Lib.hid hy
      rw [hx] at hc1 hb1
      rw [hy] at hb2
      clear hx hy
      have hx9 : x < 256 := by omega
      have hy9 : y < 256 := by omega
      have hcx := (blk_cell HH.out x).trans (cnC_at _ x hx9)
      have hfx := blk_frozen HH.out x
      have hd1 := cf_bd l X i x
      have e1 := blk_set HH.out x (.int .i64 (cf l X i x + 1))
      rw [cnC_set (cf l X i) x 1 hx9] at e1
      have hcy := (blk_cell e1 y).trans (cnC_at _ y hy9)
      have hfy := blk_frozen e1 y
      have hbu : bump (cf l X i) x 1 y = if y = x then cf l X i y + 1 else cf l X i y := rfl
      have hd2 : -(i : Int) ≤ bump (cf l X i) x 1 y ∧ bump (cf l X i) x 1 y ≤ i + 1 := by
        have := cf_bd l X i y
        rw [hbu]
        split <;> omega
      have e2 := blk_set e1 y (.int .i64 (bump (cf l X i) x 1 y - 1))
      have e3 := cnC_set (bump (cf l X i) x 1) y (-1) hy9
      rw [show bump (cf l X i) x 1 y + -1 = bump (cf l X i) x 1 y - 1 from rfl] at e3
      rw [e3, HS.out] at e2
      have HF := Lib.hid e2
      have HBm := Lib.hid (HBi.out.setCell (p := ⟨g, x, none⟩) hgs (.int .i64 (cf l X i x + 1)))
      clear e1 e2 e3 hbu
      generalize bump (cf l X i) x 1 y = q at hcy hd2 HF
      generalize cf l X i x = p at hcx hd1 hcy hfy HF HBm
      go_upto_region 10 with (fail)
      generalize wr.setCell ⟨g, x, none⟩ (.int .i64 (p + 1)) = wm at hcy hfy HF HBm ⊢
      have hc2 := rd_cell (HRX.out.below HBm.out) i (by rw [HXL.out]; exact hlt)
      rw [HY.out] at hc2
      clear hc1 hcx hfx
      go_wp2_with fail
      go_roundw
      case rel => exact ⟨i + 1, by omega, by push_cast; rfl, HF.out, HBm.out.setCell (p := ⟨g, y, none⟩) hgs _⟩
      case measure => simp [intOf]; omega
    · have hil : i = l.length := by omega
      have HB12 := Lib.hid (HB1.out.trans (HBi.out.mono HB1.out.size))
      have hh := HH.out
      rw [hil, HCZ.out] at hh
      have HHZ := Lib.hid hh
      clear hh
      have heq := eq_zero
      have hrg : wr.rangeAt g 0 (Try.zeroCells27).toList := fun j v hv => by
        have h := HHZ.out
        rw [cnC_zero] at h
        rw [Nat.zero_add, blk_cell h]
        simpa using hv
      have HRG := Lib.hid hrg
      have HZL := Lib.hid (show (Try.zeroCells27).toList.length = 256 by rw [← cnC_zero, Array.length_toList, cnC_size])
      clear hrg
      by_cases hl0 : l.length = 0
      · have hl0' := List.length_eq_zero_iff.1 hl0
        subst hl0'
        go_wp2_with (first | ((with_reducible refine gate_ (.load 27 (.tmp 8)) rfl ?_); refine wpList_load_mid rfl 27 (.tmp 8) rfl g 0 rfl (Try.zeroCells27).toList _ HRG.out Try.underlying27 rfl (by rw [HZL.out]; kernel_rfl) ?_; rw [Array.toArray_toList]) | (go_at_call 16; refine (lives14 _).mono ?_; rintro e w10 ⟨rfl, hb10⟩))
        go_ret
        exact ⟨rfl, HB12.out.trans (hb10.mono HB12.out.size)⟩
      · have hlp : 0 < l.length := by omega
        have hl0b : ((l.length : Int) == 0) = false := beq_eq_false_iff_ne.2 (by omega)
        obtain ⟨x, hx⟩ : ∃ x, x = rdI l 0 := ⟨_, rfl⟩
        have hbx := HBt.out.at 0
        rw [← hx] at hbx
        have HX0 := Lib.hid hx
        clear hx
        obtain ⟨wo, rfl⟩ : ∃ wo : World, wo = wr := ⟨_, rfl⟩
        have hmk := fun W => print_make (P := Try.prog) 23 5 .u8 1 Try.underlying23 infoB (by omega) l.length (by rw [Nat.mul_one]; omega) W
        go_wp2_with ((with_reducible refine gate_ (.load 27 (.tmp 8)) rfl ?_); refine wpList_load_mid rfl 27 (.tmp 8) rfl g 0 rfl (Try.zeroCells27).toList _ HRG.out Try.underlying27 rfl (by rw [HZL.out]; kernel_rfl) ?_; rw [Array.toArray_toList])
        clear hmk heq
        have ho0 := own_made wo wo.heap.size 5 .u8 l.length (Nat.le_refl _) (by omega)
        obtain ⟨g2, hg2⟩ : ∃ g2, g2 = wo.heap.size := ⟨_, rfl⟩
        rw [← hg2] at ho0
        rw [← hg2]
        have hg2' : wo.heap.size ≤ g2 := by omega
        have HO0 := Lib.hid (show Own _ g2 (.slice (some ⟨g2, 0, none⟩) l.length l.length) (fl l.length x 0) by
          unfold Own
          rw [fl_length, fl_zero]
          exact ho0)
        have hba := (Below.refl wo.heap.size wo).alloc (Nat.le_refl _) (.cells (madeCells #[.int .u8 0] l.length) 5)
        have HBA := Lib.hid hba
        clear ho0 hg2 hba
        generalize wo.alloc (.cells (madeCells #[.int .u8 0] l.length) 5) = w3 at HO0 HBA ⊢
        go_loopw [11] (fun t wq => ∃ i : Nat, i ≤ l.length ∧ t = .int .i64 i ∧ Hid (Own wq g2 (.slice (some ⟨g2, 0, none⟩) l.length l.length) (fl l.length x i)) ∧ Hid (Below wo.heap.size wo wq)) (fun t _ => l.length - (intOf t).toNat)
        case atStart => exact ⟨0, by omega, rfl, HO0.out, HBA.out⟩
        case round =>
          obtain ⟨j, hj, rfl, HOj, HBj⟩ := hrel
          have HB1j := Lib.hid (HB12.out.trans (HBj.out.mono HB12.out.size))
          by_cases hjl : j < l.length
          · obtain ⟨ad, rfl, _⟩ := HR.out.2.2 (by omega)
            have hcx := rd_cell (HR.out.below HB1j.out) 0 hlp
            rw [← HX0.out] at hcx
            obtain ⟨ho1, hf1⟩ := own_cell HOj.out (j : Int) (by omega) (by rw [fl_length]; omega)
            rw [Int.toNat_natCast] at ho1 hf1
            have h9 := own_setc HOj.out (j : Int) x
            rw [Int.toNat_natCast, fl_set _ _ _ hjl] at h9
            have H9 := Lib.hid h9
            clear h9
            have hcx0 := hcx
            rw [show ad.add 0 = ad from rfl] at hcx0
            go_wp2_with fail
            go_roundw
            case rel => exact ⟨j + 1, by omega, by push_cast; rfl, H9.out, HBj.out.setCell (p := ⟨g2, j, none⟩) (by omega) _⟩
            case measure => simp [intOf]; omega
          · have hjn : j = l.length := by omega
            have hof := HOj.out
            rw [hjn, fl_all] at hof
            have HOF := Lib.hid hof
            obtain ⟨A3, c3, hv3, hr3⟩ := own_reads hof
            injection hv3 with e1 e2 e3
            subst e1
            have hsame := shuf_same (1 + m) l.length x
            have HRS := Lib.hid (shuffle_any (some ⟨g2, 0, none⟩) l.length (List.replicate l.length x) (1 + (m : Int)) wr (show Rd _ _ _ from by rw [List.length_replicate] at hr3; unfold Rd; rw [List.length_replicate]; exact hr3) (by rw [List.length_replicate]; omega))
            rw [List.length_replicate] at HRS
            have HSM := Lib.hid hsame
            have hcs := own_str HOF.out
            have hzs : (strOfNums (List.replicate l.length x)).size ≤ 9223372036854775807 := by rw [strOfNums_size, List.length_replicate]; omega
            clear hof hr3 hsame e2 e3 hcs
            go_wp2_with fail
            refine HRS.out.mono ?_
            rintro e w4 ⟨vy, rfl, hoy, hby⟩
            rw [mxL_in' m hm8, HSM.out] at hoy
            rw [HE.out]
            have hcy := own_str hoy
            have hcs := own_str (own_step HOF.out hby)
            have HB4 := Lib.hid (HB1j.out.trans (hby.mono HB1j.out.size))
            clear hoy hby
            go_wp2_with (go_at_call 16; refine (lives14 _).mono ?_; rintro e w10 ⟨rfl, hb10⟩)
            go_ret
            exact ⟨rfl, HB4.out.trans (hb10.mono HB4.out.size)⟩
end Go.Proofs.Ythbnhepmmiiikaa
