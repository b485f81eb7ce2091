/-
  FilterTurned: the walk. No premise.
-/
import Derived.Test.YtdfpikimeihefaaLawFiC
import Derived.Test.YtdfpikimeihefaaFlA
import Derived.Test.YtdfpikimeihefaaFlT
namespace Go.Proofs.Ytdfpikimeihefaa
open Go.RowKit Go.Proofs.YtdfpikimeihefaaW.PrintWords

theorem seal_last (l : List Fl) (b : List Int) : 4 ≤ (doA (l ++ [(4, 0)]) b).length := by
  rw [doA_append]
  show 4 ≤ (do1 (4, 0) (doA l b)).length
  unfold do1
  rw [if_neg (by decide), if_neg (by decide), if_neg (by decide), if_pos rfl, sealF_length]
  omega
theorem Fls.set {w : World} {A : Option Addr} {l : List Fl} (h : Fls w A l) {p : Addr} (hp : w.heap.size ≤ p.block ∨ ∀ a, A = some a → a.block ≠ p.block) (v : Value) : Fls (w.setCell p v) A l := by
  refine ⟨h.1, fun h0 => ?_⟩
  obtain ⟨ad, e, hc⟩ := h.2 h0
  refine ⟨ad, e, fun i hi => ?_⟩
  obtain ⟨h1, h2⟩ := hc i hi
  have hne : ad.block ≠ p.block := by
    rcases hp with hp | hp
    · have := cell_lt h1
      rw [add_block] at this
      omega
    · exact hp ad e
  have hb : ∀ j, (w.setCell p v).heap[(ad.add j).block]? = w.heap[(ad.add j).block]? := fun j => Below.heap_setCell _ _ _ _ (by rw [add_block]; exact hne)
  exact ⟨(World.cell?_of_block (w := w) (hb _)).trans h1, (World.cell?_of_block (w := w) (hb _)).trans h2⟩
set_option maxRecDepth 100000 in
set_option maxHeartbeats 3200000 in
theorem filterTurned_walk (F : Option Addr) (cf : Nat) (fl : List Fl) (B : Option Addr) (cb : Nat) (b : List Int) (place by_ : Int) (w : World) (hrf : Fls w F fl) (hfy : fl.length * 16 ≤ 140737488351232) (hrb : ReadsInt w .u8 B b.length b) (hw : ∀ x ∈ b, (Lit.int .u8 x).wf = true) (_ : b.length ≤ cb) (hy : b.length * 1 ≤ 140737488351232)
    (hwp : (Lit.int .i64 place).wf = true) (hwb : (Lit.int .u8 by_).wf = true) :
    Calls Try.prog 9 #[.slice F fl.length cf, .slice B b.length cb, .int .i64 place, .int .u8 by_] w fun e w' => e = .returned (.bool true) ∧ Below w.heap.size w w' := by
  have HFL := Lib.hid hrf
  have HR := Lib.hid (show Rd w B b from hrb)
  have HBt := Lib.hid (wf_bts' hw)
  have HP := Lib.hid (wf_i64' hwp)
  have HY := Lib.hid (wf_u8' hwb)
  have HBA := Lib.hid ((Below.refl w.heap.size w).alloc (Nat.le_refl _) (.cells #[] 43))
  have HE0 := Lib.hid (ownF_empty w w.heap.size (Nat.le_refl _))
  clear hrf hrb hw hwp hwb
  go_enter Try.func9, Try.ntmps9
  go_wp2_with (first
    | ((with_reducible refine gate_builtin (b := .append) (xs := #[.tmp 15, .tmp 16]) rfl ?_); refine appF w.heap.size rfl _ _ rfl (.slice (some ⟨w.heap.size, 0, none⟩) 0 0) [] fl F cf rfl rfl HE0.out (HFL.out.below HBA.out) (by simp) (by simp; omega) ?_; intro vf w1 h1 h2; have HO1 := Lib.hid h1; have HB1 := Lib.hid (HBA.out.grown h2 (by simp) (by simp [Value.ownBlock])); have hs1 := HB1.out.size; have HF1 := Lib.hid (fl_one w1 4 0 43 (0, 0)); have HOA := Lib.hid (ownF_below HO1.out ((Below.refl w1.heap.size w1).alloc (Nat.le_refl _) (.cells #[.int .i64 4, .int .i64 0] 43))); have HBB := Lib.hid (HB1.out.alloc hs1 (.cells #[.int .i64 4, .int .i64 0] 43)); clear h1 h2)
    | ((with_reducible refine gate_builtin (b := .append) (xs := #[.tmp 17, .tmp 19]) rfl ?_); refine appF w.heap.size rfl _ _ rfl vf ([] ++ fl) [(4, 0)] (some ⟨w1.heap.size, 0, none⟩) 1 rfl rfl HOA.out HF1.out (by simp; omega) (by simp; omega) ?_; intro va w2 h1 h2; have HO2 := Lib.hid h1; have HB2 := Lib.hid (HBB.out.grown h2 (by simp; omega) (fun k hk => ((World.ownsRow.lt HOA.out) k hk).1)); clear h1 h2))
  have hs2 := HB2.out.size
  obtain ⟨Af, cf2, rfl, hff⟩ := ownF_fls HO2.out (by simp; omega)
  simp only [List.nil_append] at hff
  have HFF := Lib.hid hff
  have HAB := Lib.hid (show ∀ a, Af = some a → a.block < w2.heap.size from fun a e => by
    have := World.ownsRow.lt HO2.out a.block (by rw [e]; rfl)
    exact this.2)
  obtain ⟨al, hal⟩ : ∃ al, al = fl ++ [(4, 0)] := ⟨_, rfl⟩
  have HAL := Lib.hid hal
  rw [← hal] at HFF
  have hall : ([] ++ fl ++ [((4 : Int), (0 : Int))]).length = al.length := by rw [hal]; simp
  rw [hall]
  clear hff hal hall HE0 HBA HF1 HOA HBB
  by_cases he : apE al b = 0
  · obtain ⟨hck, hb4, hxl⟩ := apE_zero he
    have hl4 : 4 ≤ (doA al b).length := by rw [HAL.out]; exact seal_last fl b
    have hlen := doA_length al b
    have hf4 := fck_few hck
    have hXb := doA_bts al HBt.out
    have hturn := fun (k : Nat) (h : k < (doA al b).length) (y : Int) (hy : 0 ≤ y ∧ y ≤ 255) (hne : y ≠ rdI (doA al b) k) => (by rw [HAL.out] at h hne hck ⊢; exact udR_turned HBt.out hck hb4 k h y hy hne : udR al ((doA al b).set k y) b.length = ([], 5))
    obtain ⟨X, hX⟩ : ∃ X, X = doA al b := ⟨_, rfl⟩
    rw [← hX] at hl4 hlen hXb hturn hxl
    have HX := Lib.hid hxl
    have HE := Lib.hid he
    have HXB := Lib.hid hXb
    have HT := Lib.hid hturn
    clear hX hxl he hXb hturn
    by_cases hz : by_ = 0
    · subst hz
      go_wp2_with fail
      refine (apply_any Af cf2 al B cb b w2 HFF.out (HR.out.below HB2.out) HBt.out (by omega)).mono ?_
      rintro e w3 ⟨vx, rfl, hx, hbx⟩
      rw [HE.out]
      rw [HX.out] at hx
      obtain ⟨A1, c1, rfl, _, _, _⟩ := own_split hx
      have HB3 := Lib.hid (HB2.out.trans (hbx.mono hs2))
      clear hx hbx
      go_wp2_with (go_at_call 12; refine (lives16 _).mono ?_; rintro e w4 ⟨rfl, hb4⟩)
      go_ret
      exact ⟨rfl, HB3.out.trans (hb4.mono HB3.out.size)⟩
    · have hz' : (by_ == 0) = false := by rw [beq_eq_false_iff_ne]; exact hz
      obtain ⟨k, hk, hkk⟩ := place_k place X.length (by omega) (by omega)
      obtain ⟨y, hxy, hyr, hyn⟩ := xor_byte (HXB.out.at k) HY.out hz
      have HU := Lib.hid (HT.out k hk y hyr hyn)
      have HSB := Lib.hid (bts_set HXB.out k hyr)
      have hSl : (X.set k y).length = X.length := List.length_set ..
      have HSL := Lib.hid hSl
      have hn0 : ((X.length : Int) == 0) = false := by rw [beq_eq_false_iff_ne]; omega
      have hn1 : ¬ (X.length : Int) = 0 := by omega
      clear hSl
      go_wp2_with fail
      refine (apply_any Af cf2 al B cb b w2 HFF.out (HR.out.below HB2.out) HBt.out (by omega)).mono ?_
      rintro e w3 ⟨vx, rfl, hx, hbx⟩
      rw [HE.out]
      rw [HX.out] at hx
      obtain ⟨A1, c1, rfl, hx2, _, _⟩ := own_split hx
      obtain ⟨gx, rfl⟩ := own_slice_ne hx2 (by omega)
      have HB3 := Lib.hid (HB2.out.trans (hbx.mono hs2))
      have HFF3 := Lib.hid (HFF.out.below hbx)
      have HVX := Lib.hid hx2
      obtain ⟨hcx, hfx⟩ := own_cell hx2 (k : Int) (by omega) (by omega)
      rw [Int.toNat_natCast] at hcx hfx
      have hgx := own_lo hx2 (k := gx) rfl
      have hgl := own_hi hx2 (k := gx) rfl
      clear hx hbx hx2
      generalize rdI X k = xk at hcx hxy
      go_wp2_with fail
      have hset := own_setc HVX.out (k : Int) y
      rw [Int.toNat_natCast] at hset
      have HVS := Lib.hid hset
      have HBS := Lib.hid (HB3.out.setCell (p := ⟨gx, k, none⟩) (by show w.heap.size ≤ gx; omega) (.int .u8 y))
      have HFS := Lib.hid (HFF3.out.set (p := ⟨gx, k, none⟩) (.inr fun a e => by
        have := HAB.out a e
        show a.block ≠ gx
        omega) (.int .u8 y))
      have hru : Rd (w3.setCell ⟨gx, k, none⟩ (.int .u8 y)) (some ⟨gx, 0, none⟩) (X.set k y) := by
        obtain ⟨A', c', hv, hrd⟩ := own_reads hset
        injection hv with e1 e2 e3
        rw [e1]
        exact hrd
      obtain ⟨Y, hY⟩ : ∃ Y, Y = X.set k y := ⟨_, rfl⟩
      rw [← hY] at hru
      have hres := HU.out
      rw [← hY] at hres
      have HSY := HSB.out
      rw [← hY] at HSY
      have HSY := Lib.hid HSY
      have hYl := HSL.out
      rw [← hY] at hYl
      have HRU := Lib.hid hru
      have HR1 := Lib.hid (congrArg Prod.fst hres)
      have HR2 := Lib.hid (congrArg Prod.snd hres)
      have HYL := Lib.hid hYl
      clear hset hru hres hcx hfx hY hYl HSL HSB HU HT
      go_wp2_with fail
      rw [← HYL.out]
      refine (undo_any Af cf2 al (some ⟨gx, 0, none⟩) c1 Y (b.length : Int) _ HFS.out HRU.out HSY.out (by rw [HYL.out]; omega)).mono ?_
      rintro e w4 ⟨vu, rfl, hu, hbu⟩
      rw [HR2.out]
      rw [HR1.out] at hu
      obtain ⟨A4, c4, rfl, _, _, _⟩ := own_split hu
      have HB4 := Lib.hid (HBS.out.trans (hbu.mono HBS.out.size))
      clear hu hbu
      go_wp2_with (go_at_call 12; refine (lives16 _).mono ?_; rintro e w5 ⟨rfl, hb5⟩)
      go_ret
      exact ⟨rfl, HB4.out.trans (hb5.mono HB4.out.size)⟩
  · obtain ⟨hx, _⟩ := apE_bad he
    have hze : (apE al b == 0) = false := by rw [beq_eq_false_iff_ne]; exact he
    obtain ⟨ee, hE⟩ : ∃ ee, ee = apE al b := ⟨_, rfl⟩
    rw [← hE] at he hze
    have HX := Lib.hid hx
    have HE := Lib.hid hE
    clear hx hE
    go_wp2_with fail
    refine (apply_any Af cf2 al B cb b w2 HFF.out (HR.out.below HB2.out) HBt.out (by omega)).mono ?_
    rintro e w3 ⟨v, rfl, ho, hb⟩
    rw [← HE.out]
    rw [HX.out] at ho
    obtain ⟨A1, c1, rfl, _, _, _⟩ := own_split ho
    have HB3 := Lib.hid (HB2.out.trans (hb.mono hs2))
    clear ho hb
    go_wp2_with (go_at_call 12; refine (lives16 _).mono ?_; rintro e w4 ⟨rfl, hb4⟩)
    go_ret
    exact ⟨rfl, HB3.out.trans (hb4.mono HB3.out.size)⟩
end Go.Proofs.Ytdfpikimeihefaa
