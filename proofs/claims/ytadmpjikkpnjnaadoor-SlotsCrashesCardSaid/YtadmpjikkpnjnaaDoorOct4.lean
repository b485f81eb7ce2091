/-
  octet.Get, octet.Signed, slices.Reverse, octet.Swap. No premise.
-/
import Derived.Test.YtadmpjikkpnjnaaDoorOct3
namespace Go.Proofs.YtadmpjikkpnjnaaDoor
open Go.RowKit Go.Proofs.YtadmpjikkpnjnaaDoorW.PrintWords

theorem cut_mid (A : Option Addr) (l : List Int) (c m n : Nat) (h : m + n ≤ l.length) (hc : l.length ≤ c) :
    ∃ A' l', Hid (l' = (l.drop m).take n) ∧ l'.length = n ∧
      (∀ W : World, (Instr.slice 25 (.slice A l.length c) (some (.int .i64 (m : Int))) (some (.int .i64 ((m : Int) + (n : Int)))) none).run Tryd.prog W = .ok (.slice A' n (c - m)) W) ∧
      (∀ w, Rd w A l → Rd w A' l') ∧ n ≤ c - m := by
  obtain ⟨i0, hi, hz0, hz1, hz2⟩ := info_parts infoB
  obtain ⟨A', h1, h2, h3⟩ := print_mid_int (P := Tryd.prog) (k := .u8) 25 5 Tryd.underlying25 hi hz1 A c l (m : Int) ((m : Int) + (n : Int)) (by omega) (by omega) (by omega) hc
  have e : ((m : Int) + (n : Int)).toNat = m + n := by omega
  rw [e, Int.toNat_natCast] at h1 h2 h3
  have hl : ((l.take (m + n)).drop m).length = n := by simp; omega
  have hd : (l.take (m + n)).drop m = (l.drop m).take n := by rw [List.drop_take]; congr 1; omega
  rw [hl] at h1 h2 h3
  refine ⟨A', (l.drop m).take n, rfl, by rw [← hd]; exact hl, h1, fun w hr => ?_, h3⟩
  have := h2 w hr
  rw [hd] at this
  unfold Rd
  rw [show ((l.drop m).take n).length = n from by rw [← hd]; exact hl]
  exact this

def getE (l : List Int) (at_ width : Int) : Int := if 1 ≤ width ∧ width ≤ 8 ∧ 0 ≤ at_ ∧ at_ ≤ l.length then (if (l.length : Int) - at_ < width then 4 else 0) else 2
def getU (l : List Int) (at_ width : Int) (big : Bool) : Int :=
  if 1 ≤ width ∧ width ≤ 8 ∧ 0 ≤ at_ ∧ at_ + width ≤ l.length then getk ((l.drop at_.toNat).take width.toNat) width.toNat big width.toNat else 0
def GetPost (w : World) (l : List Int) (at_ width : Int) (big : Bool) (e : Ending) (w' : World) : Prop :=
  e = .returned (.tuple #[.int .u64 (getU l at_ width big), .int .i64 (getE l at_ width)]) ∧ Below w.heap.size w w'

theorem ret2' {k k' : IntKind} {x y a b : Int} (h1 : x = y) (h : a = b) : Ending.returned (.tuple #[.int k x, .int k' a]) = .returned (.tuple #[.int k y, .int k' b]) := by rw [h1, h]

set_option maxHeartbeats 800000 in
theorem get_any (A : Option Addr) (c : Nat) (l : List Int) (at_ width : Int) (big : Bool) (w : World) (hr : Rd w A l) (hb : Bts l) (hc : l.length ≤ c) (hl : l.length ≤ 150000000000000) (ha : -9223372036854775808 ≤ at_) (ha2 : at_ ≤ 9223372036854775807) :
    Calls Tryd.prog 34 #[.slice A l.length c, .int .i64 at_, .int .i64 width, .bool big] w (GetPost w l at_ width big) := by
  have HR := Lib.hid hr
  have HBt := Lib.hid hb
  clear hr hb
  by_cases h1 : width < 1
  · go_enter Tryd.func34, Tryd.ntmps34
    go_wp2_with fail
    go_ret2
    exact ⟨ret2' (by rw [getU, if_neg (by omega)]) (by rw [getE, if_neg (by omega)]), (Below.refl _ _)⟩
  by_cases h2 : 8 < width
  · go_enter Tryd.func34, Tryd.ntmps34
    go_wp2_with fail
    go_ret2
    exact ⟨ret2' (by rw [getU, if_neg (by omega)]) (by rw [getE, if_neg (by omega)]), (Below.refl _ _)⟩
  by_cases h3 : at_ < 0
  · go_enter Tryd.func34, Tryd.ntmps34
    go_wp2_with fail
    go_ret2
    exact ⟨ret2' (by rw [getU, if_neg (by omega)]) (by rw [getE, if_neg (by omega)]), (Below.refl _ _)⟩
  by_cases h4 : (l.length : Int) < at_
  · go_enter Tryd.func34, Tryd.ntmps34
    go_wp2_with fail
    go_ret2
    exact ⟨ret2' (by rw [getU, if_neg (by omega)]) (by rw [getE, if_neg (by omega)]), (Below.refl _ _)⟩
  by_cases h5 : (l.length : Int) - at_ < width
  · go_enter Tryd.func34, Tryd.ntmps34
    go_wp2_with fail
    go_ret2
    exact ⟨ret2' (by rw [getU, if_neg (by omega)]) (by rw [getE, if_pos (by omega), if_pos h5]), (Below.refl _ _)⟩
  obtain ⟨m, rfl⟩ := Int.eq_ofNat_of_zero_le (show 0 ≤ at_ by omega)
  obtain ⟨n, rfl⟩ := Int.eq_ofNat_of_zero_le (show 0 ≤ width by omega)
  obtain ⟨A', l', hl', hn, hcut, hrd, hcap⟩ := cut_mid A l c m n (by omega) hc
  subst hn
  have HR' := Lib.hid (hrd w HR.out)
  clear hrd
  rcases A' with _ | ad
  · exfalso
    obtain ⟨ad, h, _⟩ := HR'.out.2.2 (by omega)
    cases h
  have hblk : ad.block < w.heap.size := by
    obtain ⟨ad', h, h6⟩ := HR'.out.2.2 (by omega)
    cases h
    have := World.block_lt_of_cell? w _ (h6 0 (by omega))
    rwa [add_block] at this
  have hB' : Bts l' := by rw [hl'.out]; exact (HBt.out.drop _).take _
  have HB' := Lib.hid hB'
  clear hB'
  have HRM := Lib.hid (HR'.out.below ((Below.refl w.heap.size w).alloc (Nat.le_refl _) (.cells #[.int .u64 0] 22)))
  go_enter Tryd.func34, Tryd.ntmps34
  go_wp2_with (go_at_call 44; refine (digits_get_ big big rfl l' HB'.out ad (c - m) w.heap.size _ (by omega) HRM.out hcap (heap_alloc_new w _) (by simp; omega)).mono ?_; rintro e w' ⟨rfl, hc2, hg2⟩; have hcell : w'.cell? ⟨w.heap.size, 0, none⟩ = some (.int .u64 (getk l' l'.length big l'.length)) := (blk_cell hc2 0).trans rfl; have HG2 := Lib.hid hg2; clear hc2 hg2)
  go_ret2
  refine ⟨ret2' ?_ (by rw [getE, if_pos (by omega), if_neg (by omega)]), ?_⟩
  · rw [getU, if_pos (by omega), Int.toNat_natCast, Int.toNat_natCast, ← hl'.out]
  · exact ((Below.refl _ _).alloc (Nat.le_refl _) _).grown HG2.out (by simp) (by simp)

theorem own_cell {w : World} {base g n cap : Nat} {xs : List Int} (h : Own w base (.slice (some ⟨g, 0, none⟩) n cap) xs) (i : Int) (h0 : 0 ≤ i) (h1 : i < xs.length) :
    w.cell? ⟨g, i.toNat, none⟩ = some (.int .u8 (rdI xs i.toNat)) ∧ w.frozen? ⟨g, i.toNat, none⟩ = false := by
  obtain ⟨_, rfl, _⟩ := own_open h
  have := own_at (k := .u8) (xs := xs) h i h0 h1
  simpa [rd, rdI] using this
theorem own_setc {w : World} {base g n cap : Nat} {xs : List Int} (h : Own w base (.slice (some ⟨g, 0, none⟩) n cap) xs) (i x : Int) :
    Own (w.setCell ⟨g, i.toNat, none⟩ (.int .u8 x)) base (.slice (some ⟨g, 0, none⟩) n cap) (xs.set i.toNat x) := by
  obtain ⟨_, rfl, _⟩ := own_open h
  have := (own_store (k := .u8) (xs := xs) h i x).1
  unfold Own
  rw [List.length_set]
  exact this

def revk (l : List Int) (k : Nat) : List Int := (List.range l.length).map fun q => if q < k ∨ l.length ≤ q + k then rdI l (l.length - 1 - q) else rdI l q
theorem revk_length (l : List Int) (k : Nat) : (revk l k).length = l.length := by simp [revk]
theorem rdI_some {l : List Int} {i : Nat} (h : i < l.length) : l[i]? = some (rdI l i) := by
  simp [rdI, List.getD_eq_getElem?_getD, List.getElem?_eq_getElem h]
theorem ext_rdI {a b : List Int} (h : a.length = b.length) (k : ∀ i, i < a.length → rdI a i = rdI b i) : a = b := by
  apply List.ext_getElem?
  intro i
  rcases Nat.lt_or_ge i a.length with hi | hi
  · rw [rdI_some hi, rdI_some (by omega), k i hi]
  · rw [List.getElem?_eq_none hi, List.getElem?_eq_none (by omega)]
theorem rdI_set (l : List Int) (i j : Nat) (x : Int) (h : i < l.length) : rdI (l.set i x) j = if i = j then x else rdI l j := by
  unfold rdI
  simp only [List.getD_eq_getElem?_getD, List.getElem?_set]
  split
  · rfl
  · rfl
theorem rdI_revk (l : List Int) (k q : Nat) (h : q < l.length) : rdI (revk l k) q = if q < k ∨ l.length ≤ q + k then rdI l (l.length - 1 - q) else rdI l q := by
  rw [show rdI (revk l k) q = (revk l k).getD q 0 from rfl, List.getD_eq_getElem?_getD]
  unfold revk
  rw [List.getElem?_map, List.getElem?_range h]
  rfl
theorem rdI_reverse (l : List Int) (q : Nat) (h : q < l.length) : rdI l.reverse q = rdI l (l.length - 1 - q) := by
  simp only [rdI, List.getD_eq_getElem?_getD, List.getElem?_reverse h]
theorem revk_zero (l : List Int) : revk l 0 = l :=
  ext_rdI (revk_length l 0) fun i hi => by
    rw [revk_length] at hi
    rw [rdI_revk l 0 i hi, if_neg (by omega)]
theorem revk_succ (l : List Int) (k : Nat) (h : 2 * k + 1 < l.length) : ((revk l k).set k (rdI (revk l k) (l.length - 1 - k))).set (l.length - 1 - k) (rdI (revk l k) k) = revk l (k + 1) :=
  ext_rdI (by simp [revk_length]) fun i hi => by
    simp only [List.length_set, revk_length] at hi
    rw [rdI_set _ _ _ _ (by simp [revk_length]; omega), rdI_set _ _ _ _ (by simp [revk_length]; omega), rdI_revk l (k + 1) i hi, rdI_revk l k i hi, rdI_revk l k k (by omega), rdI_revk l k _ (show l.length - 1 - k < l.length by omega)]
    by_cases h1 : l.length - 1 - k = i
    · rw [if_pos h1, if_neg (by omega), if_pos (by omega)]; congr 1; omega
    · rw [if_neg h1]
      by_cases h2 : k = i
      · rw [if_pos h2, if_neg (by omega), if_pos (by omega)]; congr 1; omega
      · rw [if_neg h2]
        by_cases h3 : i < k ∨ l.length ≤ i + k
        · rw [if_pos h3, if_pos (by omega)]
        · rw [if_neg h3, if_neg (by omega)]
theorem revk_end (l : List Int) (k : Nat) (h : l.length ≤ 2 * k + 1) : revk l k = l.reverse :=
  ext_rdI (by simp [revk_length]) fun i hi => by
    rw [revk_length] at hi
    rw [rdI_revk l k i hi, rdI_reverse l i hi]
    split
    · rfl
    · congr 1; omega

end Go.Proofs.YtadmpjikkpnjnaaDoor
