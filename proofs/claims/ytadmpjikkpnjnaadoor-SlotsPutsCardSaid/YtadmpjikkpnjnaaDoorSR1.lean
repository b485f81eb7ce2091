/-
  slabvaultref03: Lay, Of. No premise.
-/
import Derived.Test.YtadmpjikkpnjnaaDoorSt9
namespace Go.Proofs.YtadmpjikkpnjnaaDoor
open Go.RowKit Go.Shelf Go.Proofs.YtadmpjikkpnjnaaDoorW.PrintWords

theorem take_rdI (l : List Int) (m : Nat) (h : m < l.length) : l.take (m + 1) = l.take m ++ [rdI l m] := by
  rw [List.take_add_one, List.getElem?_eq_getElem h]
  simp [rdI, h]
theorem drop_at (l : List Int) (a : Nat) (h : a < l.length) : l.drop a = rdI l a :: l.drop (a + 1) := by
  rw [List.drop_eq_getElem_cons h]
  congr 1
  unfold rdI
  rw [List.getD_eq_getElem?_getD, List.getElem?_eq_getElem h]
  rfl
theorem lay_set (b : List Int) (a : Nat) (x : List Int) (i : Nat) (ha : a ≤ b.length) (hi : i < x.length) (h : a + i < b.length) : (layL b a (x.take i)).set (a + i) (rdI x i) = layL b a (x.take (i + 1)) := by
  have hl : (x.take i).length = i := by rw [List.length_take]; omega
  have hl1 : (x.take (i + 1)).length = i + 1 := by rw [List.length_take]; omega
  have hb : (b.take a).length = a := by rw [List.length_take]; omega
  unfold layL
  rw [hl, hl1, List.set_append_right _ _ (by omega), hb, Nat.add_sub_cancel_left, List.set_append_right _ _ (by omega), hl, Nat.sub_self, drop_at b (a + i) h, List.set_cons_zero, take_rdI x i hi]
  simp [Nat.add_assoc]
theorem lay_more (b : List Int) (a : Nat) (x : List Int) (i : Nat) (_ha : a ≤ b.length) (hi : i < x.length) (h : ¬ a + i < b.length) : layL b a (x.take i) ++ [rdI x i] = layL b a (x.take (i + 1)) := by
  have hl : (x.take i).length = i := by rw [List.length_take]; omega
  have hl1 : (x.take (i + 1)).length = i + 1 := by rw [List.length_take]; omega
  unfold layL
  rw [hl, hl1, List.drop_of_length_le (show b.length ≤ a + i by omega), List.drop_of_length_le (show b.length ≤ a + (i + 1) by omega), take_rdI x i hi]
  simp
theorem lay_len (b : List Int) (a : Nat) (x : List Int) (i : Nat) (ha : a ≤ b.length) (hi : i ≤ x.length) : (layL b a (x.take i)).length = max b.length (a + i) := by
  rw [layL_length _ _ _ ha, List.length_take, Nat.min_eq_left hi]
theorem lay_none (b : List Int) (a : Nat) (x : List Int) : layL b a (x.take 0) = b := by unfold layL; simp
set_option maxRecDepth 100000 in
set_option maxHeartbeats 1600000 in
theorem refLay_any (A : Option Addr) (c : Nat) (b : List Int) (a : Nat) (X : Option Addr) (cx : Nat) (x : List Int) (w : World) (hr : Rd w A b) (hx : Rd w X x) (ha : a ≤ b.length) (hb : b.length ≤ 100000000) (hxl : x.length ≤ 100000000) (hbx : Bts x) :
    Calls Tryd.prog 41 #[.slice A b.length c, .int .i64 a, .slice X x.length cx] w fun e w' => ∃ v, e = .returned v ∧ Own w' w.heap.size v (layL b a x) ∧ Below w.heap.size w w' := by
  have HR := Lib.hid hr
  have HX := Lib.hid hx
  have HBX := Lib.hid hbx
  have HOE := Lib.hid (own_empty w w.heap.size (Nat.le_refl _))
  have HBA := Lib.hid ((Below.refl w.heap.size w).alloc (Nat.le_refl _) (.cells #[] 5))
  clear hr hx hbx
  go_enter Tryd.func41, Tryd.ntmps41
  go_wp2_with (at_builtin; refine app w.heap.size rfl _ _ rfl (.slice (some ⟨w.heap.size, 0, none⟩) 0 0) [] b A c rfl rfl HOE.out (HR.out.below HBA.out) (by simp) (by simp; omega) ?_; intro v1 w1 h1 h2; have H1 := Lib.hid h1; have HB1 := Lib.hid (HBA.out.grown h2 (by simp) (by simp [Value.ownBlock])); clear h1 h2)
  go_loopw [7, 8] (fun v t wr => ∃ i : Nat, i ≤ x.length ∧ t = .int .i64 i ∧ Hid (Own wr w.heap.size v (layL b a (x.take i))) ∧ Hid (Below w.heap.size w wr)) (fun _ t _ => x.length - (intOf t).toNat)
  case atStart => exact ⟨0, Nat.zero_le _, rfl, by rw [lay_none]; exact H1.out, HB1.out⟩
  case round =>
    obtain ⟨i, hi, rfl, HO, HB⟩ := hrel
    by_cases hlt : i < x.length
    · have hll := lay_len b a x i ha hi
      obtain ⟨Av, cv, rfl, ho2, _, _⟩ := own_split HO.out
      obtain ⟨adx, rfl, hcx⟩ := (HX.out.below HB.out).2.2 (by omega)
      have hc1 := hcx i hlt
      rw [show x.getD i 0 = rdI x i from rfl] at hc1
      clear hcx
      obtain ⟨m, hm⟩ : ∃ m, m = (layL b a (x.take i)).length := ⟨_, rfl⟩
      rw [← hm] at ho2 hll ⊢
      have hbt := HBX.out.at i
      by_cases hin : a + i < b.length
      · have hml : m = b.length := by omega
        have HS := Lib.hid (lay_set b a x i ha hlt hin)
        rw [hm] at ho2
        obtain ⟨g, rfl⟩ := own_slice_ne ho2 (by omega)
        obtain ⟨hq, hfq⟩ := own_cell ho2 ((a + i : Nat) : Int) (by omega) (by omega)
        rw [Int.toNat_natCast] at hq hfq
        have hset := own_setc ho2 ((a + i : Nat) : Int) (rdI x i)
        rw [Int.toNat_natCast, HS.out, ← hm] at hset
        have HSET := Lib.hid hset
        have hgl := own_lo ho2 (k := g) rfl
        have hlt5 : (a : Int) + (i : Int) < (m : Int) := by omega
        have hnn : ((a : Int) + (i : Int)).toNat = a + i := by omega
        clear ho2 hset
        generalize rdI x i = y at *
        generalize rdI (layL b a (x.take i)) (a + i) = z at *
        rw [hml] at HSET hlt5 ⊢
        clear hm hml hll
        go_wp2_with fail
        go_roundw
        case rel => exact ⟨i + 1, by omega, by go_num, HSET.out, HB.out.setCell (p := ⟨g, a + i, none⟩) hgl _⟩
        case measure => simp [intOf]; omega
      · have hml : m = a + i := by omega
        have HS := Lib.hid (lay_more b a x i ha hlt hin)
        rw [hm] at ho2
        have HO2 := Lib.hid ho2
        have hlt5 : ¬ (a : Int) + (i : Int) < (m : Int) := by omega
        have hm9 : m ≤ 400000000 := by omega
        rw [← hm] at HO2
        have HM := Lib.hid hm
        clear ho2 hll hm hml
        generalize rdI x i = y at *
        go_wp2_with (at_builtin; refine app1 w.heap.size rfl _ _ rfl (.slice Av m cv) (layL b a (x.take i)) y rfl rfl HO2.out HB.out.size (by have := HM.out; omega) ?_; intro v3 w3 h3 g3; rw [HS.out] at h3; have H3 := Lib.hid h3; have HB3 := Lib.hid (HB.out.grown g3 HB.out.size (fun k hk => own_lo HO2.out hk)); clear h3 g3)
        go_roundw
        case rel => exact ⟨i + 1, by omega, by go_num, H3.out, HB3.out⟩
        case measure => simp [intOf]; omega
    · have hii : i = x.length := by omega
      have ho := HO.out
      rw [hii, List.take_length] at ho
      have HO2 := Lib.hid ho
      clear ho
      go_wp2_with fail
      go_ret
      exact ⟨_, rfl, HO2.out, HB.out⟩
end Go.Proofs.YtadmpjikkpnjnaaDoor
