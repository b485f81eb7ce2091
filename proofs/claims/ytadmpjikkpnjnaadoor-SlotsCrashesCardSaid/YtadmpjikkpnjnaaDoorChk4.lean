/-
  slabvaultref02.Seal, slabvaultref02.Unseal. No premise.
-/
import Derived.Test.YtadmpjikkpnjnaaDoorChk3
import Derived.Test.YtadmpjikkpnjnaaDoorRef2
import Derived.Deep.RegionWith
import Derived.Deep.DeepCutAuto
import Derived.Deep.CutBlock
import Derived.Lib.Bytes
namespace Go.Proofs.YtadmpjikkpnjnaaDoor
open Go.RowKit Go.Proofs.YtadmpjikkpnjnaaDoorW.PrintWords

theorem rd_none (w : World) : Rd w none [] := ⟨rfl, by simp, fun h => absurd h (by simp)⟩
set_option maxHeartbeats 800000 in
theorem refSeal_any (A : Option Addr) (c : Nat) (l : List Int) (w : World) (hr : Rd w A l) (hb : Bts l) (hl : l.length + 8 ≤ 150000000000000) :
    Calls Tryd.prog 32 #[.slice A l.length c] w fun e w' => ∃ v, e = .returned v ∧ Own w' w.heap.size v (sealL l) ∧ Below w.heap.size w w' := by
  have HR := Lib.hid hr
  have HBt := Lib.hid hb
  obtain ⟨m, hm⟩ : ∃ m, m = moreS 0 l := ⟨_, rfl⟩
  obtain ⟨h0, h1⟩ := moreS_range 0 l
  rw [← hm] at h0 h1
  have HM := Lib.hid hm
  clear hr hb hm
  have HO0 := Lib.hid (own_empty w w.heap.size (Nat.le_refl _))
  have HB0 := Lib.hid ((Below.refl w.heap.size w).alloc (Nat.le_refl _) (.cells #[] 5))
  go_enter Tryd.func32, Tryd.ntmps32
  go_wp2_with (first | ((with_reducible refine gate_builtin (b := .append) (xs := #[.tmp 3, .tmp 4]) rfl ?_); refine app w.heap.size rfl _ _ rfl (.slice (some ⟨w.heap.size, 0, none⟩) 0 0) [] l A c rfl rfl HO0.out (HR.out.below HB0.out) (by simp) (by simp; omega) ?_; intro v1 w1 h1 h2; have H1 := Lib.hid h1; have H2 := Lib.hid (HB0.out.grown h2 (by simp) (by simp [Value.ownBlock])); clear h1 h2) | (go_at_call 48; refine (refCrc_any A c l _ (HR.out.below H2.out) HBt.out (by omega)).mono ?_; rintro e w9 ⟨rfl, rfl⟩; rw [← HM.out]) | (go_at_call 31; refine (refDigits_any 4 false m _ (by decide) h0 (by omega)).mono ?_; rintro e w2 ⟨v2, rfl, ho, hb⟩; obtain ⟨A', c', hv, hrd⟩ := own_reads ho; have hrd' : Rd w2 A' (dig 4 false m) := hrd; have HRD := Lib.hid hrd'; subst hv; have H3 := Lib.hid hb; clear hrd hrd' ho hb) | ((with_reducible refine gate_builtin (b := .append) (xs := #[.tmp 5, .tmp 9]) rfl ?_); refine app w.heap.size rfl _ _ rfl v1 ([] ++ l) (dig 4 false m) A' c' rfl rfl (pw_own_below H1.out H3.out) HRD.out (by have := H2.out.size; have := H3.out.size; omega) (by rw [dig_length]; simp; omega) ?_; intro v3 w3 h4 h5; have H4 := Lib.hid h4; have H5 := Lib.hid ((H2.out.trans (H3.out.mono H2.out.size)).grown h5 (by have := H2.out.size; have := H3.out.size; omega) (fun k hk => own_base H1.out k hk)); clear h4 h5))
  go_ret
  refine ⟨_, rfl, ?_, H5.out⟩
  have := H4.out
  rw [List.nil_append, HM.out] at this
  exact this

theorem str_inj {a b : List Int} (ha : Bts a) (hb : Bts b) (h : strOfNums a = strOfNums b) : a = b := by
  have h2 : a.map (fun n => UInt8.ofNat n.toNat) = b.map (fun n => UInt8.ofNat n.toNat) := by
    rw [← strOfNums_data, ← strOfNums_data, h]
  clear h
  induction a generalizing b with
  | nil => cases b with
    | nil => rfl
    | cons y b => simp at h2
  | cons x a ih => cases b with
    | nil => simp at h2
    | cons y b =>
      rw [List.map_cons, List.map_cons] at h2
      injection h2 with h3 h4
      have hx := ha x List.mem_cons_self
      have hy := hb y List.mem_cons_self
      have h5 := congrArg UInt8.toNat h3
      rw [UInt8.toNat_ofNat', UInt8.toNat_ofNat'] at h5
      rw [ih (fun z hz => ha z (List.mem_cons_of_mem _ hz)) (fun z hz => hb z (List.mem_cons_of_mem _ hz)) h4]
      congr 1
      omega
theorem str_toList (l : List Int) : (strOfNums l).toList = (strOfNums l).data.toList := by
  rw [Lib.strOfNums_toList]
  rfl
theorem str_beq_ne {x y : ByteArray} {a b : List Int} (hx : x = strOfNums a) (hy : y = strOfNums b) (h : ¬ x = y) : (x.toList == y.toList) = false := by
  rw [beq_eq_false_iff_ne]
  intro h2
  apply h
  rw [hx, hy] at h2 ⊢
  rw [str_toList, str_toList] at h2
  exact ByteArray.ext (Array.toList_inj.1 h2)
end Go.Proofs.YtadmpjikkpnjnaaDoor
