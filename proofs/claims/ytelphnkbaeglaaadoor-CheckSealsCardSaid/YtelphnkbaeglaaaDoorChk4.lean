/-
  slabvaultref02.Seal, slabvaultref02.Unseal. No premise.
-/
import Derived.Test.YtelphnkbaeglaaaDoorChk3
import Derived.Test.YtelphnkbaeglaaaDoorRef2
import Derived.Deep.RegionWith
import Derived.Deep.DeepCutAuto
import Derived.Deep.CutBlock
import Derived.Lib.Bytes
namespace Go.Proofs.YtelphnkbaeglaaaDoor
open Go.RowKit Go.Proofs.YtelphnkbaeglaaaDoorW.PrintWords

theorem rd_none (w : World) : Rd w none [] := ⟨rfl, by simp, fun h => absurd h (by simp)⟩
set_option maxHeartbeats 800000 in
theorem refSeal_any (A : Option Addr) (c : Nat) (l : List Int) (w : World) (hr : Rd w A l) (hb : Bts l) (hl : l.length + 8 ≤ 150000000000000) :
    Calls Tryd.prog 22 #[.slice A l.length c] w fun e w' => ∃ v, e = .returned v ∧ Own w' w.heap.size v (sealL l) ∧ Below w.heap.size w w' := by
  have HR := Lib.hid hr
  have HBt := Lib.hid hb
  obtain ⟨m, hm⟩ : ∃ m, m = moreS 0 l := ⟨_, rfl⟩
  obtain ⟨h0, h1⟩ := moreS_range 0 l
  rw [← hm] at h0 h1
  have HM := Lib.hid hm
  clear hr hb hm
  have HO0 := Lib.hid (own_empty w w.heap.size (Nat.le_refl _))
  have HB0 := Lib.hid ((Below.refl w.heap.size w).alloc (Nat.le_refl _) (.cells #[] 5))
  go_enter Tryd.func22, Tryd.ntmps22
  go_wp2_with (first | ((with_reducible refine gate_builtin (b := .append) (xs := #[.tmp 3, .tmp 4]) rfl ?_); refine app w.heap.size rfl _ _ rfl (.slice (some ⟨w.heap.size, 0, none⟩) 0 0) [] l A c rfl rfl HO0.out (HR.out.below HB0.out) (by simp) (by simp; omega) ?_; intro v1 w1 h1 h2; have H1 := Lib.hid h1; have H2 := Lib.hid (HB0.out.grown h2 (by simp) (by simp [Value.ownBlock])); clear h1 h2) | (go_at_call 16; refine (refCrc_any A c l _ (HR.out.below H2.out) HBt.out (by omega)).mono ?_; rintro e w9 ⟨rfl, rfl⟩; rw [← HM.out]) | (go_at_call 27; refine (refDigits_any 4 false m _ (by decide) h0 (by omega)).mono ?_; rintro e w2 ⟨v2, rfl, ho, hb⟩; obtain ⟨A', c', hv, hrd⟩ := own_reads ho; have hrd' : Rd w2 A' (dig 4 false m) := hrd; have HRD := Lib.hid hrd'; subst hv; have H3 := Lib.hid hb; clear hrd hrd' ho hb) | ((with_reducible refine gate_builtin (b := .append) (xs := #[.tmp 5, .tmp 9]) rfl ?_); refine app w.heap.size rfl _ _ rfl v1 ([] ++ l) (dig 4 false m) A' c' rfl rfl (pw_own_below H1.out H3.out) HRD.out (by have := H2.out.size; have := H3.out.size; omega) (by rw [dig_length]; simp; omega) ?_; intro v3 w3 h4 h5; have H4 := Lib.hid h4; have H5 := Lib.hid ((H2.out.trans (H3.out.mono H2.out.size)).grown h5 (by have := H2.out.size; have := H3.out.size; omega) (fun k hk => own_base H1.out k hk)); clear h4 h5))
  go_ret
  refine ⟨_, rfl, ?_, H5.out⟩
  have := H4.out
  rw [List.nil_append, HM.out] at this
  exact this

theorem str_inj {a b : List Int} (ha : Bts a) (hb : Bts b) (h : strOfNums a = strOfNums b) : a = b := by
  have h2 : a.map (fun n => UInt8.ofNat n.toNat) = b.map (fun n => UInt8.ofNat n.toNat) := by
    rw [← strOfNums_data, ← strOfNums_data, h]
  clear h
  induction a generalizing b with
  | nil => cases b with
    | nil => rfl
    | cons y b => simp at h2
  | cons x a ih => cases b with
    | nil => simp at h2
    | cons y b =>
      rw [List.map_cons, List.map_cons] at h2
      injection h2 with h3 h4
      have hx := ha x List.mem_cons_self
      have hy := hb y List.mem_cons_self
      have h5 := congrArg UInt8.toNat h3
      rw [UInt8.toNat_ofNat', UInt8.toNat_ofNat'] at h5
      rw [ih (fun z hz => ha z (List.mem_cons_of_mem _ hz)) (fun z hz => hb z (List.mem_cons_of_mem _ hz)) h4]
      congr 1
      omega
theorem str_toList (l : List Int) : (strOfNums l).toList = (strOfNums l).data.toList := by
  rw [Lib.strOfNums_toList]
  rfl
theorem str_beq_ne {x y : ByteArray} {a b : List Int} (hx : x = strOfNums a) (hy : y = strOfNums b) (h : ¬ x = y) : (x.toList == y.toList) = false := by
  rw [beq_eq_false_iff_ne]
  intro h2
  apply h
  rw [hx, hy] at h2 ⊢
  rw [str_toList, str_toList] at h2
  exact ByteArray.ext (Array.toList_inj.1 h2)
set_option maxHeartbeats 1600000 in
theorem refUnseal_any (A : Option Addr) (c : Nat) (b : List Int) (w : World) (hr : Rd w A b) (hb : Bts b) (hc : b.length ≤ c) (hl : b.length + 8 ≤ 150000000000000) :
    Calls Tryd.prog 21 #[.slice A b.length c] w fun e w' => ∃ v, e = .returned (.tuple #[v, .int .i64 (usE b)]) ∧ Own w' w.heap.size v (usL b) ∧ Below w.heap.size w w' := by
  have HR := Lib.hid hr
  have HBt := Lib.hid hb
  clear hr hb
  by_cases h4 : b.length < 4
  · have hE : usE b = 4 := by unfold usE; rw [if_pos h4]
    have HE := Lib.hid hE
    clear hE
    go_enter Tryd.func21, Tryd.ntmps21
    go_wp2_with fail
    go_ret2
    have hE := HE.out
    refine ⟨.slice none 0 0, pair_ret hE.symm, ?_, Below.refl _ _⟩
    unfold usL
    rw [if_neg (by omega)]
    exact World.ownsRow_nil _ _ _ _
  · obtain ⟨t, ht⟩ : ∃ t, t = b.take (b.length - 4) := ⟨_, rfl⟩
    have hbt : Bts t := by rw [ht]; exact HBt.out.take _
    have htl : t.length = b.length - 4 := by rw [ht, List.length_take]; omega
    obtain ⟨hcut, hrd⟩ := cut_pre A b c ((b.length : Int) - 4) (by omega) (by omega) hc
    rw [show ((b.length : Int) - 4).toNat = b.length - 4 from by omega, ← ht] at hcut hrd
    have htl2 : t.length + 8 ≤ 150000000000000 := by omega
    have HTL := Lib.hid htl2
    have HRD := Lib.hid hrd
    have HBT := Lib.hid hbt
    have HTE := Lib.hid ht
    have hcb : ∀ W, Below w.heap.size w W → (convert 22 9 (.slice A b.length c)).run Tryd.prog W = .ok (.string (strOfNums b)) W := fun W hW =>
      string_of_reads Tryd.underlying22 Tryd.underlying5 Tryd.underlying9 (show ReadsInt W .u8 A b.length b from HR.out.below hW)
    have hb0 := Below.refl w.heap.size w
    have hb00 : Below w.heap.size w w.drew := hb0.drew
    clear hrd hbt ht htl htl2
    obtain ⟨sv, hsv⟩ : ∃ sv, sv = strOfNums (sealL t) := ⟨_, rfl⟩
    obtain ⟨sb, hsb⟩ : ∃ sb, sb = strOfNums b := ⟨_, rfl⟩
    have hz1 : sv.size ≤ 9223372036854775807 := by rw [hsv, strOfNums_size]; unfold sealL; rw [List.length_append, dig_length]; have := HTL.out; omega
    have hz2 : sb.size ≤ 9223372036854775807 := by rw [hsb, strOfNums_size]; omega
    rw [← hsb] at hcb
    have HSV := Lib.hid hsv
    have HSB := Lib.hid hsb
    clear hsv hsb
    by_cases hum : sv = sb
    · have hE : usE b = 0 := by
        unfold usE
        rw [if_neg h4, ← HTE.out, if_pos]
        have hbs : Bts (sealL t) := HBT.out.append (dig_bts _ _ _)
        exact str_inj hbs HBt.out (by rw [← HSV.out, ← HSB.out, hum])
      have HE := Lib.hid hE
      clear hE
      subst hum
      go_enter Tryd.func21, Tryd.ntmps21
      go_upto_region 4 with (fail)
      go_cut [18] (fun x wc => x = .bool false ∧ Hid (Below w.heap.size w wc))
      case first =>
        go_region_with ((go_at_call 22; refine (refSeal_any A c t _ (HRD.out _ (HR.out.below hb00)) HBT.out HTL.out).mono ?_; rintro e w4 ⟨vz, rfl, hz, hbz⟩; have hcz := own_str hz; rw [← HSV.out] at hcz; have hbz' : Below w.heap.size w w4 := ⟨hbz.os, hbz.tape, hbz.output, hbz.size, hbz.block⟩))
        all_goals
          go_wp2_with fail
          go_meet
          case rel => exact ⟨rfl, hbz'⟩
      case rest =>
        obtain ⟨rfl, HB4⟩ := hcut
        have hs4 := HB4.out.size
        have HO0 := Lib.hid (own_empty wc w.heap.size hs4)
        have HB0 := Lib.hid (HB4.out.alloc hs4 (.cells #[] 5))
        go_wp2_with ((with_reducible refine gate_builtin (b := .append) (xs := #[.tmp 19, .tmp 22]) rfl ?_); refine app w.heap.size rfl _ _ rfl (.slice (some ⟨wc.heap.size, 0, none⟩) 0 0) [] t A c rfl rfl HO0.out (HRD.out _ (HR.out.below HB0.out)) (by simp; omega) (by have := HTL.out; simp; omega) ?_; intro v1 w1 h1 h2; have H1 := Lib.hid h1; have H2 := Lib.hid (HB0.out.grown h2 (by simp; omega) (by simp [Value.ownBlock]; omega)); clear h1 h2)
        go_ret2
        have hE := HE.out
        refine ⟨_, pair_ret hE.symm, ?_, H2.out⟩
        unfold usL
        rw [if_pos hE, ← HTE.out]
        exact H1.out
    · have hE : usE b = 5 := by
        unfold usE
        rw [if_neg h4, ← HTE.out, if_neg]
        intro h
        exact hum (by rw [HSV.out, HSB.out, h])
      have HE := Lib.hid hE
      have HNE := Lib.hid (str_beq_ne HSV.out HSB.out hum)
      clear hE
      go_enter Tryd.func21, Tryd.ntmps21
      go_upto_region 4 with (fail)
      go_cut [18] (fun x wc => x = .bool true ∧ Hid (Below w.heap.size w wc))
      case first =>
        go_region_with ((go_at_call 22; refine (refSeal_any A c t _ (HRD.out _ (HR.out.below hb00)) HBT.out HTL.out).mono ?_; rintro e w4 ⟨vz, rfl, hz, hbz⟩; have hcz := own_str hz; rw [← HSV.out] at hcz; have hbz' : Below w.heap.size w w4 := ⟨hbz.os, hbz.tape, hbz.output, hbz.size, hbz.block⟩))
        all_goals
          go_wp2_with fail
          go_meet
          case rel => exact ⟨by rw [HNE.out]; rfl, hbz'⟩
      case rest =>
        obtain ⟨rfl, HB4⟩ := hcut
        go_wp2_with fail
        go_ret2
        have hE := HE.out
        refine ⟨.slice none 0 0, pair_ret hE.symm, ?_, HB4.out⟩
        unfold usL
        rw [if_neg (by omega)]
        exact World.ownsRow_nil _ _ _ _
end Go.Proofs.YtelphnkbaeglaaaDoor
