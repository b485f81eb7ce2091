/-
  filter.unseal; Apply. No premise.
-/
import Derived.Test.YtdfpikimeihefaaFil1
import Derived.Test.YtdfpikimeihefaaWfL
import Derived.Lib.Bytes
namespace Go.Proofs.Ytdfpikimeihefaa
open Go.RowKit Go.Proofs.YtdfpikimeihefaaW.PrintWords

theorem fstr_inj {a b : List Int} (ha : Bts a) (hb : Bts b) (h : strOfNums a = strOfNums b) : a = b := by
  have h2 : a.map (fun n => UInt8.ofNat n.toNat) = b.map (fun n => UInt8.ofNat n.toNat) := by
    rw [← strOfNums_data, ← strOfNums_data, h]
  clear h
  induction a generalizing b with
  | nil => cases b with
    | nil => rfl
    | cons y b => simp at h2
  | cons x a ih => cases b with
    | nil => simp at h2
    | cons y b =>
      rw [List.map_cons, List.map_cons] at h2
      injection h2 with h3 h4
      have hx := ha x List.mem_cons_self
      have hy := hb y List.mem_cons_self
      have h5 := congrArg UInt8.toNat h3
      rw [UInt8.toNat_ofNat', UInt8.toNat_ofNat'] at h5
      rw [ih (fun z hz => ha z (List.mem_cons_of_mem _ hz)) (fun z hz => hb z (List.mem_cons_of_mem _ hz)) h4]
      congr 1
      omega
theorem fstr_toList (l : List Int) : (strOfNums l).toList = (strOfNums l).data.toList := by
  rw [Lib.strOfNums_toList]
  rfl
theorem fstr_beq_ne {x y : ByteArray} {a b : List Int} (hx : x = strOfNums a) (hy : y = strOfNums b) (h : ¬ x = y) : (x.toList == y.toList) = false := by
  rw [beq_eq_false_iff_ne]
  intro h2
  apply h
  rw [hx, hy] at h2 ⊢
  rw [fstr_toList, fstr_toList] at h2
  exact ByteArray.ext (Array.toList_inj.1 h2)
theorem fcut_pre (A : Option Addr) (l : List Int) (c : Nat) (hi : Int) (h1 : 0 ≤ hi) (h2 : hi ≤ l.length) (hc : l.length ≤ c) :
    (∀ W : World, (Instr.slice 28 (.slice A l.length c) none (some (.int .i64 hi)) none).run Try.prog W = .ok (.slice A (l.take hi.toNat).length c) W) ∧
      (∀ w, Rd w A l → Rd w A (l.take hi.toNat)) := by
  obtain ⟨i0, hi', hz0, hz1, hz2⟩ := info_parts infoB
  obtain ⟨g1, g2⟩ := print_take_int (P := Try.prog) (k := .u8) 28 5 Try.underlying28 hi' hz1 A c l hi h1 h2 hc
  exact ⟨g1, g2.1⟩
/-- A shorter view of one's own row. -/
theorem own_cut {w : World} {base c : Nat} {A : Option Addr} {l : List Int} (h : Own w base (.slice A l.length c) l) (k : Nat) (hk : k ≤ l.length) (h0 : 0 < l.length) : Own w base (.slice A (l.take k).length c) (l.take k) := by
  obtain ⟨g, rfl⟩ := own_slice_ne h h0
  obtain ⟨hb, _, hn, hm, cur, hg, hs, ht⟩ := own_open h
  refine own_mk hb (by rw [List.length_take]; omega) hm hg hs ?_
  rw [List.length_take, Nat.min_eq_left hk]
  have h2 := congrArg (List.take k) ht
  rw [List.take_take, Nat.min_eq_left hk] at h2
  rw [h2]
  unfold nums
  rw [List.map_take]
theorem usF_no {l : List Int} (h : l.length < 4) : usF l = ([], 5) := by unfold usF; rw [if_pos h]
theorem usF_yes {l : List Int} (h : ¬ l.length < 4) (h2 : sealF (l.take (l.length - 4)) = l) : usF l = (l.take (l.length - 4), 0) := by unfold usF; rw [if_neg h, if_pos h2]
theorem usF_bad {l : List Int} (h : ¬ l.length < 4) (h2 : ¬ sealF (l.take (l.length - 4)) = l) : usF l = ([], 5) := by unfold usF; rw [if_neg h, if_neg h2]
def UsPost (A : Option Addr) (c : Nat) (w : World) (l : List Int) (e : Ending) (w' : World) : Prop :=
  (∃ v, e = .returned (.tuple #[v, .int .i64 (usF l).2]) ∧ ((usF l).2 = 0 → v = .slice A (l.take (l.length - 4)).length c ∧ (usF l).1 = l.take (l.length - 4) ∧ 0 < l.length) ∧ ((usF l).2 ≠ 0 → v = .slice none 0 0)) ∧ Below w.heap.size w w'
set_option maxHeartbeats 800000 in
theorem fiUnseal_any (A : Option Addr) (c : Nat) (l : List Int) (w : World) (hr : Rd w A l) (hb : Bts l) (hc : l.length ≤ c) (hl : l.length ≤ 149000000000000) :
    Calls Try.prog 42 #[.slice A l.length c] w (UsPost A c w l) := by
  have HR := Lib.hid hr
  have HBt := Lib.hid hb
  clear hr hb
  by_cases h4 : l.length < 4
  · have HU := Lib.hid (usF_no h4)
    go_enter Try.func42, Try.ntmps42
    go_wp2_with fail
    go_ret2
    exact ⟨⟨_, ret2 (by rw [HU.out]), fun h => (by rw [HU.out] at h; cases h), fun _ => rfl⟩, Below.refl _ _⟩
  · have HY := Lib.hid (fun h => usF_yes h4 h)
    have HN := Lib.hid (fun h => usF_bad h4 h)
    obtain ⟨hcut, hrd⟩ := fcut_pre A l c ((l.length : Int) - 4) (by omega) (by omega) hc
    obtain ⟨t, ht⟩ : ∃ t, t = l.take (l.length - 4) := ⟨_, rfl⟩
    have hbt : Bts t := by rw [ht]; exact HBt.out.take _
    have htl : t.length = l.length - 4 := by rw [ht, List.length_take]; omega
    rw [show ((l.length : Int) - 4).toNat = l.length - 4 from by omega, ← ht] at hcut hrd
    rw [← ht] at HY HN
    have HTL := Lib.hid (show t.length ≤ 149000000000000 by omega)
    have HRD := Lib.hid hrd
    have HBT := Lib.hid hbt
    have HTE := Lib.hid ht
    have HL0 := Lib.hid (show 0 < l.length by omega)
    obtain ⟨sv, hsv⟩ : ∃ sv, sv = strOfNums (sealF t) := ⟨_, rfl⟩
    obtain ⟨sb, hsb⟩ : ∃ sb, sb = strOfNums l := ⟨_, rfl⟩
    have hz1 : sv.size ≤ 9223372036854775807 := by rw [hsv, strOfNums_size, sealF_length]; omega
    have hz2 : sb.size ≤ 9223372036854775807 := by rw [hsb, strOfNums_size]; omega
    have HSV := Lib.hid hsv
    have HSB := Lib.hid hsb
    clear hrd hbt ht htl hsv hsb
    by_cases hum : sv = sb
    · have hU := HY.out (fstr_inj (sealF_bts HBT.out) HBt.out (by rw [← HSV.out, ← HSB.out, hum]))
      have HU := Lib.hid hU
      subst hum
      clear hU HY HN
      go_enter Try.func42, Try.ntmps42
      go_wp2_with fail
      refine (fiSeal_any A c t w (HRD.out _ HR.out) HBT.out HTL.out).mono ?_
      rintro e w1 ⟨v, rfl, ho, hb⟩
      have hcx := own_str ho
      rw [← HSV.out] at hcx
      have hcl : (convert 28 9 (.slice A l.length c)).run Try.prog w1 = .ok (.string (strOfNums l)) w1 := string_of_reads Try.underlying28 Try.underlying5 Try.underlying9 (show ReadsInt w1 .u8 A l.length l from HR.out.below hb)
      rw [← HSB.out] at hcl
      have HB := Lib.hid hb
      clear ho hb
      go_wp2_with fail
      go_ret2
      refine ⟨⟨_, ret2 (by rw [HU.out]), fun _ => ⟨by rw [← HTE.out]; rfl, by rw [HU.out, HTE.out], HL0.out⟩, fun h => absurd (by rw [HU.out]) h⟩, HB.out⟩
    · have hU := HN.out (fun h => hum (by rw [HSV.out, HSB.out, h]))
      have HU := Lib.hid hU
      have hne := fstr_beq_ne HSV.out HSB.out hum
      clear hU HY HN
      go_enter Try.func42, Try.ntmps42
      go_wp2_with fail
      refine (fiSeal_any A c t w (HRD.out _ HR.out) HBT.out HTL.out).mono ?_
      rintro e w1 ⟨v, rfl, ho, hb⟩
      have hcx := own_str ho
      rw [← HSV.out] at hcx
      have hcl : (convert 28 9 (.slice A l.length c)).run Try.prog w1 = .ok (.string (strOfNums l)) w1 := string_of_reads Try.underlying28 Try.underlying5 Try.underlying9 (show ReadsInt w1 .u8 A l.length l from HR.out.below hb)
      rw [← HSB.out] at hcl
      have HB := Lib.hid hb
      clear ho hb
      go_wp2_with fail
      go_ret2
      exact ⟨⟨_, ret2 (by rw [HU.out]), fun h => (by rw [HU.out] at h; cases h), fun _ => rfl⟩, HB.out⟩

end Go.Proofs.Ytdfpikimeihefaa
