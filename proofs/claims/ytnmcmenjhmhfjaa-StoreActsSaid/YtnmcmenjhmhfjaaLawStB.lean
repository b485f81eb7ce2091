/-
  StoreMakes: the walk. No premise.
-/
import Derived.Test.YtnmcmenjhmhfjaaLawStA
import Derived.Test.YtnmcmenjhmhfjaaSR5
namespace Go.Proofs.Ytnmcmenjhmhfjaa
open Go.RowKit Go.Shelf Go.Proofs.YtnmcmenjhmhfjaaW.PrintWords

theorem str_snoc (l : List Int) : strOfNums (l ++ [90]) = strOfNums l ++ (⟨#[90]⟩ : ByteArray) := by
  apply ByteArray.ext
  simp [strOfNums, ByteArray.data_append]
theorem own_some {w : World} {base m c : Nat} {A : Option Addr} {l : List Int} (h : Own w base (.slice A m c) l) (hm : m = l.length) (h0 : 0 < l.length) : ∃ g, A = some ⟨g, 0, none⟩ := by
  subst hm
  exact own_slice_ne h h0
theorem own_cap {w : World} {base m c n : Nat} {A : Option Addr} {l : List Int} (h : Own w base (.slice A m c) l) (hm : m = l.length) (hn : n ≤ l.length) : n ≤ c := by
  subst hm
  have := (own_rdv h).2.2
  omega
theorem ofB_nil {b : List Int} {most : Int} (h : ¬ ofB b most) : ¬ ofB [] most := by
  unfold ofB at h ⊢
  simp only [List.length_nil]
  omega
set_option maxRecDepth 100000 in
set_option maxHeartbeats 3200000 in
theorem storeMakes_walk (B : Option Addr) (cb : Nat) (b : List Int) (most : Int) (w : World) (hrb : ReadsInt w .u8 B b.length b) (hwb : ∀ x ∈ b, (Lit.int .u8 x).wf = true) (hcb : b.length ≤ cb) (hyb : b.length * 1 ≤ 140737488351232) (_hwm : (Lit.int .i64 most).wf = true) :
    Calls Try.prog 6 #[.slice B b.length cb, .int .i64 most] w fun e w' => e = .returned (.bool true) ∧ Below w.heap.size w w' := by
  have HRB := Lib.hid (show Rd w B b from hrb)
  have HBB := Lib.hid (wf_bts' hwb)
  have HOE := Lib.hid (own_empty w w.heap.size (Nat.le_refl _))
  have HBA := Lib.hid ((Below.refl w.heap.size w).alloc (Nat.le_refl _) (.cells #[] 5))
  have HFR0 := Lib.hid (show ∀ w', Fr (fun _ => 0) w' from fun _ _ _ => rfl)
  clear hrb hwb
  go_enter Try.func6, Try.ntmps6
  go_wp2_with (first | ((with_reducible refine gate_builtin (b := .append) (xs := #[.tmp 9, .tmp 10]) rfl ?_); refine app w.heap.size rfl _ _ rfl (.slice (some ⟨w.heap.size, 0, none⟩) 0 0) [] b B cb rfl rfl HOE.out (HRB.out.below HBA.out) (by simp) (by simp; omega) ?_; intro v1 w1 h1 h2; have H1 := Lib.hid h1; have H2 := Lib.hid (HBA.out.grown h2 (by simp) (by simp [Value.ownBlock])); clear h1 h2) | ((with_reducible refine gate_builtin (b := .append) (xs := #[.tmp 11, .tmp 12]) rfl ?_); refine app1 w.heap.size rfl _ _ rfl v1 ([] ++ b) 90 rfl rfl H1.out H2.out.size (by simp; omega) ?_; intro v2 w2 h4 h5; rw [List.nil_append] at h4; have HB2 := Lib.hid (H2.out.grown h5 H2.out.size (fun k hk => own_base H1.out k hk)); obtain ⟨A2, m2, c2, rfl, HM2, h4'⟩ := own_splitL h4; have HO2 := Lib.hid h4'; obtain ⟨g, rfl⟩ := own_some h4' HM2.out (by simp); have hcap : b.length ≤ c2 := own_cap h4' HM2.out (by simp); clear h4 h4' h5))
  have hrd2 : Rd w2 (some ⟨g, 0, none⟩) b := by
    obtain ⟨A', c', hv, hrd⟩ := own_reads HO2.out
    injection hv with e1 e2 e3
    subst e1
    have := hrd.take_ b.length (by simp)
    rwa [List.take_left] at this
  have HRD2 := Lib.hid hrd2
  have hs2 := HB2.out.size
  have hco := own_str HO2.out
  rw [str_snoc] at hco
  have hcob := string_of_reads (P := Try.prog) Try.underlying22 Try.underlying5 Try.underlying9 (c := cb) (show ReadsInt w2 .u8 B b.length b from HRB.out.below HB2.out)
  have hz : (strOfNums b).size + 1 ≤ 9223372036854775807 := by rw [strOfNums_size]; omega
  have hgl := own_hi HO2.out (k := g) rfl
  have hglo := own_lo HO2.out (k := g) rfl
  obtain ⟨hq, hfq⟩ := own_cell HO2.out 0 (by omega) (by simp)
  have hy := (show Bts (b ++ [90]) from HBB.out.append (by unfold Bts; decide)).at 0
  rw [show ((0 : Int)).toNat = 0 from rfl] at hq hfq
  generalize rdI (b ++ [90]) 0 = y at hq hy
  have HQ := Lib.hid (And.intro hq hfq)
  have hm1 : 1 ≤ m2 := by have := HM2.out; simp at this; omega
  clear hrd2
  by_cases hb2 : ofB [] most
  · have hb1 : ofB b most := Classical.byContradiction fun h => ofB_nil h hb2
    refine (of_bad (some ⟨g, 0, none⟩) c2 b most w2 hb1).mono ?_
    rintro e w3 ⟨rfl, rfl⟩
    go_wp2_with fail
    refine (refOf_bad B cb b most w2 hb1).mono ?_
    rintro e w3 ⟨rfl, rfl⟩
    go_wp2_with fail
    refine (new_bad most w2 hb2).mono ?_
    rintro e w3 ⟨rfl, rfl⟩
    go_wp2_with fail
    refine (refOf_bad none 0 [] most w2 hb2).mono ?_
    rintro e w3 ⟨rfl, rfl⟩
    have HB3 := Lib.hid (HB2.out.setCell (p := ⟨g, 0, none⟩) hglo (.int .u8 ((y + 1) % 256)))
    go_wp2_with (go_at_call 11; refine (lives03 _).mono ?_; rintro e w7 ⟨rfl, hb7⟩)
    go_ret
    exact ⟨rfl, HB3.out.trans (hb7.mono HB3.out.size)⟩
  · have HOB := Lib.hid hb2
    by_cases hb1 : ofB b most
    · clear hco hcob hq hfq hb2
      refine (of_bad (some ⟨g, 0, none⟩) c2 b most w2 hb1).mono ?_
      rintro e w3 ⟨rfl, rfl⟩
      go_wp2_with fail
      refine (refOf_bad B cb b most w2 hb1).mono ?_
      rintro e w3 ⟨rfl, rfl⟩
      go_wp2_with fail
      refine (new_any (fun _ => 0) 3 most w2 (HFR0.out _) HOB.out).mono ?_
      rintro e w3 ⟨p3, o3, rfl, hf3, hu3, hb3, _⟩
      have HF3 := Lib.hid hf3
      have HU3 := Lib.hid hu3
      have HB3 := Lib.hid hb3
      clear hf3 hu3 hb3
      go_wp2_with fail
      refine (refOf_any o3 4 none 0 [] most w3 HU3.out.fr (rd_none _) HOB.out).mono ?_
      rintro e w4 ⟨p4, o4, rfl, hf4, hu4, hb4, _⟩
      have HU4 := Lib.hid (show o4 g = 0 from (hu4.old g (Nat.lt_of_lt_of_le hgl HB3.out.size)).trans (HU3.out.old g hgl))
      have HF4 := Lib.hid (HF3.out.upd hu4 (by decide) (by decide))
      have HB4 := Lib.hid (HB3.out.trans (hb4.mono HB3.out.size))
      have hq4 : w4.cell? ⟨g, 0, none⟩ = some (.int .u8 y) := (HB4.out.cell (p := ⟨g, 0, none⟩) hgl).trans HQ.out.1
      have hfq4 : w4.frozen? ⟨g, 0, none⟩ = false := (HB4.out.frozen (p := ⟨g, 0, none⟩) hgl).trans HQ.out.2
      have hco := own_str (own_step HO2.out HB4.out)
      rw [str_snoc] at hco
      have HB04 := Lib.hid (HB2.out.trans (HB4.out.mono hs2))
      have hcob := string_of_reads (P := Try.prog) Try.underlying22 Try.underlying5 Try.underlying9 (c := cb) (show ReadsInt w4 .u8 B b.length b from HRB.out.below HB04.out)
      have HF5 := Lib.hid (HF4.out.grown (grownBy_setCell' w4 g (.int .u8 ((y + 1) % 256))) (fun k e => by cases e; rw [HU4.out]; decide))
      have HB5 := Lib.hid (HB04.out.setCell (p := ⟨g, 0, none⟩) hglo (.int .u8 ((y + 1) % 256)))
      clear hf4 hu4 hb4
      go_wp2_with (first | (go_at_call 20; refine (len_any o4 3 p3 (mkF [] most) _ HF5.out).mono ?_; rintro e wl ⟨rfl, rfl⟩; rw [show (((mkF [] most).b.length : Nat) : Int) = 0 from rfl]) | (go_at_call 24; refine (most_any o4 3 p3 (mkF [] most) _ HF5.out).mono ?_; rintro e wl ⟨rfl, rfl⟩; rw [show (mkF [] most).most = most from rfl]) | (go_at_call 11; refine (lives03 _).mono ?_; rintro e w7 ⟨rfl, hb7⟩))
      go_ret
      exact ⟨rfl, HB5.out.trans (hb7.mono HB5.out.size)⟩
    · clear hco hcob hq hfq hb2
      have HO1 := Lib.hid hb1
      have hbl4 : b.length ≤ 4194304 := by unfold ofB at hb1; omega
      refine (of_any (fun _ => 0) 1 (some ⟨g, 0, none⟩) c2 b most w2 (HFR0.out _) HRD2.out HO1.out).mono ?_
      rintro e w3 ⟨p1, o3, rfl, hf3, hu3, hb3, _⟩
      have HF3 := Lib.hid hf3
      have HU3 := Lib.hid hu3
      have HB3 := Lib.hid hb3
      clear hf3 hu3 hb3
      go_wp2_with fail
      refine (refOf_any o3 2 B cb b most w3 HU3.out.fr (HRB.out.below (HB2.out.trans (HB3.out.mono hs2))) HO1.out).mono ?_
      rintro e w4 ⟨p2, o4, rfl, hf4, hu4, hb4, _⟩
      have HF4 := Lib.hid (HF3.out.upd hu4 (by decide) (by decide))
      have HR4 := Lib.hid hf4
      have HU4 := Lib.hid hu4
      have HB4 := Lib.hid (HB3.out.trans (hb4.mono HB3.out.size))
      clear hf4 hu4 hb4
      go_wp2_with fail
      refine (new_any o4 3 most w4 HU4.out.fr HOB.out).mono ?_
      rintro e w5 ⟨p3, o5, rfl, hf5, hu5, hb5, _⟩
      have HG5 := Lib.hid hf5
      have HF5 := Lib.hid (HF4.out.upd hu5 (by decide) (by decide))
      have HR5 := Lib.hid (HR4.out.upd hu5 (by decide) (by decide))
      have HU5 := Lib.hid hu5
      have HB5 := Lib.hid (HB4.out.trans (hb5.mono HB4.out.size))
      clear hf5 hu5 hb5
      go_wp2_with fail
      refine (refOf_any o5 4 none 0 [] most w5 HU5.out.fr (rd_none _) HOB.out).mono ?_
      rintro e w6 ⟨p4, o6, rfl, hf6, hu6, hb6, _⟩
      have HG6 := Lib.hid (HG5.out.upd hu6 (by decide) (by decide))
      have HF6 := Lib.hid (HF5.out.upd hu6 (by decide) (by decide))
      have HR6 := Lib.hid (HR5.out.upd hu6 (by decide) (by decide))
      have HT6 := Lib.hid (show o6 g = 0 from (hu6.old g (Nat.lt_of_lt_of_le hgl HB5.out.size)).trans ((HU5.out.old g (Nat.lt_of_lt_of_le hgl HB4.out.size)).trans ((HU4.out.old g (Nat.lt_of_lt_of_le hgl HB3.out.size)).trans (HU3.out.old g hgl))))
      have HB6 := Lib.hid (HB5.out.trans (hb6.mono HB5.out.size))
      have hq4 : w6.cell? ⟨g, 0, none⟩ = some (.int .u8 y) := (HB6.out.cell (p := ⟨g, 0, none⟩) hgl).trans HQ.out.1
      have hfq4 : w6.frozen? ⟨g, 0, none⟩ = false := (HB6.out.frozen (p := ⟨g, 0, none⟩) hgl).trans HQ.out.2
      have hco := own_str (own_step HO2.out HB6.out)
      rw [str_snoc] at hco
      have HB06 := Lib.hid (HB2.out.trans (HB6.out.mono hs2))
      have hcob := string_of_reads (P := Try.prog) Try.underlying22 Try.underlying5 Try.underlying9 (c := cb) (show ReadsInt w6 .u8 B b.length b from HRB.out.below HB06.out)
      have HT := fun (k : Nat) (e : some g = some k) => (show o6 k = 0 by cases e; exact HT6.out)
      have hgr := grownBy_setCell' w6 g (.int .u8 ((y + 1) % 256))
      have HF7 := Lib.hid (HF6.out.grown hgr (fun k e => by rw [HT k e]; decide))
      have HR7 := Lib.hid (HR6.out.grown hgr (fun k e => by rw [HT k e]; decide))
      have HG7 := Lib.hid (HG6.out.grown hgr (fun k e => by rw [HT k e]; decide))
      have HB7 := Lib.hid (HB06.out.setCell (p := ⟨g, 0, none⟩) hglo (.int .u8 ((y + 1) % 256)))
      clear hf6 hu6 hb6 HT hgr
      go_wp2_with fail
      refine (alike_any o6 1 2 p1 p2 (mkF b most) _ HF7.out HR7.out (by show (0 : Nat) ≤ _; omega) (fun r hr => by cases hr) (by show b.length ≤ _; omega)).mono ?_
      rintro e w8 ⟨rfl, hb8⟩
      have HG8 := Lib.hid (HG7.out.below hb8)
      have HB8 := Lib.hid (HB7.out.trans (hb8.mono HB7.out.size))
      clear hb8
      go_wp2_with (first | (go_at_call 20; refine (len_any o6 3 p3 (mkF [] most) _ HG8.out).mono ?_; rintro e wl ⟨rfl, rfl⟩; rw [show (((mkF [] most).b.length : Nat) : Int) = 0 from rfl]) | (go_at_call 24; refine (most_any o6 3 p3 (mkF [] most) _ HG8.out).mono ?_; rintro e wl ⟨rfl, rfl⟩; rw [show (mkF [] most).most = most from rfl]) | (go_at_call 11; refine (lives03 _).mono ?_; rintro e w9 ⟨rfl, hb9⟩))
      go_ret
      exact ⟨rfl, HB8.out.trans (hb9.mono HB8.out.size)⟩
end Go.Proofs.Ytnmcmenjhmhfjaa
