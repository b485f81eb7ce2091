/-
  SlotsLoads: the walk. No premise.
-/
import Derived.Test.YtadmpjikkpnjnaaDoorSl6
import Derived.Deep.RegionHeld3
namespace Go.Proofs.YtadmpjikkpnjnaaDoor
open Go.RowKit Go.Shelf Go.Proofs.YtadmpjikkpnjnaaDoorW.PrintWords

theorem lent_rd' {w : World} {base g cap : Nat} {l : List Int} (h : Own w base (.slice (some ⟨g, 0, none⟩) (l.length + 1) cap) (l ++ [90])) : Rd w (some ⟨g, 0, none⟩) l := by
  obtain ⟨A', c', hv, hrd⟩ := own_reads h
  injection hv with e1 e2 e3
  subst e1
  have := hrd.take_ l.length (by simp)
  rwa [List.take_left] at this
theorem str_snoc' (l : List Int) : strOfNums (l ++ [90]) = strOfNums l ++ (⟨#[90]⟩ : ByteArray) := by
  apply ByteArray.ext
  simp [strOfNums, ByteArray.data_append]
set_option maxRecDepth 100000 in
set_option maxHeartbeats 3200000 in
theorem slotsLoads_walk (A : Option Addr) (c : Nat) (l : List Int) (w : World) (hT : TabAt w) (hr : ReadsInt w .u8 A l.length l) (hw : ∀ x ∈ l, (Lit.int .u8 x).wf = true) (hc : l.length ≤ c) (hy : l.length * 1 ≤ 140737488351232) :
    Calls Tryd.prog 4 #[.slice A l.length c] w fun e w' => e = .returned (.bool true) ∧ Below w.heap.size w w' := by
  have HT := Lib.hid hT
  have HR := Lib.hid (show Rd w A l from hr)
  have HBT := Lib.hid (wf_bts' hw)
  clear hT hr hw
  have HO0 := Lib.hid (own_empty w w.heap.size (Nat.le_refl _))
  have HB0 := Lib.hid ((Below.refl w.heap.size w).alloc (Nat.le_refl _) (.cells #[] 5))
  go_enter Tryd.func4, Tryd.ntmps4
  go_wp2_with (first | ((with_reducible refine gate_builtin (b := .append) (xs := #[.tmp 8, .tmp 9]) rfl ?_); refine app w.heap.size rfl _ _ rfl (.slice (some ⟨w.heap.size, 0, none⟩) 0 0) [] l A c rfl rfl HO0.out (HR.out.below HB0.out) (by simp) (by simp; omega) ?_; intro v1 w1 h1 h2; have H1 := Lib.hid h1; have H2 := Lib.hid (HB0.out.grown h2 (by simp) (by simp [Value.ownBlock])); clear h1 h2) | ((with_reducible refine gate_builtin (b := .append) (xs := #[.tmp 10, .tmp 11]) rfl ?_); refine app1 w.heap.size rfl _ _ rfl v1 ([] ++ l) 90 rfl rfl H1.out H2.out.size (by simp; omega) ?_))
  intro v2 w2 h4 h5
  rcases own_cases h4 with ⟨_, h⟩ | ⟨g, cap, rfl⟩
  · simp at h
  have hB2 := H2.out.grown h5 H2.out.size (fun k hk => own_base H1.out k hk)
  have hcap : l.length + 1 ≤ cap := by have := (own_open h4).2.2.1; simpa using this
  have ho2 : Own w2 w.heap.size (.slice (some ⟨g, 0, none⟩) (l.length + 1) cap) (l ++ [90]) := by simpa using h4
  have HO2 := Lib.hid ho2
  have HB2 := Lib.hid hB2
  clear h4 h5 hB2 ho2
  go_wp2_with fail
  refine (load_any (some ⟨g, 0, none⟩) cap l w2 (lent_rd' HO2.out) HBT.out (by omega) (by omega) (HT.out.below HB2.out (Nat.le_refl _))).mono ?_
  rintro e w3 ⟨rfl, hb3⟩
  have HB3 := Lib.hid (HB2.out.trans (hb3.mono HB2.out.size))
  have HO3 := Lib.hid (own_step HO2.out hb3)
  clear hb3
  obtain ⟨r, hr⟩ : ∃ r, r = ldR l := ⟨_, rfl⟩
  rw [← hr, show r.v = .agg #[.int .u64 r.g, .int .i64 r.pl, .int .i64 r.sz] from rfl]
  have HRR := Lib.hid hr
  clear hr
  obtain ⟨e0, he0⟩ : ∃ e0, e0 = ldE l := ⟨_, rfl⟩
  rw [← he0]
  have HEE := Lib.hid he0
  clear he0
  have HB4 := Lib.hid (HB3.out.alloc HB3.out.size (.cells #[.int .u64 r.g, .int .i64 r.pl, .int .i64 r.sz] 24))
  have HX4 := Lib.hid (heap_alloc_new w3 (.cells #[.int .u64 r.g, .int .i64 r.pl, .int .i64 r.sz] 24))
  have HO4 := Lib.hid (HO3.out.alloc (.cells #[.int .u64 r.g, .int .i64 r.pl, .int .i64 r.sz] 24))
  go_wp2_with fail
  refine (refLoad_any A c l _ (HR.out.below HB4.out) HBT.out hc (by omega)).mono ?_
  rintro e w5 ⟨rfl, hb5⟩
  have HB5 := Lib.hid (HB4.out.trans (hb5.mono HB4.out.size))
  have HO5 := Lib.hid (own_step HO4.out hb5)
  have HX5 := Lib.hid ((hb5.block _ (by simp)).trans HX4.out)
  rw [← HRR.out, ← HEE.out, show r.v = .agg #[.int .u64 r.g, .int .i64 r.pl, .int .i64 r.sz] from rfl]
  clear hb5
  have HB6 := Lib.hid (HB5.out.alloc HB5.out.size (.cells #[.int .u64 r.g, .int .i64 r.pl, .int .i64 r.sz] 31))
  have HX6 := Lib.hid ((heap_alloc_old w5 (.cells #[.int .u64 r.g, .int .i64 r.pl, .int .i64 r.sz] 31) (Array.getElem?_eq_some_iff.1 HX5.out).1).trans HX5.out)
  have HY6 := Lib.hid (heap_alloc_new w5 (.cells #[.int .u64 r.g, .int .i64 r.pl, .int .i64 r.sz] 31))
  have HO6 := Lib.hid (HO5.out.alloc (.cells #[.int .u64 r.g, .int .i64 r.pl, .int .i64 r.sz] 31))
  go_wp2_with fail
  generalize w5.alloc (.cells #[.int .u64 r.g, .int .i64 r.pl, .int .i64 r.sz] 31) = w6 at HB6 HX6 HY6 HO6 ⊢
  have HRD := Lib.hid (HR.out.below HB6.out)
  have HC := Lib.hid (show ∀ W, Below w6.heap.size w6 W → (W.cell? ⟨w3.heap.size, 0, none⟩ = some (.int .u64 r.g) ∧ W.cell? ⟨w3.heap.size, 1, none⟩ = some (.int .i64 r.pl) ∧ W.cell? ⟨w3.heap.size, 2, none⟩ = some (.int .i64 r.sz)) ∧
      (W.cell? ⟨w5.heap.size, 0, none⟩ = some (.int .u64 r.g) ∧ W.cell? ⟨w5.heap.size, 1, none⟩ = some (.int .i64 r.pl) ∧ W.cell? ⟨w5.heap.size, 2, none⟩ = some (.int .i64 r.sz)) ∧
      (convert 25 9 (.slice (some ⟨g, 0, none⟩) (l.length + 1) cap)).run Tryd.prog W = .ok (.string (strOfNums l ++ (⟨#[90]⟩ : ByteArray))) W ∧
      (convert 25 9 (.slice A l.length c)).run Tryd.prog W = .ok (.string (strOfNums l)) W from fun W hW =>
    ⟨(rt_cells ((hW.block _ (Array.getElem?_eq_some_iff.1 HX6.out).1).trans HX6.out)).1, (rt_cells ((hW.block _ (Array.getElem?_eq_some_iff.1 HY6.out).1).trans HY6.out)).1,
      by rw [← str_snoc']; exact own_str (own_step HO6.out hW), string_of_reads Tryd.underlying25 Tryd.underlying5 Tryd.underlying9 (show ReadsInt W .u8 A l.length l from HRD.out.below hW)⟩)
  have hz : (strOfNums l).size + 1 ≤ 9223372036854775807 := by rw [strOfNums_size]; omega
  have hz2 : (9223372036854775807 < (strOfNums l).size + 1) = False := by simp; omega
  have hq : ∀ W, (binOp .eql 31 (.agg #[.int .u64 r.g, .int .i64 r.pl, .int .i64 r.sz]) (.agg #[.int .u64 r.g, .int .i64 r.pl, .int .i64 r.sz])).run Tryd.prog W = .ok (.bool true) W := fun W => by
    have := eq_ref r r W
    rw [Rt.eqv_self] at this
    exact this
  have hb0 : Below w6.heap.size w6 w6.drew := (Below.refl _ _).drew
  obtain ⟨⟨p0, p1, p2⟩, ⟨y0, y1, y2⟩, s1, s2⟩ := HC.out w6.drew hb0
  have HPL := Lib.hid (show ∀ W, Calls Tryd.prog 11 #[.agg #[.int .u64 r.g, .int .i64 r.pl, .int .i64 r.sz]] W fun e w' => e = .returned (.agg #[.int .u64 r.g, .int .i64 r.pl, .int .i64 r.sz]) ∧ Below W.heap.size W w' from fun W => plain_any r W)
  go_region_held3 (fun W' => (W'.cell? ⟨w3.heap.size, 0, none⟩ = some (.int .u64 r.g) ∧ W'.cell? ⟨w3.heap.size, 1, none⟩ = some (.int .i64 r.pl) ∧ W'.cell? ⟨w3.heap.size, 2, none⟩ = some (.int .i64 r.sz)) ∧ (W'.cell? ⟨w5.heap.size, 0, none⟩ = some (.int .u64 r.g) ∧ W'.cell? ⟨w5.heap.size, 1, none⟩ = some (.int .i64 r.pl) ∧ W'.cell? ⟨w5.heap.size, 2, none⟩ = some (.int .i64 r.sz)) ∧ (convert 25 9 (.slice (some ⟨g, 0, none⟩) (l.length + 1) cap)).run Tryd.prog W' = .ok (.string (strOfNums l ++ (⟨#[90]⟩ : ByteArray))) W' ∧ (convert 25 9 (.slice A l.length c)).run Tryd.prog W' = .ok (.string (strOfNums l)) W')
    (first | exact HC.out _ hb9 | exact HC.out _ hb7 | exact HC.out _ hb0)
    (first | (go_at_call 11; refine (HPL.out _).mono ?_; rintro e w7 ⟨rfl, hb⟩; have hb7 : Below w6.heap.size w6 w7 := hb0.trans hb; clear hb) | (go_at_call 12; refine (lives04 _ (HT.out.below (HB6.out.trans (hb7.mono HB6.out.size)) (Nat.le_refl _))).mono ?_; rintro e w9 ⟨rfl, hb⟩; have hb9 : Below w6.heap.size w6 w9 := hb7.trans (hb.mono hb7.size); clear hb))
  all_goals
    go_wp2_with fail
    go_ret
    exact ⟨rfl, HB6.out.trans (hb9.mono HB6.out.size)⟩
end Go.Proofs.YtadmpjikkpnjnaaDoor
