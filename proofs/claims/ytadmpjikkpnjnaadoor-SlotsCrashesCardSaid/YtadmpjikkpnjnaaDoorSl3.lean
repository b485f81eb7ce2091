/-
  slots.Load; slabvaultref04.Load. No premise.
-/
import Derived.Test.YtadmpjikkpnjnaaDoorSl2
import Derived.Test.YtadmpjikkpnjnaaDoorRef3
namespace Go.Proofs.YtadmpjikkpnjnaaDoor
open Go.RowKit Go.Proofs.YtadmpjikkpnjnaaDoorW.PrintWords

theorem ld_gets (l m : List Int) (h : 32 ≤ l.length) (hm : m = l.take 32 ∨ m = l) :
    (getU m 4 8 false = (ldR0 l).g ∧ getE m 4 8 = 0) ∧ (getU m 16 4 false = (ldR0 l).pl ∧ getE m 16 4 = 0) ∧ (getU m 20 4 false = (ldR0 l).sz ∧ getE m 20 4 = 0) := by
  have hl : 32 ≤ m.length := by
    rcases hm with rfl | rfl
    · rw [List.length_take]; omega
    · exact h
  have hr : ldR0 m = ldR0 l := by
    rcases hm with rfl | rfl
    · exact ldR0_take l
    · rfl
  rw [← hr]
  refine ⟨⟨?_, ?_⟩, ⟨?_, ?_⟩, ?_, ?_⟩
  · unfold getU; rw [if_pos (by omega)]; rfl
  · unfold getE; rw [if_pos (by omega), if_neg (by omega)]
  · unfold getU; rw [if_pos (by omega)]; rfl
  · unfold getE; rw [if_pos (by omega), if_neg (by omega)]
  · unfold getU; rw [if_pos (by omega)]; rfl
  · unfold getE; rw [if_pos (by omega), if_neg (by omega)]
theorem ld_res {tmps : Array Value} {W : World} {p : Nat} {x1 x2 x3 : Value} {e : Int} (h2 : tmps[2]?.getD undef = .pointer (some ⟨p, 0, none⟩)) (h3 : tmps[3]?.getD undef = .int .i64 e) (hb : W.heap[p]? = some (.cells #[x1, x2, x3] 24 (0, 0))) :
    (results Tryd.f13 tmps).run Tryd.prog W = .ok (.tuple #[.agg #[x1, x2, x3], .int .i64 e]) W := by
  have c0 := blk_cell hb 0
  have c1 := blk_cell hb 1
  have c2 := blk_cell hb 2
  simp [results, Tryd.results13, go_sem, h2, h3, c0, c1, c2]
theorem set3 {W : World} {p : Nat} {t : TypeId} {x0 x1 x2 a b c : Value} (h : W.heap[p]? = some (.cells #[x0, x1, x2] t (0, 0))) :
    (((W.setCell ⟨p, 0, none⟩ a).setCell ⟨p, 1, none⟩ b).setCell ⟨p, 2, none⟩ c).heap[p]? = some (.cells #[a, b, c] t (0, 0)) := by
  have := blk_set (blk_set (blk_set h 0 a) 1 b) 2 c
  simpa using this
theorem below3 {w W : World} {p : Nat} {a b c : Value} (h : Below w.heap.size w W) (hp : w.heap.size ≤ p) : Below w.heap.size w (((W.setCell ⟨p, 0, none⟩ a).setCell ⟨p, 1, none⟩ b).setCell ⟨p, 2, none⟩ c) :=
  ((h.setCell (p := ⟨p, 0, none⟩) hp _).setCell (p := ⟨p, 1, none⟩) hp _).setCell (p := ⟨p, 2, none⟩) hp _
def LoadPost (l : List Int) (w : World) (e : Ending) (w' : World) : Prop := e = .returned (.tuple #[(ldR l).v, .int .i64 (ldE l)]) ∧ Below w.heap.size w w'
theorem ld_short {l : List Int} (h : l.length < 32) : ldE l = 4 ∧ ldR l = Rt.zero := by
  refine ⟨by unfold ldE; rw [if_pos h], ?_⟩
  unfold ldR
  rw [if_neg (fun h2 => by have := h2.1; omega)]
theorem ld_bad {l : List Int} (h : 32 ≤ l.length) (h2 : ¬ ldOk l) : ldE l = 5 ∧ ldR l = Rt.zero := by
  refine ⟨by unfold ldE; rw [if_neg (by omega), if_neg h2], ?_⟩
  unfold ldR
  rw [if_neg h2]
theorem ld_good {l : List Int} (h2 : ldOk l) : ldE l = 0 ∧ ldR l = ldR0 l := by
  refine ⟨ldE_zero.2 h2, ?_⟩
  unfold ldR
  rw [if_pos h2]
set_option maxRecDepth 100000 in
set_option maxHeartbeats 1600000 in
theorem load_any (A : Option Addr) (c : Nat) (l : List Int) (w : World) (hr : Rd w A l) (hb : Bts l) (hc : l.length ≤ c) (hl : l.length ≤ 150000000000000) (hT : TabAt w) :
    Calls Tryd.prog 13 #[.slice A l.length c] w (LoadPost l w) := by
  have HR := Lib.hid hr
  have HBt := Lib.hid hb
  have HT := Lib.hid hT
  clear hr hb hT
  by_cases h32 : l.length < 32
  · obtain ⟨e1, e2⟩ := ld_short h32
    have HE1 := Lib.hid e1
    have HE2 := Lib.hid e2
    clear e1 e2
    go_enter Tryd.func13, Tryd.ntmps13
    go_wp2_with fail
    refine ⟨rfl, _, ld_res rfl rfl (heap_alloc_new w _), ?_, (Below.refl _ _).alloc (Nat.le_refl _) _⟩
    rw [HE1.out, HE2.out]
    rfl
  · have h32' : 32 ≤ l.length := by omega
    obtain ⟨hcut, hcr⟩ := cut_pre A l c 32 (by decide) (by omega) hc
    have htl : (l.take 32).length = 32 := by rw [List.length_take]; omega
    obtain ⟨m, hm⟩ : ∃ m, m = l.take 32 := ⟨_, rfl⟩
    rw [show ((32 : Int).toNat) = 32 from rfl, ← hm] at hcut hcr
    rw [← hm] at htl
    obtain ⟨⟨g1, g2⟩, ⟨g3, g4⟩, g5, g6⟩ := ld_gets l m h32' (.inl hm)
    obtain ⟨r0, r1, r2⟩ := ldR0_range HBt.out
    obtain ⟨r, hr⟩ : ∃ r, r = ldR0 l := ⟨_, rfl⟩
    rw [← hr] at g1 g3 g5 r0 r1 r2
    have HG1 := Lib.hid g1
    have HG2 := Lib.hid g2
    have HG3 := Lib.hid g3
    have HG4 := Lib.hid g4
    have HG5 := Lib.hid g5
    have HG6 := Lib.hid g6
    have HRR := Lib.hid hr
    have HM := Lib.hid hm
    have HMR := Lib.hid (hcr w HR.out)
    have HMB := Lib.hid (show Bts m by rw [hm]; exact HBt.out.take _)
    have HTL := Lib.hid htl
    have HR0 := Lib.hid r0
    have hrv : r.v = .agg #[.int .u64 r.g, .int .i64 r.pl, .int .i64 r.sz] := rfl
    have HRV := Lib.hid hrv
    have hml : m.length ≤ c := by rw [htl]; omega
    clear g1 g2 g3 g4 g5 g6 hr hm hcr r0 hrv htl
    obtain ⟨g, hg⟩ : ∃ g, g = r.g := ⟨_, rfl⟩
    obtain ⟨p, hp⟩ : ∃ p, p = r.pl := ⟨_, rfl⟩
    obtain ⟨s, hs⟩ : ∃ s, s = r.sz := ⟨_, rfl⟩
    rw [← hg] at HG1 HRV
    rw [← hp] at HG3 HRV r1
    rw [← hs] at HG5 HRV r2
    clear hg hp hs
    go_enter Tryd.func13, Tryd.ntmps13
    go_wp2_with fail
    refine (get_any A c m 4 8 false _ (HMR.out.below ((Below.refl _ _).alloc (Nat.le_refl _) _)) HMB.out hml (by rw [HTL.out]; decide) (by decide) (by decide)).mono ?_
    rintro e w1 ⟨rfl, hb1⟩
    rw [HG1.out, HG2.out]
    have HB1 := Lib.hid (((Below.refl w.heap.size w).alloc (Nat.le_refl _) _).trans (hb1.mono (by simp)))
    have HX1 := Lib.hid ((hb1.block _ (by simp)).trans (heap_alloc_new w _))
    clear hb1
    go_wp2_with fail
    refine (get_any A c m 16 4 false _ (HMR.out.below HB1.out) HMB.out hml (by rw [HTL.out]; decide) (by decide) (by decide)).mono ?_
    rintro e w2 ⟨rfl, hb2⟩
    rw [HG3.out, HG4.out]
    have HB2 := Lib.hid (HB1.out.trans (hb2.mono HB1.out.size))
    have HX2 := Lib.hid (quiet_chain HB1.out HX1.out hb2).2
    clear hb2
    go_wp2_with fail
    refine (get_any A c m 20 4 false _ (HMR.out.below HB2.out) HMB.out hml (by rw [HTL.out]; decide) (by decide) (by decide)).mono ?_
    rintro e w3 ⟨rfl, hb3⟩
    rw [HG5.out, HG6.out]
    have HB3 := Lib.hid (HB2.out.trans (hb3.mono HB2.out.size))
    have HX3 := Lib.hid (quiet_chain HB2.out HX2.out hb3).2
    clear hb3
    go_wp2_with fail
    rw [← HRV.out]
    refine (rtBytes_any r _ HR0.out (HT.out.below (HB3.out.alloc HB3.out.size _) (Nat.le_refl _))).mono ?_
    rintro e w4 ⟨v4, rfl, ho4, hb4⟩
    have q1 : Below w.heap.size w (w3.alloc (.cells #[.int .u64 g, .int .i64 p, .int .i64 s] 24)) := HB3.out.alloc HB3.out.size _
    have HB4 := Lib.hid (q1.trans (hb4.mono q1.size))
    have hx2 : (w3.alloc (.cells #[.int .u64 g, .int .i64 p, .int .i64 s] 24)).heap[w.heap.size]? = some (.cells #[.int .u64 0, .int .i64 0, .int .i64 0] 24 (0, 0)) := (heap_alloc_old w3 _ (Array.getElem?_eq_some_iff.1 HX3.out).1).trans HX3.out
    have HX4 := Lib.hid ((hb4.block _ (Array.getElem?_eq_some_iff.1 hx2).1).trans hx2)
    have HY4 := Lib.hid ((hb4.block _ (by simp)).trans (heap_alloc_new w3 (.cells #[.int .u64 g, .int .i64 p, .int .i64 s] 24)))
    have hne : w3.heap.size ≠ w.heap.size := by have := (Array.getElem?_eq_some_iff.1 HX3.out).1; omega
    have HNE := Lib.hid hne
    obtain ⟨y0, y1, y2⟩ : w4.cell? ⟨w3.heap.size, 0, none⟩ = some (.int .u64 g) ∧ w4.cell? ⟨w3.heap.size, 1, none⟩ = some (.int .i64 p) ∧ w4.cell? ⟨w3.heap.size, 2, none⟩ = some (.int .i64 s) := ⟨blk_cell HY4.out 0, blk_cell HY4.out 1, blk_cell HY4.out 2⟩
    obtain ⟨x0, x1, x2⟩ : w4.cell? ⟨w.heap.size, 0, none⟩ = some (.int .u64 0) ∧ w4.cell? ⟨w.heap.size, 1, none⟩ = some (.int .i64 0) ∧ w4.cell? ⟨w.heap.size, 2, none⟩ = some (.int .i64 0) := ⟨blk_cell HX4.out 0, blk_cell HX4.out 1, blk_cell HX4.out 2⟩
    have f0 : w4.frozen? ⟨w.heap.size, 0, none⟩ = false := blk_frozen HX4.out 0
    have f1 : w4.frozen? ⟨w.heap.size, 1, none⟩ = false := blk_frozen HX4.out 1
    have f2 : w4.frozen? ⟨w.heap.size, 2, none⟩ = false := blk_frozen HX4.out 2
    clear q1 hx2 hne
    by_cases hok : rtOk r
    · have hE : byE r = 0 := by unfold byE; rw [if_pos hok]
      rw [hE]
      have hcx := own_str ho4
      have hcb : (convert 25 9 (.slice A m.length c)).run Tryd.prog w4 = .ok (.string (strOfNums m)) w4 := string_of_reads Tryd.underlying25 Tryd.underlying5 Tryd.underlying9 (show ReadsInt w4 .u8 A m.length m from HMR.out.below HB4.out)
      obtain ⟨sv, hsv⟩ : ∃ sv, sv = strOfNums (byL r) := ⟨_, rfl⟩
      obtain ⟨sb, hsb⟩ : ∃ sb, sb = strOfNums m := ⟨_, rfl⟩
      have hz1 : sv.size ≤ 9223372036854775807 := by rw [hsv, strOfNums_size]; have := byL_le r; omega
      have hz2 : sb.size ≤ 9223372036854775807 := by rw [hsb, strOfNums_size, HTL.out]; decide
      rw [← hsv] at hcx
      rw [← hsb] at hcb
      have HSV := Lib.hid hsv
      have HSB := Lib.hid hsb
      have HOK := Lib.hid hok
      clear hsv hsb hE ho4 hb4 hok
      by_cases hum : sv = sb
      · have hk : ldOk l := by
          have e1 : byL r = m := str_inj (byL_bts r) HMB.out (by rw [← HSV.out, ← HSB.out, hum])
          unfold byL at e1
          rw [if_pos HOK.out] at e1
          exact ⟨h32', by rw [← HRR.out]; exact HOK.out, by rw [← HRR.out, ← HM.out]; exact e1⟩
        obtain ⟨e1, e2⟩ := ld_good hk
        have HE1 := Lib.hid e1
        have HE2 := Lib.hid e2
        subst hum
        clear hk e1 e2
        go_wp2_with fail
        refine ⟨rfl, _, ld_res rfl rfl (set3 HX4.out), ?_, below3 HB4.out (Nat.le_refl _)⟩
        rw [HE1.out, HE2.out, ← HRR.out, HRV.out]
      · have hk : ¬ ldOk l := fun h => by
          have e1 := h.2.2
          rw [← HRR.out, ← HM.out] at e1
          refine hum ?_
          rw [HSV.out, HSB.out, ← e1]
          unfold byL
          rw [if_pos HOK.out]
        obtain ⟨e1, e2⟩ := ld_bad h32' hk
        have HE1 := Lib.hid e1
        have HE2 := Lib.hid e2
        have hsne := str_beq_ne HSV.out HSB.out hum
        clear hk e1 e2 hum
        go_wp2_with fail
        refine ⟨rfl, _, ld_res rfl rfl (set3 HX4.out), ?_, below3 HB4.out (Nat.le_refl _)⟩
        rw [HE1.out, HE2.out]
        rfl
    · have hE : byE r = 2 := by unfold byE; rw [if_neg hok]
      rw [hE]
      obtain ⟨e1, e2⟩ := ld_bad h32' (fun h => hok (by rw [HRR.out]; exact h.2.1))
      have HE1 := Lib.hid e1
      have HE2 := Lib.hid e2
      clear hE ho4 hb4 hok e1 e2
      go_wp2_with fail
      refine ⟨rfl, _, ld_res rfl rfl (set3 HX4.out), ?_, below3 HB4.out (Nat.le_refl _)⟩
      rw [HE1.out, HE2.out]
      rfl
theorem rld_res {tmps : Array Value} {W : World} {p : Nat} {x1 x2 x3 : Value} {e : Int} (h2 : tmps[2]?.getD undef = .pointer (some ⟨p, 0, none⟩)) (h3 : tmps[3]?.getD undef = .int .i64 e) (hb : W.heap[p]? = some (.cells #[x1, x2, x3] 31 (0, 0))) :
    (results Tryd.f14 tmps).run Tryd.prog W = .ok (.tuple #[.agg #[x1, x2, x3], .int .i64 e]) W := by
  have c0 := blk_cell hb 0
  have c1 := blk_cell hb 1
  have c2 := blk_cell hb 2
  simp [results, Tryd.results14, go_sem, h2, h3, c0, c1, c2]
set_option maxRecDepth 100000 in
set_option maxHeartbeats 1600000 in
theorem refLoad_any (A : Option Addr) (c : Nat) (l : List Int) (w : World) (hr : Rd w A l) (hb : Bts l) (hc : l.length ≤ c) (hl : l.length ≤ 150000000000000) :
    Calls Tryd.prog 14 #[.slice A l.length c] w (LoadPost l w) := by
  have HR := Lib.hid hr
  have HBt := Lib.hid hb
  clear hr hb
  by_cases h32 : l.length < 32
  · obtain ⟨e1, e2⟩ := ld_short h32
    have HE1 := Lib.hid e1
    have HE2 := Lib.hid e2
    clear e1 e2
    go_enter Tryd.func14, Tryd.ntmps14
    go_wp2_with fail
    refine ⟨rfl, _, rld_res rfl rfl (heap_alloc_new w _), ?_, (Below.refl _ _).alloc (Nat.le_refl _) _⟩
    rw [HE1.out, HE2.out]
    rfl
  · have h32' : 32 ≤ l.length := by omega
    obtain ⟨hcut, hcr⟩ := cut_pre A l c 32 (by decide) (by omega) hc
    have htl : (l.take 32).length = 32 := by rw [List.length_take]; omega
    obtain ⟨m, hm⟩ : ∃ m, m = l.take 32 := ⟨_, rfl⟩
    rw [show ((32 : Int).toNat) = 32 from rfl, ← hm] at hcut hcr
    rw [← hm] at htl
    obtain ⟨⟨g1, g2⟩, ⟨g3, g4⟩, g5, g6⟩ := ld_gets l l h32' (.inr rfl)
    obtain ⟨r0, r1, r2⟩ := ldR0_range HBt.out
    obtain ⟨r, hr⟩ : ∃ r, r = ldR0 l := ⟨_, rfl⟩
    rw [← hr] at g1 g3 g5 r0 r1 r2
    have HG1 := Lib.hid g1
    have HG2 := Lib.hid g2
    have HG3 := Lib.hid g3
    have HG4 := Lib.hid g4
    have HG5 := Lib.hid g5
    have HG6 := Lib.hid g6
    have HRR := Lib.hid hr
    have HM := Lib.hid hm
    have HMR := Lib.hid (hcr w HR.out)
    have HMB := Lib.hid (show Bts m by rw [hm]; exact HBt.out.take _)
    have HTL := Lib.hid htl
    have HR0 := Lib.hid r0
    have hrv : r.v = .agg #[.int .u64 r.g, .int .i64 r.pl, .int .i64 r.sz] := rfl
    have HRV := Lib.hid hrv
    have hml : m.length ≤ c := by rw [htl]; omega
    clear g1 g2 g3 g4 g5 g6 hr hm hcr r0 hrv htl
    obtain ⟨g, hg⟩ : ∃ g, g = r.g := ⟨_, rfl⟩
    obtain ⟨p, hp⟩ : ∃ p, p = r.pl := ⟨_, rfl⟩
    obtain ⟨s, hs⟩ : ∃ s, s = r.sz := ⟨_, rfl⟩
    rw [← hg] at HG1 HRV
    rw [← hp] at HG3 HRV r1
    rw [← hs] at HG5 HRV r2
    clear hg hp hs
    go_enter Tryd.func14, Tryd.ntmps14
    have HB0 := Lib.hid ((Below.refl w.heap.size w).alloc (Nat.le_refl _) (.cells #[.int .u64 0, .int .i64 0, .int .i64 0] 31))
    have HX0 := Lib.hid (heap_alloc_new w (.cells #[.int .u64 0, .int .i64 0, .int .i64 0] 31))
    go_wp2_with fail
    refine (refGet_any A c l 4 8 false _ (HR.out.below HB0.out) HBt.out hl (by decide) (by decide)).mono ?_
    rintro e w1 ⟨rfl, hw1⟩
    rw [HG1.out, HG2.out]
    rw [hw1] at HB0 HX0
    clear hw1
    go_wp2_with fail
    refine (refGet_any A c l 16 4 false _ (HR.out.below HB0.out) HBt.out hl (by decide) (by decide)).mono ?_
    rintro e w2 ⟨rfl, hw2⟩
    rw [HG3.out, HG4.out]
    rw [hw2] at HB0 HX0
    clear hw2
    go_wp2_with fail
    refine (refGet_any A c l 20 4 false _ (HR.out.below HB0.out) HBt.out hl (by decide) (by decide)).mono ?_
    rintro e w3 ⟨rfl, hw3⟩
    rw [HG5.out, HG6.out]
    rw [hw3] at HB0 HX0
    clear hw3
    have HB3 := HB0
    have HX3 := HX0
    go_wp2_with fail
    rw [← HRV.out]
    refine (refBytes_any r _ HR0.out).mono ?_
    rintro e w4 ⟨v4, rfl, ho4, hb4⟩
    have q1 : Below w.heap.size w (w3.alloc (.cells #[.int .u64 g, .int .i64 p, .int .i64 s] 31)) := HB3.out.alloc HB3.out.size _
    have HB4 := Lib.hid (q1.trans (hb4.mono q1.size))
    have hx2 : (w3.alloc (.cells #[.int .u64 g, .int .i64 p, .int .i64 s] 31)).heap[w.heap.size]? = some (.cells #[.int .u64 0, .int .i64 0, .int .i64 0] 31 (0, 0)) := (heap_alloc_old w3 _ (Array.getElem?_eq_some_iff.1 HX3.out).1).trans HX3.out
    have HX4 := Lib.hid ((hb4.block _ (Array.getElem?_eq_some_iff.1 hx2).1).trans hx2)
    have HY4 := Lib.hid ((hb4.block _ (by simp)).trans (heap_alloc_new w3 (.cells #[.int .u64 g, .int .i64 p, .int .i64 s] 31)))
    have hne : w3.heap.size ≠ w.heap.size := by have := (Array.getElem?_eq_some_iff.1 HX3.out).1; omega
    have HNE := Lib.hid hne
    clear q1 hx2 hne
    by_cases hok : rtOk r
    · have hE : byE r = 0 := by unfold byE; rw [if_pos hok]
      rw [hE]
      have hcx := fun q => own_strN ho4 q
      have hcb : ∀ q, (convert 25 9 (.slice A m.length c)).run Tryd.prog (w4.drewN q) = .ok (.string (strOfNums m)) (w4.drewN q) := fun q => string_of_reads Tryd.underlying25 Tryd.underlying5 Tryd.underlying9 (show ReadsInt (w4.drewN q) .u8 A m.length m from HMR.out.below (pw_below_drewN HB4.out q))
      obtain ⟨sv, hsv⟩ : ∃ sv, sv = strOfNums (byL r) := ⟨_, rfl⟩
      obtain ⟨sb, hsb⟩ : ∃ sb, sb = strOfNums m := ⟨_, rfl⟩
      have hz1 : sv.size ≤ 9223372036854775807 := by rw [hsv, strOfNums_size]; have := byL_le r; omega
      have hz2 : sb.size ≤ 9223372036854775807 := by rw [hsb, strOfNums_size, HTL.out]; decide
      rw [← hsv] at hcx
      rw [← hsb] at hcb
      have HSV := Lib.hid hsv
      have HSB := Lib.hid hsb
      have HOK := Lib.hid hok
      clear hsv hsb hE ho4 hb4 hok
      by_cases hum : sv = sb
      · have hk : ldOk l := by
          have e1 : byL r = m := str_inj (byL_bts r) HMB.out (by rw [← HSV.out, ← HSB.out, hum])
          unfold byL at e1
          rw [if_pos HOK.out] at e1
          exact ⟨h32', by rw [← HRR.out]; exact HOK.out, by rw [← HRR.out, ← HM.out]; exact e1⟩
        obtain ⟨e1, e2⟩ := ld_good hk
        have HE1 := Lib.hid e1
        have HE2 := Lib.hid e2
        subst hum
        clear hk e1 e2
        go_wp2_with fail
        go_quiet (fail)
        have HX5 := Lib.hid (show (w4.drewN nq).heap[w.heap.size]? = _ from HX4.out)
        have HY5 := Lib.hid (show (w4.drewN nq).heap[w3.heap.size]? = _ from HY4.out)
        have HB5 := Lib.hid (pw_below_drewN HB4.out nq)
        obtain ⟨w5, hw5⟩ : ∃ w5, w5 = w4.drewN nq := ⟨_, rfl⟩
        rw [← hw5] at HX5 HY5 HB5 ⊢
        clear hw5
        obtain ⟨y0, y1, y2⟩ : w5.cell? ⟨w3.heap.size, 0, none⟩ = some (.int .u64 g) ∧ w5.cell? ⟨w3.heap.size, 1, none⟩ = some (.int .i64 p) ∧ w5.cell? ⟨w3.heap.size, 2, none⟩ = some (.int .i64 s) := ⟨blk_cell HY5.out 0, blk_cell HY5.out 1, blk_cell HY5.out 2⟩
        obtain ⟨x0, x1, x2⟩ : w5.cell? ⟨w.heap.size, 0, none⟩ = some (.int .u64 0) ∧ w5.cell? ⟨w.heap.size, 1, none⟩ = some (.int .i64 0) ∧ w5.cell? ⟨w.heap.size, 2, none⟩ = some (.int .i64 0) := ⟨blk_cell HX5.out 0, blk_cell HX5.out 1, blk_cell HX5.out 2⟩
        have f0 : w5.frozen? ⟨w.heap.size, 0, none⟩ = false := blk_frozen HX5.out 0
        have f1 : w5.frozen? ⟨w.heap.size, 1, none⟩ = false := blk_frozen HX5.out 1
        have f2 : w5.frozen? ⟨w.heap.size, 2, none⟩ = false := blk_frozen HX5.out 2
        go_wp2_with fail
        refine ⟨rfl, _, rld_res rfl rfl (set3 HX5.out), ?_, below3 HB5.out (Nat.le_refl _)⟩
        rw [HE1.out, HE2.out, ← HRR.out, HRV.out]
      · have hk : ¬ ldOk l := fun h => by
          have e1 := h.2.2
          rw [← HRR.out, ← HM.out] at e1
          refine hum ?_
          rw [HSV.out, HSB.out, ← e1]
          unfold byL
          rw [if_pos HOK.out]
        obtain ⟨e1, e2⟩ := ld_bad h32' hk
        have HE1 := Lib.hid e1
        have HE2 := Lib.hid e2
        have hsne := str_beq_ne HSV.out HSB.out hum
        clear hk e1 e2 hum
        go_wp2_with fail
        go_quiet (fail)
        have HX5 := Lib.hid (show (w4.drewN nq).heap[w.heap.size]? = _ from HX4.out)
        have HY5 := Lib.hid (show (w4.drewN nq).heap[w3.heap.size]? = _ from HY4.out)
        have HB5 := Lib.hid (pw_below_drewN HB4.out nq)
        obtain ⟨w5, hw5⟩ : ∃ w5, w5 = w4.drewN nq := ⟨_, rfl⟩
        rw [← hw5] at HX5 HY5 HB5 ⊢
        clear hw5
        obtain ⟨y0, y1, y2⟩ : w5.cell? ⟨w3.heap.size, 0, none⟩ = some (.int .u64 g) ∧ w5.cell? ⟨w3.heap.size, 1, none⟩ = some (.int .i64 p) ∧ w5.cell? ⟨w3.heap.size, 2, none⟩ = some (.int .i64 s) := ⟨blk_cell HY5.out 0, blk_cell HY5.out 1, blk_cell HY5.out 2⟩
        obtain ⟨x0, x1, x2⟩ : w5.cell? ⟨w.heap.size, 0, none⟩ = some (.int .u64 0) ∧ w5.cell? ⟨w.heap.size, 1, none⟩ = some (.int .i64 0) ∧ w5.cell? ⟨w.heap.size, 2, none⟩ = some (.int .i64 0) := ⟨blk_cell HX5.out 0, blk_cell HX5.out 1, blk_cell HX5.out 2⟩
        have f0 : w5.frozen? ⟨w.heap.size, 0, none⟩ = false := blk_frozen HX5.out 0
        have f1 : w5.frozen? ⟨w.heap.size, 1, none⟩ = false := blk_frozen HX5.out 1
        have f2 : w5.frozen? ⟨w.heap.size, 2, none⟩ = false := blk_frozen HX5.out 2
        go_wp2_with fail
        refine ⟨rfl, _, rld_res rfl rfl (set3 HX5.out), ?_, below3 HB5.out (Nat.le_refl _)⟩
        rw [HE1.out, HE2.out]
        rfl
    · have hE : byE r = 2 := by unfold byE; rw [if_neg hok]
      rw [hE]
      obtain ⟨e1, e2⟩ := ld_bad h32' (fun h => hok (by rw [HRR.out]; exact h.2.1))
      have HE1 := Lib.hid e1
      have HE2 := Lib.hid e2
      clear hE ho4 hb4 hok e1 e2
      go_wp2_with fail
      go_quiet (fail)
      have HX5 := Lib.hid (show (w4.drewN nq).heap[w.heap.size]? = _ from HX4.out)
      have HY5 := Lib.hid (show (w4.drewN nq).heap[w3.heap.size]? = _ from HY4.out)
      have HB5 := Lib.hid (pw_below_drewN HB4.out nq)
      obtain ⟨w5, hw5⟩ : ∃ w5, w5 = w4.drewN nq := ⟨_, rfl⟩
      rw [← hw5] at HX5 HY5 HB5 ⊢
      clear hw5
      obtain ⟨y0, y1, y2⟩ : w5.cell? ⟨w3.heap.size, 0, none⟩ = some (.int .u64 g) ∧ w5.cell? ⟨w3.heap.size, 1, none⟩ = some (.int .i64 p) ∧ w5.cell? ⟨w3.heap.size, 2, none⟩ = some (.int .i64 s) := ⟨blk_cell HY5.out 0, blk_cell HY5.out 1, blk_cell HY5.out 2⟩
      obtain ⟨x0, x1, x2⟩ : w5.cell? ⟨w.heap.size, 0, none⟩ = some (.int .u64 0) ∧ w5.cell? ⟨w.heap.size, 1, none⟩ = some (.int .i64 0) ∧ w5.cell? ⟨w.heap.size, 2, none⟩ = some (.int .i64 0) := ⟨blk_cell HX5.out 0, blk_cell HX5.out 1, blk_cell HX5.out 2⟩
      have f0 : w5.frozen? ⟨w.heap.size, 0, none⟩ = false := blk_frozen HX5.out 0
      have f1 : w5.frozen? ⟨w.heap.size, 1, none⟩ = false := blk_frozen HX5.out 1
      have f2 : w5.frozen? ⟨w.heap.size, 2, none⟩ = false := blk_frozen HX5.out 2
      go_wp2_with fail
      refine ⟨rfl, _, rld_res rfl rfl (set3 HX5.out), ?_, below3 HB5.out (Nat.le_refl _)⟩
      rw [HE1.out, HE2.out]
      rfl
end Go.Proofs.YtadmpjikkpnjnaaDoor
