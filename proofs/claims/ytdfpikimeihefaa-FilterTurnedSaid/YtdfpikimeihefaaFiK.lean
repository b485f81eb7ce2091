/-
  Layer 16: which filters may be; filters that are read; filter.find, Check; slabvaultref16.Check. No premise.
-/
import Derived.Test.YtdfpikimeihefaaOct5
import Derived.Laws.EntriesVeiled
import Derived.RangeFuncRecord
namespace Go.Proofs.Ytdfpikimeihefaa
open Go.RowKit Go.Proofs.YtdfpikimeihefaaW.PrintWords

/-- A filter: its kind and its width. -/
abbrev Fl := Int × Int
def okF (f : Fl) : Bool := decide (((f.1 = 1 ∨ f.1 = 2) ∧ (1 ≤ f.2 ∧ f.2 ≤ 8)) ∨ ((f.1 = 3 ∨ f.1 = 4) ∧ f.2 = 0))
theorem okF_iff {f : Fl} : okF f = true ↔ ((f.1 = 1 ∨ f.1 = 2) ∧ (1 ≤ f.2 ∧ f.2 ≤ 8)) ∨ ((f.1 = 3 ∨ f.1 = 4) ∧ f.2 = 0) := by unfold okF; exact decide_eq_true_iff
def fck (l : List Fl) : Int := if 4 < l.length then 3 else if l.all okF = true then 0 else 2
/-- Filters that are read. -/
def Fls (w : World) (A : Option Addr) (l : List Fl) : Prop :=
  l.length ≤ 9223372036854775807 ∧ (0 < l.length → ∃ ad, A = some ad ∧ ∀ i, i < l.length → w.cell? (ad.add (i * 2)) = some (.int .i64 (l.getD i (0, 0)).1) ∧ w.cell? (ad.add (i * 2 + 1)) = some (.int .i64 (l.getD i (0, 0)).2))
theorem cell_lt {w : World} {p : Addr} {v : Value} (h : w.cell? p = some v) : p.block < w.heap.size := by
  rcases Nat.lt_or_ge p.block w.heap.size with h1 | h1
  · exact h1
  · rw [World.cell?, Array.getElem?_eq_none h1] at h
    cases h
theorem Fls.below {w w' : World} {A : Option Addr} {l : List Fl} (h : Fls w A l) (hb : Below w.heap.size w w') : Fls w' A l := by
  refine ⟨h.1, fun h0 => ?_⟩
  obtain ⟨ad, e, hc⟩ := h.2 h0
  refine ⟨ad, e, fun i hi => ?_⟩
  obtain ⟨h1, h2⟩ := hc i hi
  exact ⟨(hb.cell (cell_lt h1)).trans h1, (hb.cell (cell_lt h2)).trans h2⟩


def FlPost (w : World) (d : Int) (fd fu : Value) (b : Bool) (e : Ending) (w' : World) : Prop :=
  e = .returned (.tuple #[.agg #[fd, fu], .bool b]) ∧ Below w.heap.size w w' ∧ w'.cell? ⟨w.heap.size, 1, none⟩ = some (.int .i64 d) ∧ w.heap.size + 1 ≤ w'.heap.size
def wideB (d : Int) : Bool := decide (1 ≤ d ∧ d ≤ 8)
theorem fi_mem {w : World} {k d : Int} (t : TypeId) (o : Obj) {fd fu v : Value} {b b' : Bool} (hv : v = .tuple #[.agg #[fd, fu], .bool b']) (hb : b' = b) :
    FlPost w d fd fu b (.returned v) ((w.alloc (.cells #[.int .i64 k, .int .i64 d] t)).alloc o) := by
  subst hv hb
  exact ⟨rfl, ((Below.refl _ _).alloc (Nat.le_refl _) _).alloc (by simp) _, by simp, by simp⟩
theorem fi_memd {w : World} {k d : Int} (t : TypeId) (o : Obj) {fd fu v : Value} {b b' : Bool} (hv : v = .tuple #[.agg #[fd, fu], .bool b']) (hb : b' = b) :
    FlPost w d fd fu b (.returned v) ((w.alloc (.cells #[.int .i64 k, .int .i64 d] t)).alloc o).drew := by
  obtain ⟨h1, h2, h3, h4⟩ := fi_mem (w := w) (k := k) (d := d) t o hv hb
  exact ⟨h1, pw_below_drewN h2 1, h3, h4⟩
set_option maxHeartbeats 800000 in
theorem fiFind1_any (d : Int) (w : World) :
    Calls Try.prog 20 #[.agg #[.int .i64 1, .int .i64 d]] w (FlPost w d (.func (.func 30) #[] #[.pointer (some ⟨w.heap.size, 0, none⟩)]) (.func (.func 32) #[] #[.pointer (some ⟨w.heap.size, 0, none⟩)]) (wideB d)) := by
  by_cases h1 : 1 ≤ d
  · by_cases h8 : d ≤ 8
    · go_enter Try.func20, Try.ntmps20
      go_wp2_with fail
      refine bodyPost_ret (v := .tuple #[.agg #[.func (.func 30) #[] #[.pointer (some ⟨w.heap.size, 0, none⟩)], .func (.func 32) #[] #[.pointer (some ⟨w.heap.size, 0, none⟩)]], .bool true]) (by simp [results, Try.results20, go_sem]) rfl (fi_mem _ _ rfl (by simp [wideB, h1, h8]))
    · go_enter Try.func20, Try.ntmps20
      go_wp2_with fail
      refine bodyPost_ret (v := .tuple #[.agg #[.func (.func 30) #[] #[.pointer (some ⟨w.heap.size, 0, none⟩)], .func (.func 32) #[] #[.pointer (some ⟨w.heap.size, 0, none⟩)]], .bool false]) (by simp [results, Try.results20, go_sem]) rfl (fi_mem _ _ rfl (by simp [wideB, h8]))
  · go_enter Try.func20, Try.ntmps20
    go_wp2_with fail
    refine bodyPost_ret (v := .tuple #[.agg #[.func (.func 30) #[] #[.pointer (some ⟨w.heap.size, 0, none⟩)], .func (.func 32) #[] #[.pointer (some ⟨w.heap.size, 0, none⟩)]], .bool false]) (by simp [results, Try.results20, go_sem]) rfl (fi_mem _ _ rfl (by simp [wideB]; omega))
set_option maxHeartbeats 800000 in
theorem fiFind2_any (d : Int) (w : World) :
    Calls Try.prog 20 #[.agg #[.int .i64 2, .int .i64 d]] w (FlPost w d (.func (.func 34) #[] #[.pointer (some ⟨w.heap.size, 0, none⟩)]) (.func (.func 36) #[] #[.pointer (some ⟨w.heap.size, 0, none⟩)]) (wideB d)) := by
  by_cases h1 : 1 ≤ d
  · by_cases h8 : d ≤ 8
    · go_enter Try.func20, Try.ntmps20
      go_wp2_with fail
      refine bodyPost_ret (v := .tuple #[.agg #[.func (.func 34) #[] #[.pointer (some ⟨w.heap.size, 0, none⟩)], .func (.func 36) #[] #[.pointer (some ⟨w.heap.size, 0, none⟩)]], .bool true]) (by simp [results, Try.results20, go_sem]) rfl (fi_mem _ _ rfl (by simp [wideB, h1, h8]))
    · go_enter Try.func20, Try.ntmps20
      go_wp2_with fail
      refine bodyPost_ret (v := .tuple #[.agg #[.func (.func 34) #[] #[.pointer (some ⟨w.heap.size, 0, none⟩)], .func (.func 36) #[] #[.pointer (some ⟨w.heap.size, 0, none⟩)]], .bool false]) (by simp [results, Try.results20, go_sem]) rfl (fi_mem _ _ rfl (by simp [wideB, h8]))
  · go_enter Try.func20, Try.ntmps20
    go_wp2_with fail
    refine bodyPost_ret (v := .tuple #[.agg #[.func (.func 34) #[] #[.pointer (some ⟨w.heap.size, 0, none⟩)], .func (.func 36) #[] #[.pointer (some ⟨w.heap.size, 0, none⟩)]], .bool false]) (by simp [results, Try.results20, go_sem]) rfl (fi_mem _ _ rfl (by simp [wideB]; omega))
set_option maxHeartbeats 800000 in
theorem fiFind3_any (d : Int) (w : World) :
    Calls Try.prog 20 #[.agg #[.int .i64 3, .int .i64 d]] w (FlPost w d (.func (.func 38) #[] #[]) (.func (.func 39) #[] #[]) (decide (d = 0))) := by
  by_cases h1 : 1 ≤ d
  · by_cases h8 : d ≤ 8
    · go_enter Try.func20, Try.ntmps20
      go_wp2_with fail
      go_region
      all_goals
        go_wp2_with fail
        refine bodyPost_ret (v := .tuple #[.agg #[.func (.func 38) #[] #[], .func (.func 39) #[] #[]], .bool (d == 0)]) (by simp [results, Try.results20, go_sem]) rfl (fi_memd _ _ rfl rfl)
    · go_enter Try.func20, Try.ntmps20
      go_wp2_with fail
      go_region
      all_goals
        go_wp2_with fail
        refine bodyPost_ret (v := .tuple #[.agg #[.func (.func 38) #[] #[], .func (.func 39) #[] #[]], .bool (d == 0)]) (by simp [results, Try.results20, go_sem]) rfl (fi_memd _ _ rfl rfl)
  · go_enter Try.func20, Try.ntmps20
    go_wp2_with fail
    go_region
    all_goals
      go_wp2_with fail
      refine bodyPost_ret (v := .tuple #[.agg #[.func (.func 38) #[] #[], .func (.func 39) #[] #[]], .bool (d == 0)]) (by simp [results, Try.results20, go_sem]) rfl (fi_memd _ _ rfl rfl)
set_option maxHeartbeats 800000 in
theorem fiFind4_any (d : Int) (w : World) :
    Calls Try.prog 20 #[.agg #[.int .i64 4, .int .i64 d]] w (FlPost w d (.func (.func 41) #[] #[]) (.func (.func 42) #[] #[]) (decide (d = 0))) := by
  by_cases h1 : 1 ≤ d
  · by_cases h8 : d ≤ 8
    · go_enter Try.func20, Try.ntmps20
      go_wp2_with fail
      go_region
      all_goals
        go_wp2_with fail
        refine bodyPost_ret (v := .tuple #[.agg #[.func (.func 41) #[] #[], .func (.func 42) #[] #[]], .bool (d == 0)]) (by simp [results, Try.results20, go_sem]) rfl (fi_memd _ _ rfl rfl)
    · go_enter Try.func20, Try.ntmps20
      go_wp2_with fail
      go_region
      all_goals
        go_wp2_with fail
        refine bodyPost_ret (v := .tuple #[.agg #[.func (.func 41) #[] #[], .func (.func 42) #[] #[]], .bool (d == 0)]) (by simp [results, Try.results20, go_sem]) rfl (fi_memd _ _ rfl rfl)
  · go_enter Try.func20, Try.ntmps20
    go_wp2_with fail
    go_region
    all_goals
      go_wp2_with fail
      refine bodyPost_ret (v := .tuple #[.agg #[.func (.func 41) #[] #[], .func (.func 42) #[] #[]], .bool (d == 0)]) (by simp [results, Try.results20, go_sem]) rfl (fi_memd _ _ rfl rfl)
set_option maxHeartbeats 800000 in
theorem fiFind0_any (k d : Int) (w : World) (h1 : k ≠ 1) (h2 : k ≠ 2) (h3 : k ≠ 3) (h4 : k ≠ 4) :
    Calls Try.prog 20 #[.agg #[.int .i64 k, .int .i64 d]] w (FlPost w d .nilFunc .nilFunc false) := by
  by_cases h5 : 1 ≤ d
  · go_enter Try.func20, Try.ntmps20
    go_wp2_with fail
    refine bodyPost_ret (v := .tuple #[.agg #[.nilFunc, .nilFunc], .bool false]) (by simp [results, Try.results20, go_sem]) rfl (fi_mem _ _ rfl rfl)
  · go_enter Try.func20, Try.ntmps20
    go_wp2_with fail
    refine bodyPost_ret (v := .tuple #[.agg #[.nilFunc, .nilFunc], .bool false]) (by simp [results, Try.results20, go_sem]) rfl (fi_mem _ _ rfl rfl)
theorem add_off (a : Addr) (k : Nat) : (a.add k).off = a.off + k := by
  unfold Addr.add
  split
  · next h => subst h; rfl
  · rfl
/-- A second cell, in the forms in which a walk asks for it. -/
theorem snd_cell {w : World} {a : Addr} {j : Nat} {v : Value} (h : w.cell? (a.add (j + 1)) = some v) : w.cell? ((a.add j).add 1) = some v ∧ w.cell? ⟨(a.add j).block, (a.add j).off + 1, none⟩ = some v := by
  have e : (a.add j).add 1 = a.add (j + 1) := by
    unfold Addr.add
    by_cases hj : j = 0
    · subst hj; simp
    · simp [hj, Nat.add_assoc]
  have e2 : (⟨(a.add j).block, (a.add j).off + 1, none⟩ : Addr) = (a.add j).add 1 := rfl
  rw [e2, e]
  exact ⟨h, h⟩
theorem fiFind_any (k d : Int) (w : World) : Calls Try.prog 20 #[.agg #[.int .i64 k, .int .i64 d]] w fun e w' => ∃ fd fu, fd.oneCell' = true ∧ fu.oneCell' = true ∧ FlPost w d fd fu (okF (k, d)) e w' := by
  by_cases h1 : k = 1
  · subst h1
    rw [show okF (1, d) = wideB d from by simp [okF, wideB]]
    exact (fiFind1_any d w).mono fun _ _ h => ⟨_, _, rfl, rfl, h⟩
  by_cases h2 : k = 2
  · subst h2
    rw [show okF (2, d) = wideB d from by simp [okF, wideB]]
    exact (fiFind2_any d w).mono fun _ _ h => ⟨_, _, rfl, rfl, h⟩
  by_cases h3 : k = 3
  · subst h3
    rw [show okF (3, d) = decide (d = 0) from by simp [okF]]
    exact (fiFind3_any d w).mono fun _ _ h => ⟨_, _, rfl, rfl, h⟩
  by_cases h4 : k = 4
  · subst h4
    rw [show okF (4, d) = decide (d = 0) from by simp [okF]]
    exact (fiFind4_any d w).mono fun _ _ h => ⟨_, _, rfl, rfl, h⟩
  rw [show okF (k, d) = false from by simp [okF, h1, h2, h3, h4]]
  exact (fiFind0_any k d w h1 h2 h3 h4).mono fun _ _ h => ⟨_, _, rfl, rfl, h⟩
theorem fck_take {l : List Fl} {k : Nat} (h : k < l.length) (ha : (l.take k).all okF = true) : (l.take (k + 1)).all okF = okF (l.getD k (0, 0)) := by
  rw [List.take_add_one, List.getElem?_eq_getElem h, List.all_append, ha, List.getD_eq_getElem?_getD, List.getElem?_eq_getElem h]
  simp
theorem fck_bad {l : List Fl} {k : Nat} (h : k < l.length) (hl : ¬ 4 < l.length) (hb : okF (l.getD k (0, 0)) = false) : fck l = 2 := by
  unfold fck
  rw [if_neg hl, if_neg]
  intro ha
  rw [List.all_eq_true] at ha
  have := ha (l.getD k (0, 0)) (by rw [List.getD_eq_getElem?_getD, List.getElem?_eq_getElem h]; exact List.getElem_mem h)
  rw [hb] at this
  cases this
theorem fck_ok {l : List Fl} (hl : ¬ 4 < l.length) (ha : (l.take l.length).all okF = true) : fck l = 0 := by
  unfold fck
  rw [List.take_length] at ha
  rw [if_neg hl, if_pos ha]
set_option maxHeartbeats 800000 in
theorem check_any (A : Option Addr) (c : Nat) (l : List Fl) (w : World) (hr : Fls w A l) :
    Calls Try.prog 10 #[.slice A l.length c] w fun e w' => e = .returned (.int .i64 (fck l)) ∧ Below w.heap.size w w' := by
  have HR := Lib.hid hr
  clear hr
  by_cases hbig : 4 < l.length
  · have HF := Lib.hid (show fck l = 3 by unfold fck; rw [if_pos hbig])
    go_enter Try.func10, Try.ntmps10
    go_wp2_with fail
    go_ret
    exact ⟨by rw [HF.out]; rfl, Below.refl _ _⟩
  · go_enter Try.func10, Try.ntmps10
    go_wp2_with fail
    go_loopw [12] (fun t wr => ∃ k : Nat, k ≤ l.length ∧ t = .int .i64 k ∧ Hid (Below w.heap.size w wr) ∧ Hid ((l.take k).all okF = true)) (fun t _ => l.length - (intOf t).toNat)
    case atStart => exact ⟨0, Nat.zero_le _, rfl, Below.refl _ _, rfl⟩
    case round =>
      obtain ⟨k, hk, rfl, HB, HA⟩ := hrel
      by_cases hlt : k < l.length
      · have HFL := Lib.hid (HR.out.below HB.out)
        obtain ⟨ad, rfl, hc⟩ := HFL.out.2 (by omega)
        obtain ⟨hc0, hc1⟩ := hc k hlt
        have HT := Lib.hid (fck_take hlt HA.out)
        have HBD := Lib.hid (fck_bad hlt hbig)
        obtain ⟨f, hf⟩ : ∃ f, f = l.getD k (0, 0) := ⟨_, rfl⟩
        rw [← hf] at hc0 hc1 HT HBD
        obtain ⟨kk, d⟩ := f
        simp only at hc0 hc1
        obtain ⟨hc2, hc3⟩ := snd_cell hc1
        clear hc hf
        cases hok : okF (kk, d)
        · have HF := Lib.hid (HBD.out hok)
          go_wp2_with fail
          refine (fiFind_any kk d _).mono ?_
          rintro e w2 ⟨fd, fu, o1, o2, h⟩
          rw [hok] at h
          obtain ⟨rfl, hb2, _, _⟩ := h
          have hs1 := fun W a m => run_store Try.prog W a fd m o1
          have hs2 := fun W a m => run_store Try.prog W a fu m o2
          have HB2 := Lib.hid ((HB.out.alloc HB.out.size _).trans (hb2.mono (by have := HB.out.size; simp; omega)))
          clear hb2 hc0 hc1 hc2 hc3
          go_wp2_with fail
          go_ret
          exact ⟨by rw [HF.out]; rfl, HB2.out.alloc HB2.out.size _⟩
        · rw [hok] at HT
          go_wp2_with fail
          refine (fiFind_any kk d _).mono ?_
          rintro e w2 ⟨fd, fu, o1, o2, h⟩
          rw [hok] at h
          obtain ⟨rfl, hb2, _, _⟩ := h
          have hs1 := fun W a m => run_store Try.prog W a fd m o1
          have hs2 := fun W a m => run_store Try.prog W a fu m o2
          have HB2 := Lib.hid ((HB.out.alloc HB.out.size _).trans (hb2.mono (by have := HB.out.size; simp; omega)))
          clear hb2 hc0 hc1 hc2 hc3
          go_wp2_with fail
          go_roundw
          case rel => exact ⟨k + 1, by omega, by push_cast; rfl, HB2.out.alloc HB2.out.size _, HT.out⟩
          case measure => simp [intOf]; omega
      · have hkl : k = l.length := by omega
        subst hkl
        have HF := Lib.hid (fck_ok hbig HA.out)
        go_wp2_with fail
        go_ret
        exact ⟨by rw [HF.out]; rfl, HB.out⟩
set_option maxHeartbeats 1600000 in
theorem refCheck_any (A : Option Addr) (c : Nat) (l : List Fl) (w : World) (hr : Fls w A l) :
    Calls Try.prog 11 #[.slice A l.length c] w fun e w' => e = .returned (.int .i64 (fck l)) ∧ w = w' := by
  have HR := Lib.hid hr
  clear hr
  by_cases hbig : 4 < l.length
  · have HF := Lib.hid (show fck l = 3 by unfold fck; rw [if_pos hbig])
    go_enter Try.func11, Try.ntmps11
    go_wp2_with fail
    go_ret
    exact ⟨by rw [HF.out]; rfl, rfl⟩
  · go_enter Try.func11, Try.ntmps11
    go_wp2_with fail
    go_loop [3] (fun t => ∃ k : Nat, k ≤ l.length ∧ t = .int .i64 k ∧ Hid ((l.take k).all okF = true)) (fun t => l.length - (intOf t).toNat)
    case atStart => exact ⟨0, Nat.zero_le _, rfl, rfl⟩
    case round =>
      obtain ⟨k, hk, rfl, HA⟩ := hrel
      by_cases hlt : k < l.length
      · obtain ⟨ad, rfl, hc⟩ := HR.out.2 (by omega)
        obtain ⟨hc0, hc1⟩ := hc k hlt
        have hT := fck_take hlt HA.out
        have hBD := fck_bad hlt hbig
        obtain ⟨f, hf⟩ : ∃ f, f = l.getD k (0, 0) := ⟨_, rfl⟩
        rw [← hf] at hc0 hc1 hT hBD
        obtain ⟨kk, d⟩ := f
        simp only at hc0 hc1
        obtain ⟨hc2, hc3⟩ := snd_cell hc1
        have HT := Lib.hid hT
        have HBD := Lib.hid hBD
        clear hc hf hT hBD
        have hbad : ∀ (h : okF (kk, d) = false), Hid (fck l = 2) := fun h => Lib.hid (HBD.out h)
        have hgood : ∀ (h : okF (kk, d) = true), Hid ((l.take (k + 1)).all okF = true) := fun h => Lib.hid (by rw [HT.out, h])
        by_cases h1 : kk = 1
        · subst h1
          by_cases hd1 : d < 1
          · have HF := hbad (by simp [okF]; omega)
            clear hbad hgood
            go_wp2_with fail
            go_ret
            exact ⟨by rw [HF.out]; rfl, rfl⟩
          by_cases hd8 : 8 < d
          · have HF := hbad (by simp [okF]; omega)
            clear hbad hgood
            go_wp2_with fail
            go_ret
            exact ⟨by rw [HF.out]; rfl, rfl⟩
          have HF := hgood (by simp [okF]; omega)
          clear hbad hgood
          go_wp2_with fail
          go_round
          case rel => exact ⟨k + 1, by omega, by push_cast; rfl, HF.out⟩
          case measure => simp [intOf]; omega
        by_cases h2 : kk = 2
        · subst h2
          by_cases hd1 : d < 1
          · have HF := hbad (by simp [okF]; omega)
            clear hbad hgood
            go_wp2_with fail
            go_ret
            exact ⟨by rw [HF.out]; rfl, rfl⟩
          by_cases hd8 : 8 < d
          · have HF := hbad (by simp [okF]; omega)
            clear hbad hgood
            go_wp2_with fail
            go_ret
            exact ⟨by rw [HF.out]; rfl, rfl⟩
          have HF := hgood (by simp [okF]; omega)
          clear hbad hgood
          go_wp2_with fail
          go_round
          case rel => exact ⟨k + 1, by omega, by push_cast; rfl, HF.out⟩
          case measure => simp [intOf]; omega
        by_cases h3 : kk = 3
        · subst h3
          by_cases hd1 : d = 0
          · subst hd1
            have HF := hgood (by simp [okF])
            clear hbad hgood
            go_wp2_with fail
            go_round
            case rel => exact ⟨k + 1, by omega, by push_cast; rfl, HF.out⟩
            case measure => simp [intOf]; omega
          have HF := hbad (by simp [okF]; omega)
          clear hbad hgood
          go_wp2_with fail
          go_ret
          exact ⟨by rw [HF.out]; rfl, rfl⟩
        by_cases h4 : kk = 4
        · subst h4
          by_cases hd1 : d = 0
          · subst hd1
            have HF := hgood (by simp [okF])
            clear hbad hgood
            go_wp2_with fail
            go_round
            case rel => exact ⟨k + 1, by omega, by push_cast; rfl, HF.out⟩
            case measure => simp [intOf]; omega
          have HF := hbad (by simp [okF]; omega)
          clear hbad hgood
          go_wp2_with fail
          go_ret
          exact ⟨by rw [HF.out]; rfl, rfl⟩
        have HF := hbad (by simp [okF, h1, h2, h3, h4])
        clear hbad hgood
        go_wp2_with fail
        go_ret
        exact ⟨by rw [HF.out]; rfl, rfl⟩
      · have hkl : k = l.length := by omega
        subst hkl
        have HF := Lib.hid (fck_ok hbig HA.out)
        go_wp2_with fail
        go_ret
        exact ⟨by rw [HF.out]; rfl, rfl⟩
end Go.Proofs.Ytdfpikimeihefaa
