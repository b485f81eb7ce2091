/-
  slabvaultref04.Best, slabvaultref04.Place. No premise.
-/
import Derived.Test.YtadmpjikkpnjnaaDoorSl5
namespace Go.Proofs.YtadmpjikkpnjnaaDoor
open Go.RowKit Go.Shelf Go.Proofs.YtadmpjikkpnjnaaDoorW.PrintWords

theorem rbest_res {tmps : Array Value} {W : World} {p : Nat} {x1 x2 x3 : Value} {b : Bool} (h2 : tmps[2]?.getD undef = .pointer (some ⟨p, 0, none⟩)) (h3 : tmps[3]?.getD undef = .bool b) (hb : W.heap[p]? = some (.cells #[x1, x2, x3] 31 (0, 0))) :
    (results Tryd.f17 tmps).run Tryd.prog W = .ok (.tuple #[.agg #[x1, x2, x3], .bool b]) W := by
  have c0 := blk_cell hb 0
  have c1 := blk_cell hb 1
  have c2 := blk_cell hb 2
  simp [results, Tryd.results17, go_sem, h2, h3, c0, c1, c2]
/-- What the reference's two rounds have found. -/
def rst (b : List Int) (k : Nat) (x : Rt) (is : Bool) : Prop :=
  (k = 0 → x = Rt.zero ∧ is = false) ∧ (k = 1 → x = slV b 0 ∧ is = slI b 0) ∧ (k = 2 → x = bsR b ∧ is = bsIs b)
theorem rst_zero (b : List Int) : rst b 0 Rt.zero false := ⟨fun _ => ⟨rfl, rfl⟩, (fun h => by cases h), fun h => by cases h⟩
theorem rst_skip0 {b : List Int} {x : Rt} {is : Bool} (h : rst b 0 x is) (hn : ¬ slotOk b 0) : rst b 1 x is := by
  obtain ⟨h1, h2⟩ := slot_not hn
  refine ⟨(fun h => by cases h), fun _ => ?_, fun h => by cases h⟩
  rw [h1, h2]
  exact h.1 rfl
theorem rst_take0 {b : List Int} (hn : slotOk b 0) : rst b 1 (slotR b 0) true := by
  obtain ⟨h1, h2⟩ := slot_is hn
  refine ⟨(fun h => by cases h), fun _ => ?_, fun h => by cases h⟩
  rw [h1, h2]
  exact ⟨rfl, rfl⟩
theorem rst_skip1 {b : List Int} {x : Rt} {is : Bool} (h : rst b 1 x is) (hn : ¬ slotOk b 1 ∨ (is = true ∧ ¬ x.g < (slotR b 1).g)) : rst b 2 x is := by
  obtain ⟨h1, h2⟩ := h.2.1 rfl
  refine ⟨(fun h => by cases h), (fun h => by cases h), fun _ => ?_⟩
  unfold slV at h1
  unfold slI at h2
  unfold bsR bsIs
  by_cases k0 : slotOk b 0
  · rw [if_pos k0] at h1
    subst h1 h2
    rcases hn with hn | ⟨_, hn⟩
    · simp [k0, hn]
    · rw [if_pos k0, if_neg (fun h => hn h.2)]
      simp [k0]
  · rw [if_neg k0] at h1
    subst h1 h2
    rcases hn with hn | ⟨hn, _⟩
    · simp [k0, hn]
    · simp [k0] at hn
theorem rst_take1 {b : List Int} {x : Rt} {is : Bool} (h : rst b 1 x is) (h1 : slotOk b 1) (hn : is = false ∨ x.g < (slotR b 1).g) : rst b 2 (slotR b 1) true := by
  obtain ⟨e1, e2⟩ := h.2.1 rfl
  refine ⟨(fun h => by cases h), (fun h => by cases h), fun _ => ?_⟩
  unfold slV at e1
  unfold slI at e2
  unfold bsR bsIs
  by_cases k0 : slotOk b 0
  · rw [if_pos k0] at e1
    subst e1 e2
    rcases hn with hn | hn
    · simp [k0] at hn
    · simp [k0, h1, hn]
  · simp [k0, h1]
set_option maxRecDepth 100000 in
set_option maxHeartbeats 3200000 in
theorem refBest_any (A : Option Addr) (c : Nat) (b : List Int) (w : World) (hr : Rd w A b) (hb : Bts b) (hc : b.length ≤ c) (hl : b.length ≤ 100000000000000) :
    Calls Tryd.prog 17 #[.slice A b.length c] w fun e w' => e = .returned (.tuple #[(bsR b).v, .bool (bsIs b)]) ∧ Below w.heap.size w w' := by
  have HR := Lib.hid hr
  have HBt := Lib.hid hb
  clear hr hb
  have HX0 := Lib.hid (show ((w.alloc (.cells #[.int .u64 0, .int .i64 0, .int .i64 0] 31)).alloc (.cells #[.int .u64 0, .int .i64 0, .int .i64 0] 31)).heap[w.heap.size]? = some (.cells #[.int .u64 0, .int .i64 0, .int .i64 0] 31 (0, 0)) from (heap_alloc_old _ _ (by simp)).trans (heap_alloc_new w _))
  have HY0 := Lib.hid (show ((w.alloc (.cells #[.int .u64 0, .int .i64 0, .int .i64 0] 31)).alloc (.cells #[.int .u64 0, .int .i64 0, .int .i64 0] 31)).heap[w.heap.size + 1]? = some (.cells #[.int .u64 0, .int .i64 0, .int .i64 0] 31 (0, 0)) from heap_alloc_at _ _ (by simp))
  have HB0 := Lib.hid (((Below.refl w.heap.size w).alloc (Nat.le_refl _) (.cells #[.int .u64 0, .int .i64 0, .int .i64 0] 31)).alloc (by simp) (.cells #[.int .u64 0, .int .i64 0, .int .i64 0] 31))
  go_enter Tryd.func17, Tryd.ntmps17
  go_wp2_with fail
  go_loopw [6, 5] (fun i v wr => ∃ (k : Nat) (x : Rt) (is : Bool), k ≤ 2 ∧ i = .int .i64 k ∧ v = .bool is ∧ Hid (rst b k x is) ∧ Hid (wr.heap[w.heap.size]? = some (.cells #[.int .u64 0, .int .i64 0, .int .i64 0] 31 (0, 0))) ∧
    Hid (wr.heap[w.heap.size + 1]? = some (.cells #[.int .u64 x.g, .int .i64 x.pl, .int .i64 x.sz] 31 (0, 0))) ∧ Hid (Below w.heap.size w wr)) (fun i _ _ => 2 - (intOf i).toNat)
  case atStart => exact ⟨0, Rt.zero, false, by omega, rfl, rfl, rst_zero _, HX0.out, HY0.out, HB0.out⟩
  case round =>
    obtain ⟨k, x, is, hk, rfl, rfl, HST, HX, HY, HBr⟩ := hrel
    have hsz : w.heap.size + 1 < wr.heap.size := (Array.getElem?_eq_some_iff.1 HY.out).1
    rcases (by omega : k = 0 ∨ k = 1 ∨ k = 2) with rfl | rfl | rfl
    · by_cases hs : b.length < 32
      · have HN := Lib.hid (show ¬ slotOk b 0 from fun h => by have := h.1.1; rw [List.length_drop] at this; omega)
        go_wp2_with fail
        go_roundw
        case rel => exact ⟨1, x, is, by omega, rfl, rfl, rst_skip0 HST.out HN.out, HX.out, HY.out, HBr.out⟩
        case measure => simp [intOf]
      · obtain ⟨A', hsuf, hsr, hcm⟩ := cut_suf A b c (0 : Int) (by decide) (by omega) hc
        rw [show ((0 : Int).toNat) = 0 from rfl] at hsuf hsr hcm
        have HRM := Lib.hid (hsr w HR.out)
        have HBM := Lib.hid (show Bts (b.drop 0) from HBt.out.drop _)
        have hml : (b.drop 0).length = b.length - 0 := List.length_drop
        have hdr : b.drop (32 * 0) = b.drop 0 := rfl
        have HMR := Lib.hid (show ldR (b.drop 0) = slotR b 0 from rfl)
        have hsk : slotOk b 0 ↔ (ldOk (b.drop 0) ∧ (slotR b 0).g % 2 = 0) := Iff.rfl
        have HCM := Lib.hid (show (b.drop 0).length ≤ c - 0 by rw [hml]; omega)
        have HLM := Lib.hid (show (b.drop 0).length ≤ 150000000000000 by rw [hml]; omega)
        have HRV := Lib.hid (show (slotR b 0).v = .agg #[.int .u64 (slotR b 0).g, .int .i64 (slotR b 0).pl, .int .i64 (slotR b 0).sz] from rfl)
        have hgk : ldOk (b.drop 0) → gOk (slotR b 0) := fun hk => by
          unfold slotR ldR
          rw [if_pos hk]
          exact (ldR0_range (HBt.out.drop _)).1
        have h32 : ¬ (b.drop 0).length < 32 := by rw [hml]; omega
        have hE0 : ldOk (b.drop 0) → ldE (b.drop 0) = 0 := ldE_zero.2
        have hE5 : ¬ ldOk (b.drop 0) → ldE (b.drop 0) = 5 := fun h => by unfold ldE; rw [if_neg h32, if_neg h]
        obtain ⟨m, hm⟩ : ∃ m, m = b.drop 0 := ⟨_, rfl⟩
        rw [← hm] at hsuf HRM HBM HMR HCM HLM hsk hgk hE0 hE5
        clear hsr hcm hml hdr h32 hm
        by_cases hk : ldOk m
        · have hc0 := hE0 hk
          have hg := hgk hk
          unfold gOk at hg
          obtain ⟨hg1, hg2⟩ := hg
          by_cases hp : (slotR b 0).g % 2 = 0
          · have hn : slotOk b 0 := hsk.2 ⟨hk, hp⟩
            clear hE0 hE5 hgk hsk hk
            have HC := Lib.hid hc0
            have HN := Lib.hid hn
            clear hc0
            obtain ⟨g, hg'⟩ : ∃ g, g = (slotR b 0).g := ⟨_, rfl⟩
            obtain ⟨q, hq'⟩ : ∃ q, q = (slotR b 0).pl := ⟨_, rfl⟩
            obtain ⟨z, hz'⟩ : ∃ z, z = (slotR b 0).sz := ⟨_, rfl⟩
            rw [← hg', ← hq', ← hz'] at HRV
            rw [← hg'] at hg1 hg2 hp
            have HG' := Lib.hid hg'
            have HQ' := Lib.hid hq'
            have HZ' := Lib.hid hz'
            obtain ⟨i1, i2⟩ := HST.out.1 rfl
            subst i2
            clear i1 hg' hq' hz' hn
            go_wp2_with fail
            refine (refLoad_any A' (c - 0) m wr (HRM.out.below HBr.out) HBM.out HCM.out HLM.out).mono ?_
            rintro e w5 ⟨rfl, hb5⟩
            rw [HMR.out, HC.out, HRV.out]
            have HB5 := Lib.hid (HBr.out.trans (hb5.mono HBr.out.size))
            have HX5 := Lib.hid ((hb5.block _ (by omega)).trans HX.out)
            have HY5 := Lib.hid ((hb5.block _ (by omega)).trans HY.out)
            have HS5 := Lib.hid (show w.heap.size + 1 < w5.heap.size by have := hb5.size; omega)
            clear hb5
            have HB6 := Lib.hid (HB5.out.alloc HB5.out.size (.cells #[.int .u64 g, .int .i64 q, .int .i64 z] 31))
            have HX6 := Lib.hid ((heap_alloc_old w5 (.cells #[.int .u64 g, .int .i64 q, .int .i64 z] 31) (by have := HS5.out; omega)).trans HX5.out)
            have HY6 := Lib.hid ((heap_alloc_old w5 (.cells #[.int .u64 g, .int .i64 q, .int .i64 z] 31) (by have := HS5.out; omega)).trans HY5.out)
            have y6 : ∀ ob, ((w5.alloc ob).cell? ⟨w.heap.size + 1, 0, none⟩ = some (.int .u64 x.g) ∧ (w5.alloc ob).cell? ⟨w.heap.size + 1, 1, none⟩ = some (.int .i64 x.pl) ∧ (w5.alloc ob).cell? ⟨w.heap.size + 1, 2, none⟩ = some (.int .i64 x.sz)) ∧ (w5.alloc ob).frozen? ⟨w.heap.size + 1, 0, none⟩ = false ∧ (w5.alloc ob).frozen? ⟨w.heap.size + 1, 1, none⟩ = false ∧ (w5.alloc ob).frozen? ⟨w.heap.size + 1, 2, none⟩ = false := fun ob =>
              rt_cells ((heap_alloc_old w5 ob (by have := HS5.out; omega)).trans HY5.out)
            go_wp2_with fail
            have k1 := set3 (a := .int .u64 g) (b := .int .i64 q) (c := .int .i64 z) HY6.out
            have k2 := (far3 (W := w5.alloc (.cells #[.int .u64 g, .int .i64 q, .int .i64 z] 31)) (p := w.heap.size + 1) (a := .int .u64 g) (b := .int .i64 q) (c := .int .i64 z) (show w.heap.size ≠ w.heap.size + 1 by omega)).trans HX6.out
            have k3 := below3 (p := w.heap.size + 1) (a := .int .u64 g) (b := .int .i64 q) (c := .int .i64 z) HB6.out (by omega)
            rw [HG'.out, HQ'.out, HZ'.out] at k1 k2 k3 ⊢
            go_roundw
            case rel => exact ⟨1, slotR b 0, true, by omega, rfl, rfl, rst_take0 HN.out, k2, k1, k3⟩
            case measure => simp [intOf]
          · have hn : ¬ slotOk b 0 := fun h => hp (hsk.1 h).2
            have hp' : (slotR b 0).g % 2 = 1 := by omega
            clear hE0 hE5 hgk hsk hk hp
            have HC := Lib.hid hc0
            have HN := Lib.hid hn
            clear hc0
            obtain ⟨g, hg'⟩ : ∃ g, g = (slotR b 0).g := ⟨_, rfl⟩
            obtain ⟨q, hq'⟩ : ∃ q, q = (slotR b 0).pl := ⟨_, rfl⟩
            obtain ⟨z, hz'⟩ : ∃ z, z = (slotR b 0).sz := ⟨_, rfl⟩
            rw [← hg', ← hq', ← hz'] at HRV
            rw [← hg'] at hg1 hg2 hp'
            have HG' := Lib.hid hg'
            have HQ' := Lib.hid hq'
            have HZ' := Lib.hid hz'
            clear hg' hq' hz' hn
            go_wp2_with fail
            refine (refLoad_any A' (c - 0) m wr (HRM.out.below HBr.out) HBM.out HCM.out HLM.out).mono ?_
            rintro e w5 ⟨rfl, hb5⟩
            rw [HMR.out, HC.out, HRV.out]
            have HB5 := Lib.hid (HBr.out.trans (hb5.mono HBr.out.size))
            have HX5 := Lib.hid ((hb5.block _ (by omega)).trans HX.out)
            have HY5 := Lib.hid ((hb5.block _ (by omega)).trans HY.out)
            have HS5 := Lib.hid (show w.heap.size + 1 < w5.heap.size by have := hb5.size; omega)
            clear hb5
            have HB6 := Lib.hid (HB5.out.alloc HB5.out.size (.cells #[.int .u64 g, .int .i64 q, .int .i64 z] 31))
            have HX6 := Lib.hid ((heap_alloc_old w5 (.cells #[.int .u64 g, .int .i64 q, .int .i64 z] 31) (by have := HS5.out; omega)).trans HX5.out)
            have HY6 := Lib.hid ((heap_alloc_old w5 (.cells #[.int .u64 g, .int .i64 q, .int .i64 z] 31) (by have := HS5.out; omega)).trans HY5.out)
            have y6 : ∀ ob, ((w5.alloc ob).cell? ⟨w.heap.size + 1, 0, none⟩ = some (.int .u64 x.g) ∧ (w5.alloc ob).cell? ⟨w.heap.size + 1, 1, none⟩ = some (.int .i64 x.pl) ∧ (w5.alloc ob).cell? ⟨w.heap.size + 1, 2, none⟩ = some (.int .i64 x.sz)) ∧ (w5.alloc ob).frozen? ⟨w.heap.size + 1, 0, none⟩ = false ∧ (w5.alloc ob).frozen? ⟨w.heap.size + 1, 1, none⟩ = false ∧ (w5.alloc ob).frozen? ⟨w.heap.size + 1, 2, none⟩ = false := fun ob =>
              rt_cells ((heap_alloc_old w5 ob (by have := HS5.out; omega)).trans HY5.out)
            go_wp2_with fail
            go_roundw
            case rel => exact ⟨1, x, is, by omega, rfl, rfl, rst_skip0 HST.out HN.out, HX6.out, HY6.out, HB6.out⟩
            case measure => simp [intOf]
        · have hc0 := hE5 hk
          have hn : ¬ slotOk b 0 := fun h => hk (hsk.1 h).1
          clear hE0 hE5 hgk hsk hk
          have HC := Lib.hid hc0
          have HN := Lib.hid hn
          clear hc0 hn
          obtain ⟨g, hg'⟩ : ∃ g, g = (slotR b 0).g := ⟨_, rfl⟩
          obtain ⟨q, hq'⟩ : ∃ q, q = (slotR b 0).pl := ⟨_, rfl⟩
          obtain ⟨z, hz'⟩ : ∃ z, z = (slotR b 0).sz := ⟨_, rfl⟩
          rw [← hg', ← hq', ← hz'] at HRV
          clear hg' hq' hz'
          go_wp2_with fail
          refine (refLoad_any A' (c - 0) m wr (HRM.out.below HBr.out) HBM.out HCM.out HLM.out).mono ?_
          rintro e w5 ⟨rfl, hb5⟩
          rw [HMR.out, HC.out, HRV.out]
          have HB5 := Lib.hid (HBr.out.trans (hb5.mono HBr.out.size))
          have HX5 := Lib.hid ((hb5.block _ (by omega)).trans HX.out)
          have HY5 := Lib.hid ((hb5.block _ (by omega)).trans HY.out)
          have HS5 := Lib.hid (show w.heap.size + 1 < w5.heap.size by have := hb5.size; omega)
          clear hb5
          have HB6 := Lib.hid (HB5.out.alloc HB5.out.size (.cells #[.int .u64 g, .int .i64 q, .int .i64 z] 31))
          have HX6 := Lib.hid ((heap_alloc_old w5 (.cells #[.int .u64 g, .int .i64 q, .int .i64 z] 31) (by have := HS5.out; omega)).trans HX5.out)
          have HY6 := Lib.hid ((heap_alloc_old w5 (.cells #[.int .u64 g, .int .i64 q, .int .i64 z] 31) (by have := HS5.out; omega)).trans HY5.out)
          have y6 : ∀ ob, ((w5.alloc ob).cell? ⟨w.heap.size + 1, 0, none⟩ = some (.int .u64 x.g) ∧ (w5.alloc ob).cell? ⟨w.heap.size + 1, 1, none⟩ = some (.int .i64 x.pl) ∧ (w5.alloc ob).cell? ⟨w.heap.size + 1, 2, none⟩ = some (.int .i64 x.sz)) ∧ (w5.alloc ob).frozen? ⟨w.heap.size + 1, 0, none⟩ = false ∧ (w5.alloc ob).frozen? ⟨w.heap.size + 1, 1, none⟩ = false ∧ (w5.alloc ob).frozen? ⟨w.heap.size + 1, 2, none⟩ = false := fun ob =>
            rt_cells ((heap_alloc_old w5 ob (by have := HS5.out; omega)).trans HY5.out)
          go_wp2_with fail
          go_roundw
          case rel => exact ⟨1, x, is, by omega, rfl, rfl, rst_skip0 HST.out HN.out, HX6.out, HY6.out, HB6.out⟩
          case measure => simp [intOf]
    · by_cases hs : b.length < 64
      · have HN := Lib.hid (show ¬ slotOk b 1 from fun h => by have := h.1.1; rw [List.length_drop] at this; omega)
        go_wp2_with fail
        go_roundw
        case rel => exact ⟨2, x, is, by omega, rfl, rfl, rst_skip1 HST.out (.inl HN.out), HX.out, HY.out, HBr.out⟩
        case measure => simp [intOf]
      · obtain ⟨A', hsuf, hsr, hcm⟩ := cut_suf A b c (32 : Int) (by decide) (by omega) hc
        rw [show ((32 : Int).toNat) = 32 from rfl] at hsuf hsr hcm
        have HRM := Lib.hid (hsr w HR.out)
        have HBM := Lib.hid (show Bts (b.drop 32) from HBt.out.drop _)
        have hml : (b.drop 32).length = b.length - 32 := List.length_drop
        have hdr : b.drop (32 * 1) = b.drop 32 := rfl
        have HMR := Lib.hid (show ldR (b.drop 32) = slotR b 1 from rfl)
        have hsk : slotOk b 1 ↔ (ldOk (b.drop 32) ∧ (slotR b 1).g % 2 = 1) := Iff.rfl
        have HCM := Lib.hid (show (b.drop 32).length ≤ c - 32 by rw [hml]; omega)
        have HLM := Lib.hid (show (b.drop 32).length ≤ 150000000000000 by rw [hml]; omega)
        have HRV := Lib.hid (show (slotR b 1).v = .agg #[.int .u64 (slotR b 1).g, .int .i64 (slotR b 1).pl, .int .i64 (slotR b 1).sz] from rfl)
        have hgk : ldOk (b.drop 32) → gOk (slotR b 1) := fun hk => by
          unfold slotR ldR
          rw [if_pos hk]
          exact (ldR0_range (HBt.out.drop _)).1
        have h32 : ¬ (b.drop 32).length < 32 := by rw [hml]; omega
        have hE0 : ldOk (b.drop 32) → ldE (b.drop 32) = 0 := ldE_zero.2
        have hE5 : ¬ ldOk (b.drop 32) → ldE (b.drop 32) = 5 := fun h => by unfold ldE; rw [if_neg h32, if_neg h]
        obtain ⟨m, hm⟩ : ∃ m, m = b.drop 32 := ⟨_, rfl⟩
        rw [← hm] at hsuf HRM HBM HMR HCM HLM hsk hgk hE0 hE5
        clear hsr hcm hml hdr h32 hm
        by_cases hk : ldOk m
        · have hc0 := hE0 hk
          have hg := hgk hk
          unfold gOk at hg
          obtain ⟨hg1, hg2⟩ := hg
          by_cases hp : (slotR b 1).g % 2 = 1
          · have hn : slotOk b 1 := hsk.2 ⟨hk, hp⟩
            clear hE0 hE5 hgk hsk hk
            rcases Bool.eq_false_or_eq_true is with rfl | rfl
            · by_cases hlt : x.g < (slotR b 1).g
              · skip
                have HC := Lib.hid hc0
                have HN := Lib.hid hn
                clear hc0
                obtain ⟨g, hg'⟩ : ∃ g, g = (slotR b 1).g := ⟨_, rfl⟩
                obtain ⟨q, hq'⟩ : ∃ q, q = (slotR b 1).pl := ⟨_, rfl⟩
                obtain ⟨z, hz'⟩ : ∃ z, z = (slotR b 1).sz := ⟨_, rfl⟩
                rw [← hg', ← hq', ← hz'] at HRV
                rw [← hg'] at hg1 hg2 hp hlt
                have HG' := Lib.hid hg'
                have HQ' := Lib.hid hq'
                have HZ' := Lib.hid hz'
                have HLT := Lib.hid hlt
                clear hq' hz' hn
                have HLT2 := Lib.hid (show x.g < (slotR b 1).g by rw [← hg']; exact hlt)
                clear hg'
                go_wp2_with fail
                refine (refLoad_any A' (c - 32) m wr (HRM.out.below HBr.out) HBM.out HCM.out HLM.out).mono ?_
                rintro e w5 ⟨rfl, hb5⟩
                rw [HMR.out, HC.out, HRV.out]
                have HB5 := Lib.hid (HBr.out.trans (hb5.mono HBr.out.size))
                have HX5 := Lib.hid ((hb5.block _ (by omega)).trans HX.out)
                have HY5 := Lib.hid ((hb5.block _ (by omega)).trans HY.out)
                have HS5 := Lib.hid (show w.heap.size + 1 < w5.heap.size by have := hb5.size; omega)
                clear hb5
                have HB6 := Lib.hid (HB5.out.alloc HB5.out.size (.cells #[.int .u64 g, .int .i64 q, .int .i64 z] 31))
                have HX6 := Lib.hid ((heap_alloc_old w5 (.cells #[.int .u64 g, .int .i64 q, .int .i64 z] 31) (by have := HS5.out; omega)).trans HX5.out)
                have HY6 := Lib.hid ((heap_alloc_old w5 (.cells #[.int .u64 g, .int .i64 q, .int .i64 z] 31) (by have := HS5.out; omega)).trans HY5.out)
                have y6 : ∀ ob, ((w5.alloc ob).cell? ⟨w.heap.size + 1, 0, none⟩ = some (.int .u64 x.g) ∧ (w5.alloc ob).cell? ⟨w.heap.size + 1, 1, none⟩ = some (.int .i64 x.pl) ∧ (w5.alloc ob).cell? ⟨w.heap.size + 1, 2, none⟩ = some (.int .i64 x.sz)) ∧ (w5.alloc ob).frozen? ⟨w.heap.size + 1, 0, none⟩ = false ∧ (w5.alloc ob).frozen? ⟨w.heap.size + 1, 1, none⟩ = false ∧ (w5.alloc ob).frozen? ⟨w.heap.size + 1, 2, none⟩ = false := fun ob =>
                  rt_cells ((heap_alloc_old w5 ob (by have := HS5.out; omega)).trans HY5.out)
                go_wp2_with fail
                have k1 := set3 (a := .int .u64 g) (b := .int .i64 q) (c := .int .i64 z) HY6.out
                have k2 := (far3 (W := w5.alloc (.cells #[.int .u64 g, .int .i64 q, .int .i64 z] 31)) (p := w.heap.size + 1) (a := .int .u64 g) (b := .int .i64 q) (c := .int .i64 z) (show w.heap.size ≠ w.heap.size + 1 by omega)).trans HX6.out
                have k3 := below3 (p := w.heap.size + 1) (a := .int .u64 g) (b := .int .i64 q) (c := .int .i64 z) HB6.out (by omega)
                rw [HG'.out, HQ'.out, HZ'.out] at k1 k2 k3 ⊢
                go_roundw
                case rel => exact ⟨2, slotR b 1, true, by omega, rfl, rfl, rst_take1 HST.out HN.out (.inr HLT2.out), k2, k1, k3⟩
                case measure => simp [intOf]
              · have HLT2 := Lib.hid hlt
                have HC := Lib.hid hc0
                have HN := Lib.hid hn
                clear hc0
                obtain ⟨g, hg'⟩ : ∃ g, g = (slotR b 1).g := ⟨_, rfl⟩
                obtain ⟨q, hq'⟩ : ∃ q, q = (slotR b 1).pl := ⟨_, rfl⟩
                obtain ⟨z, hz'⟩ : ∃ z, z = (slotR b 1).sz := ⟨_, rfl⟩
                rw [← hg', ← hq', ← hz'] at HRV
                rw [← hg'] at hg1 hg2 hp hlt
                have HG' := Lib.hid hg'
                have HQ' := Lib.hid hq'
                have HZ' := Lib.hid hz'
                clear hg' hq' hz' hn
                go_wp2_with fail
                refine (refLoad_any A' (c - 32) m wr (HRM.out.below HBr.out) HBM.out HCM.out HLM.out).mono ?_
                rintro e w5 ⟨rfl, hb5⟩
                rw [HMR.out, HC.out, HRV.out]
                have HB5 := Lib.hid (HBr.out.trans (hb5.mono HBr.out.size))
                have HX5 := Lib.hid ((hb5.block _ (by omega)).trans HX.out)
                have HY5 := Lib.hid ((hb5.block _ (by omega)).trans HY.out)
                have HS5 := Lib.hid (show w.heap.size + 1 < w5.heap.size by have := hb5.size; omega)
                clear hb5
                have HB6 := Lib.hid (HB5.out.alloc HB5.out.size (.cells #[.int .u64 g, .int .i64 q, .int .i64 z] 31))
                have HX6 := Lib.hid ((heap_alloc_old w5 (.cells #[.int .u64 g, .int .i64 q, .int .i64 z] 31) (by have := HS5.out; omega)).trans HX5.out)
                have HY6 := Lib.hid ((heap_alloc_old w5 (.cells #[.int .u64 g, .int .i64 q, .int .i64 z] 31) (by have := HS5.out; omega)).trans HY5.out)
                have y6 : ∀ ob, ((w5.alloc ob).cell? ⟨w.heap.size + 1, 0, none⟩ = some (.int .u64 x.g) ∧ (w5.alloc ob).cell? ⟨w.heap.size + 1, 1, none⟩ = some (.int .i64 x.pl) ∧ (w5.alloc ob).cell? ⟨w.heap.size + 1, 2, none⟩ = some (.int .i64 x.sz)) ∧ (w5.alloc ob).frozen? ⟨w.heap.size + 1, 0, none⟩ = false ∧ (w5.alloc ob).frozen? ⟨w.heap.size + 1, 1, none⟩ = false ∧ (w5.alloc ob).frozen? ⟨w.heap.size + 1, 2, none⟩ = false := fun ob =>
                  rt_cells ((heap_alloc_old w5 ob (by have := HS5.out; omega)).trans HY5.out)
                go_wp2_with fail
                go_roundw
                case rel => exact ⟨2, x, true, by omega, rfl, rfl, rst_skip1 HST.out (.inr ⟨rfl, by have := HLT2.out; omega⟩), HX6.out, HY6.out, HB6.out⟩
                case measure => simp [intOf]
            · skip
              have HC := Lib.hid hc0
              have HN := Lib.hid hn
              clear hc0
              obtain ⟨g, hg'⟩ : ∃ g, g = (slotR b 1).g := ⟨_, rfl⟩
              obtain ⟨q, hq'⟩ : ∃ q, q = (slotR b 1).pl := ⟨_, rfl⟩
              obtain ⟨z, hz'⟩ : ∃ z, z = (slotR b 1).sz := ⟨_, rfl⟩
              rw [← hg', ← hq', ← hz'] at HRV
              rw [← hg'] at hg1 hg2 hp
              have HG' := Lib.hid hg'
              have HQ' := Lib.hid hq'
              have HZ' := Lib.hid hz'
              clear hg' hq' hz' hn
              go_wp2_with fail
              refine (refLoad_any A' (c - 32) m wr (HRM.out.below HBr.out) HBM.out HCM.out HLM.out).mono ?_
              rintro e w5 ⟨rfl, hb5⟩
              rw [HMR.out, HC.out, HRV.out]
              have HB5 := Lib.hid (HBr.out.trans (hb5.mono HBr.out.size))
              have HX5 := Lib.hid ((hb5.block _ (by omega)).trans HX.out)
              have HY5 := Lib.hid ((hb5.block _ (by omega)).trans HY.out)
              have HS5 := Lib.hid (show w.heap.size + 1 < w5.heap.size by have := hb5.size; omega)
              clear hb5
              have HB6 := Lib.hid (HB5.out.alloc HB5.out.size (.cells #[.int .u64 g, .int .i64 q, .int .i64 z] 31))
              have HX6 := Lib.hid ((heap_alloc_old w5 (.cells #[.int .u64 g, .int .i64 q, .int .i64 z] 31) (by have := HS5.out; omega)).trans HX5.out)
              have HY6 := Lib.hid ((heap_alloc_old w5 (.cells #[.int .u64 g, .int .i64 q, .int .i64 z] 31) (by have := HS5.out; omega)).trans HY5.out)
              have y6 : ∀ ob, ((w5.alloc ob).cell? ⟨w.heap.size + 1, 0, none⟩ = some (.int .u64 x.g) ∧ (w5.alloc ob).cell? ⟨w.heap.size + 1, 1, none⟩ = some (.int .i64 x.pl) ∧ (w5.alloc ob).cell? ⟨w.heap.size + 1, 2, none⟩ = some (.int .i64 x.sz)) ∧ (w5.alloc ob).frozen? ⟨w.heap.size + 1, 0, none⟩ = false ∧ (w5.alloc ob).frozen? ⟨w.heap.size + 1, 1, none⟩ = false ∧ (w5.alloc ob).frozen? ⟨w.heap.size + 1, 2, none⟩ = false := fun ob =>
                rt_cells ((heap_alloc_old w5 ob (by have := HS5.out; omega)).trans HY5.out)
              go_wp2_with fail
              have k1 := set3 (a := .int .u64 g) (b := .int .i64 q) (c := .int .i64 z) HY6.out
              have k2 := (far3 (W := w5.alloc (.cells #[.int .u64 g, .int .i64 q, .int .i64 z] 31)) (p := w.heap.size + 1) (a := .int .u64 g) (b := .int .i64 q) (c := .int .i64 z) (show w.heap.size ≠ w.heap.size + 1 by omega)).trans HX6.out
              have k3 := below3 (p := w.heap.size + 1) (a := .int .u64 g) (b := .int .i64 q) (c := .int .i64 z) HB6.out (by omega)
              rw [HG'.out, HQ'.out, HZ'.out] at k1 k2 k3 ⊢
              go_roundw
              case rel => exact ⟨2, slotR b 1, true, by omega, rfl, rfl, rst_take1 HST.out HN.out (.inl rfl), k2, k1, k3⟩
              case measure => simp [intOf]
          · have hn : ¬ slotOk b 1 := fun h => hp (hsk.1 h).2
            have hp' : (slotR b 1).g % 2 = 0 := by omega
            clear hE0 hE5 hgk hsk hk hp
            have HC := Lib.hid hc0
            have HN := Lib.hid hn
            clear hc0
            obtain ⟨g, hg'⟩ : ∃ g, g = (slotR b 1).g := ⟨_, rfl⟩
            obtain ⟨q, hq'⟩ : ∃ q, q = (slotR b 1).pl := ⟨_, rfl⟩
            obtain ⟨z, hz'⟩ : ∃ z, z = (slotR b 1).sz := ⟨_, rfl⟩
            rw [← hg', ← hq', ← hz'] at HRV
            rw [← hg'] at hg1 hg2 hp'
            have HG' := Lib.hid hg'
            have HQ' := Lib.hid hq'
            have HZ' := Lib.hid hz'
            clear hg' hq' hz' hn
            go_wp2_with fail
            refine (refLoad_any A' (c - 32) m wr (HRM.out.below HBr.out) HBM.out HCM.out HLM.out).mono ?_
            rintro e w5 ⟨rfl, hb5⟩
            rw [HMR.out, HC.out, HRV.out]
            have HB5 := Lib.hid (HBr.out.trans (hb5.mono HBr.out.size))
            have HX5 := Lib.hid ((hb5.block _ (by omega)).trans HX.out)
            have HY5 := Lib.hid ((hb5.block _ (by omega)).trans HY.out)
            have HS5 := Lib.hid (show w.heap.size + 1 < w5.heap.size by have := hb5.size; omega)
            clear hb5
            have HB6 := Lib.hid (HB5.out.alloc HB5.out.size (.cells #[.int .u64 g, .int .i64 q, .int .i64 z] 31))
            have HX6 := Lib.hid ((heap_alloc_old w5 (.cells #[.int .u64 g, .int .i64 q, .int .i64 z] 31) (by have := HS5.out; omega)).trans HX5.out)
            have HY6 := Lib.hid ((heap_alloc_old w5 (.cells #[.int .u64 g, .int .i64 q, .int .i64 z] 31) (by have := HS5.out; omega)).trans HY5.out)
            have y6 : ∀ ob, ((w5.alloc ob).cell? ⟨w.heap.size + 1, 0, none⟩ = some (.int .u64 x.g) ∧ (w5.alloc ob).cell? ⟨w.heap.size + 1, 1, none⟩ = some (.int .i64 x.pl) ∧ (w5.alloc ob).cell? ⟨w.heap.size + 1, 2, none⟩ = some (.int .i64 x.sz)) ∧ (w5.alloc ob).frozen? ⟨w.heap.size + 1, 0, none⟩ = false ∧ (w5.alloc ob).frozen? ⟨w.heap.size + 1, 1, none⟩ = false ∧ (w5.alloc ob).frozen? ⟨w.heap.size + 1, 2, none⟩ = false := fun ob =>
              rt_cells ((heap_alloc_old w5 ob (by have := HS5.out; omega)).trans HY5.out)
            go_wp2_with fail
            go_roundw
            case rel => exact ⟨2, x, is, by omega, rfl, rfl, rst_skip1 HST.out (.inl HN.out), HX6.out, HY6.out, HB6.out⟩
            case measure => simp [intOf]
        · have hc0 := hE5 hk
          have hn : ¬ slotOk b 1 := fun h => hk (hsk.1 h).1
          clear hE0 hE5 hgk hsk hk
          have HC := Lib.hid hc0
          have HN := Lib.hid hn
          clear hc0 hn
          obtain ⟨g, hg'⟩ : ∃ g, g = (slotR b 1).g := ⟨_, rfl⟩
          obtain ⟨q, hq'⟩ : ∃ q, q = (slotR b 1).pl := ⟨_, rfl⟩
          obtain ⟨z, hz'⟩ : ∃ z, z = (slotR b 1).sz := ⟨_, rfl⟩
          rw [← hg', ← hq', ← hz'] at HRV
          clear hg' hq' hz'
          go_wp2_with fail
          refine (refLoad_any A' (c - 32) m wr (HRM.out.below HBr.out) HBM.out HCM.out HLM.out).mono ?_
          rintro e w5 ⟨rfl, hb5⟩
          rw [HMR.out, HC.out, HRV.out]
          have HB5 := Lib.hid (HBr.out.trans (hb5.mono HBr.out.size))
          have HX5 := Lib.hid ((hb5.block _ (by omega)).trans HX.out)
          have HY5 := Lib.hid ((hb5.block _ (by omega)).trans HY.out)
          have HS5 := Lib.hid (show w.heap.size + 1 < w5.heap.size by have := hb5.size; omega)
          clear hb5
          have HB6 := Lib.hid (HB5.out.alloc HB5.out.size (.cells #[.int .u64 g, .int .i64 q, .int .i64 z] 31))
          have HX6 := Lib.hid ((heap_alloc_old w5 (.cells #[.int .u64 g, .int .i64 q, .int .i64 z] 31) (by have := HS5.out; omega)).trans HX5.out)
          have HY6 := Lib.hid ((heap_alloc_old w5 (.cells #[.int .u64 g, .int .i64 q, .int .i64 z] 31) (by have := HS5.out; omega)).trans HY5.out)
          have y6 : ∀ ob, ((w5.alloc ob).cell? ⟨w.heap.size + 1, 0, none⟩ = some (.int .u64 x.g) ∧ (w5.alloc ob).cell? ⟨w.heap.size + 1, 1, none⟩ = some (.int .i64 x.pl) ∧ (w5.alloc ob).cell? ⟨w.heap.size + 1, 2, none⟩ = some (.int .i64 x.sz)) ∧ (w5.alloc ob).frozen? ⟨w.heap.size + 1, 0, none⟩ = false ∧ (w5.alloc ob).frozen? ⟨w.heap.size + 1, 1, none⟩ = false ∧ (w5.alloc ob).frozen? ⟨w.heap.size + 1, 2, none⟩ = false := fun ob =>
            rt_cells ((heap_alloc_old w5 ob (by have := HS5.out; omega)).trans HY5.out)
          go_wp2_with fail
          go_roundw
          case rel => exact ⟨2, x, is, by omega, rfl, rfl, rst_skip1 HST.out (.inl HN.out), HX6.out, HY6.out, HB6.out⟩
          case measure => simp [intOf]
    · obtain ⟨e1, e2⟩ := HST.out.2.2 rfl
      subst e1 e2
      have HXx := Lib.hid (rt_cells HX.out)
      obtain ⟨⟨p0, p1, p2⟩, f0, f1, f2⟩ := rt_cells HX.out
      obtain ⟨⟨q0, q1, q2⟩, _⟩ := rt_cells HY.out
      go_wp2_with fail
      exact ⟨rfl, _, rbest_res rfl rfl (set3 HX.out), rfl, below3 HBr.out (Nat.le_refl _)⟩
def PlacePost (n : Nat) (r : Rt) (w : World) (e : Ending) (w' : World) : Prop :=
  ∃ v, e = .returned (.tuple #[.int .i64 (if rtOk r then (spA n r : Int) else 0), v, .int .i64 (byE r)]) ∧ Own w' w.heap.size v (if rtOk r then spX n r else []) ∧ Below w.heap.size w w'
theorem place_step (n k t : Nat) (h : k < t - n) : (List.replicate k (0 : Int)) ++ [0] = List.replicate (k + 1) 0 := by rw [List.replicate_succ']
set_option maxRecDepth 100000 in
set_option maxHeartbeats 3200000 in
theorem refPlace_any (n : Nat) (r : Rt) (w : World) (hn : n ≤ 1000000000) (hg : gOk r) :
    Calls Tryd.prog 22 #[.int .i64 n, r.v] w (PlacePost n r w) := by
  have HG := Lib.hid hg
  have HRV := Lib.hid (show r.v = .agg #[.int .u64 r.g, .int .i64 r.pl, .int .i64 r.sz] from rfl)
  have hrv : r.v = .agg #[.int .u64 r.g, .int .i64 r.pl, .int .i64 r.sz] := rfl
  rw [hrv]
  obtain ⟨hg1, hg2⟩ := hg
  clear hrv
  have HX0 := Lib.hid (heap_alloc_new w (.cells #[.int .u64 r.g, .int .i64 r.pl, .int .i64 r.sz] 31))
  have HB0 := Lib.hid ((Below.refl w.heap.size w).alloc (Nat.le_refl _) (.cells #[.int .u64 r.g, .int .i64 r.pl, .int .i64 r.sz] 31))
  go_enter Tryd.func22, Tryd.ntmps22
  go_wp2_with fail
  rw [← HRV.out]
  refine (refBytes_any r _ HG.out).mono ?_
  rintro e w1 ⟨v1, rfl, ho1, hb1⟩
  obtain ⟨A1, c1, rfl, ho1', hr1, _⟩ := own_split ho1
  have HO1 := Lib.hid (own_weaken ho1' HB0.out.size)
  have HR1 := Lib.hid hr1
  obtain ⟨q1, q2⟩ := quiet_chain HB0.out HX0.out hb1
  have HB1 := Lib.hid q1
  have HX1 := Lib.hid q2
  obtain ⟨⟨x0, x1, x2⟩, _⟩ := rt_cells HX1.out
  clear ho1 ho1' hb1 q1 q2 hr1
  by_cases hok : rtOk r
  · have hE : byE r = 0 := by unfold byE; rw [if_pos hok]
    have hbl := byL_length hok
    have HOK := Lib.hid hok
    have HBL := Lib.hid hbl
    have HE := Lib.hid hE
    rw [hE]
    obtain ⟨t, ht⟩ : ∃ t, t = 32 * (r.g % 2).toNat := ⟨_, rfl⟩
    have ht2 : t ≤ 32 := by omega
    have hti : (32 : Int) * (r.g % 2) = (t : Int) := by omega
    have hti2 : r.g % 2 * (32 : Int) = (t : Int) := by omega
    have HTI := Lib.hid ht
    clear hok hE hbl ht
    rcases (by omega : r.g % 2 = 0 ∨ r.g % 2 = 1) with hp | hp
    · rw [hp] at hti hti2
      have htt : (t : Int) = 0 ∨ (t : Int) = 32 := by omega
      clear hti2
      have HTT := Lib.hid htt
      clear htt
      go_wp2_with fail
      clear hp
      go_loopw [9, 10] (fun a v wr => ∃ k : Nat, k ≤ t - n ∧ a = .int .i64 ((t : Int) - k) ∧ Hid (Own wr w1.heap.size v (List.replicate k 0)) ∧ Hid (Below w1.heap.size w1 wr)) (fun a _ _ => (intOf a).toNat)
      case atStart => exact ⟨0, by omega, by first | (simp; done) | (simp; omega), World.ownsRow_nil _ _ _ _, Below.refl _ _⟩
      case round =>
        obtain ⟨k, hk, rfl, HO, HB⟩ := hrel
        by_cases hlt : n + k < t
        · exact absurd hlt (by omega)
        · have hlt2 : ¬ (n : Int) < (t : Int) - (k : Int) := by omega
          have hsa : (spA n r : Int) = (t : Int) - (k : Int) := by unfold spA; rw [← HTI.out]; omega
          have hsx : List.replicate k 0 ++ byL r = spX n r := by unfold spX; rw [← HTI.out, show t - n = k by omega]
          have HSA := Lib.hid hsa
          have HSX := Lib.hid hsx
          clear hsa hsx
          go_wp2_with (at_builtin; refine app w1.heap.size rfl _ _ rfl u10 (List.replicate k 0) (byL r) A1 c1 rfl rfl ?HO ?HR ?hb ?hl ?h)
          case HO => exact HO.out
          case HR => exact HR1.out.below HB.out
          case hb => exact HB.out.size
          case hl => first | (rw [List.length_replicate, HBL.out]; omega) | (rw [HBL.out]; omega)
          intro v2 w2 h1 h2
          have H1 := Lib.hid h1
          have H2 := Lib.hid (HB.out.grown h2 HB.out.size (fun k hk => own_base HO.out k hk))
          clear h1 h2
          go_wp2_with fail
          go_ret3
          refine ⟨v2, by rw [if_pos HOK.out, HE.out, HSA.out]; rfl, ?_, HB1.out.trans (H2.out.mono HB1.out.size)⟩
          rw [if_pos HOK.out, ← HSX.out]
          exact own_weaken H1.out HB1.out.size
    · rw [hp] at hti hti2
      have htt : (t : Int) = 0 ∨ (t : Int) = 32 := by omega
      clear hti2
      have HTT := Lib.hid htt
      clear htt
      go_wp2_with fail
      clear hp
      go_loopw [9, 10] (fun a v wr => ∃ k : Nat, k ≤ t - n ∧ a = .int .i64 ((t : Int) - k) ∧ Hid (Own wr w1.heap.size v (List.replicate k 0)) ∧ Hid (Below w1.heap.size w1 wr)) (fun a _ _ => (intOf a).toNat)
      case atStart => exact ⟨0, by omega, by first | (simp; done) | (simp; omega), World.ownsRow_nil _ _ _ _, Below.refl _ _⟩
      case round =>
        obtain ⟨k, hk, rfl, HO, HB⟩ := hrel
        by_cases hlt : n + k < t
        · have hlt2 : (n : Int) < (t : Int) - (k : Int) := by omega
          go_wp2_with (at_builtin; refine app1 w1.heap.size rfl _ _ rfl u10 (List.replicate k 0) 0 rfl rfl HO.out HB.out.size ?_ ?_)
          · rw [List.length_replicate]; omega
          intro v2 w2 h1 h2
          have H1 := Lib.hid h1
          have H2 := Lib.hid (HB.out.grown h2 HB.out.size (fun k hk => own_base HO.out k hk))
          clear h1 h2
          go_wp2_with fail
          go_roundw
          case rel => exact ⟨k + 1, by omega, by go_num, by rw [List.replicate_succ']; exact H1.out, H2.out⟩
          case measure => simp [intOf]; omega
        · have hlt2 : ¬ (n : Int) < (t : Int) - (k : Int) := by omega
          have hsa : (spA n r : Int) = (t : Int) - (k : Int) := by unfold spA; rw [← HTI.out]; omega
          have hsx : List.replicate k 0 ++ byL r = spX n r := by unfold spX; rw [← HTI.out, show t - n = k by omega]
          have HSA := Lib.hid hsa
          have HSX := Lib.hid hsx
          clear hsa hsx
          go_wp2_with (at_builtin; refine app w1.heap.size rfl _ _ rfl u10 (List.replicate k 0) (byL r) A1 c1 rfl rfl ?HO ?HR ?hb ?hl ?h)
          case HO => exact HO.out
          case HR => exact HR1.out.below HB.out
          case hb => exact HB.out.size
          case hl => first | (rw [List.length_replicate, HBL.out]; omega) | (rw [HBL.out]; omega)
          intro v2 w2 h1 h2
          have H1 := Lib.hid h1
          have H2 := Lib.hid (HB.out.grown h2 HB.out.size (fun k hk => own_base HO.out k hk))
          clear h1 h2
          go_wp2_with fail
          go_ret3
          refine ⟨v2, by rw [if_pos HOK.out, HE.out, HSA.out]; rfl, ?_, HB1.out.trans (H2.out.mono HB1.out.size)⟩
          rw [if_pos HOK.out, ← HSX.out]
          exact own_weaken H1.out HB1.out.size
  · have hE : byE r = 2 := by unfold byE; rw [if_neg hok]
    have HE := Lib.hid hE
    have HOK := Lib.hid hok
    rw [hE]
    clear hE hok
    go_wp2_with fail
    go_ret3
    refine ⟨.slice none 0 0, by rw [if_neg HOK.out, HE.out]; rfl, ?_, HB1.out⟩
    rw [if_neg HOK.out]
    exact World.ownsRow_nil _ _ _ _
end Go.Proofs.YtadmpjikkpnjnaaDoor
