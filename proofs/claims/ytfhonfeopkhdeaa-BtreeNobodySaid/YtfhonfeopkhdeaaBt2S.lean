/-
  Where a key is in a row of keys in order: slices.BinarySearchFunc, find. No premise.
-/
import Derived.Test.YtfhonfeopkhdeaaBtKS
import Derived.Test.YtfhonfeopkhdeaaBtA
import Derived.Deep.QuietTactic
import Derived.BigQuiet
namespace Go.Proofs.Ytfhonfeopkhdeaa.BS
open Go.RowKit Go.Proofs.YtfhonfeopkhdeaaW.PrintWords

def ksV (l : List (Ky × Int)) : List Value := l.map fun a => kv a.1
theorem ksV_length (l : List (Ky × Int)) : (ksV l).length = l.length := List.length_map _
theorem ks_cell {w : World} {c g : Nat} {l : List (Ky × Int)} (h : Rw w 9 (.slice (some ⟨g, 0, none⟩) l.length c) (ksV l)) {j : Nat} (hj : j < l.length) : w.cell? ⟨g, j, none⟩ = some (kv (l[j]).1) ∧ w.frozen? ⟨g, j, none⟩ = false := by
  have h1 := h.cell (j := j) (by rw [ksV_length]; exact hj)
  simpa [ksV] using h1
/-- What find answers. -/
def FindP (l : List (Ky × Int)) (k : Ky) (w : World) (e : Ending) (w' : World) : Prop :=
  ∃ (i : Nat) (is : Bool), e = .returned (.tuple #[.int .i64 i, .bool is]) ∧ At kct l k i is ∧ ∃ m, w' = w.drewN m
set_option maxRecDepth 100000 in
set_option maxHeartbeats 1000000 in
theorem search_any (A : Option Addr) (c : Nat) (l : List (Ky × Int)) (k : Ky) (w : World) (hr : Rw w 9 (.slice A l.length c) (ksV l)) (hl : l.length ≤ 1000000) (hs : SortedL kct l) (hk : KRd w k) (hkl : ∀ a ∈ l, KRd w a.1) :
    Calls Try.prog 75 #[.slice A l.length c, kv k, .func (.func 11) #[] #[]] w (FindP l k w) := by
  have HR := Lib.hid hr
  have HS := Lib.hid hs
  clear hr hs
  go_enter Try.func75, Try.ntmps75
  go_wp2_with fail
  go_loopw [9, 10] (fun t9 t10 wr => ∃ i j : Nat, i ≤ j ∧ j ≤ l.length ∧ t9 = .int .i64 i ∧ t10 = .int .i64 j ∧ Hid (∀ q (hq : q < l.length), q < i → kk (l[q]).1 k < 0) ∧ Hid (∀ q (hq : q < l.length), j ≤ q → 0 ≤ kk (l[q]).1 k) ∧ Hid (∃ m, wr = w.drewN m)) (fun t9 t10 _ => (intOf t10).toNat - (intOf t9).toNat)
  case atStart => exact ⟨0, l.length, by omega, by omega, rfl, rfl, Lib.hid (fun q hq h => by omega), Lib.hid (fun q hq h => by omega), Lib.hid ⟨0, rfl⟩⟩
  case round =>
    obtain ⟨i, j, hij, hj, rfl, rfl, H1, H2, HW⟩ := hrel
    obtain ⟨m, rfl⟩ := HW.out
    by_cases h : i < j
    · have hu := mid_u i j (by omega) (by omega)
      obtain ⟨q, hq⟩ : ∃ q : Nat, q = (i + j) / 2 := ⟨_, rfl⟩
      have hq1 : q < l.length := by omega
      have hq2 : ((i : Int) + j) / 2 = (q : Int) := by omega
      have hq3 : i ≤ q := by omega
      have hq4 : q < j := by omega
      have hq0 : (q : Int) < (l.length : Int) := by omega
      clear hq
      obtain ⟨g, rfl⟩ : ∃ g, A = some ⟨g, 0, none⟩ := by
        obtain ⟨g, e, _⟩ := HR.out.cells (by rw [ksV_length]; omega)
        exact ⟨g, e⟩
      obtain ⟨hc1, hc2⟩ := ks_cell HR.out hq1
      have HSL := Lib.hid (fun (x : Nat) (hx : x < l.length) => sorted_lt HS.out (k := k) hx hq1)
      have HSG := Lib.hid (fun (x : Nat) (hx : x < l.length) => sorted_lt HS.out (k := k) hq1 hx)
      have hrg := kk_range (l[q]).1 k
      have HK := Lib.hid (show kk (l[q]).1 k = kc kct (l[q]).1 k from rfl)
      generalize hkey : (l[q]).1 = key at hc1 hrg HK HSL HSG
      clear hkey
      rw [← HK.out] at HSL HSG
      clear HK
      generalize hcc : kk key k = cc at hrg HSL HSG
      have HCC := Lib.hid hcc
      clear hcc
      rcases hrg with rfl | rfl | rfl
      all_goals
        go_wp2_with (go_at_call 11; refine (kcmp_any _ _ _ (by assumption) (by assumption)).mono ?_; rintro e w' ⟨rfl, rfl⟩; rw [HCC.out])
        go_roundw
        case measure => simp [intOf]; omega
      case rel => exact ⟨q + 1, j, by omega, hj, by simp, rfl, Lib.hid (fun x hx hxq => (HSL.out x hx (by omega)).1 (by omega)), H2, Lib.hid ⟨m, rfl⟩⟩
      case rel => exact ⟨i, q, by omega, by omega, rfl, rfl, H1, Lib.hid (fun x hx hxq => (HSG.out x hx (by omega)).2 (by omega)), Lib.hid ⟨m, rfl⟩⟩
      case rel => exact ⟨i, q, by omega, by omega, rfl, rfl, H1, Lib.hid (fun x hx hxq => (HSG.out x hx (by omega)).2 (by omega)), Lib.hid ⟨m, rfl⟩⟩
    · have hij2 : i = j := by omega
      subst hij2
      by_cases he : i < l.length
      · have hi0 : (i : Int) < (l.length : Int) := by omega
        obtain ⟨g, rfl⟩ : ∃ g, A = some ⟨g, 0, none⟩ := by
          obtain ⟨g, e, _⟩ := HR.out.cells (by rw [ksV_length]; omega)
          exact ⟨g, e⟩
        obtain ⟨hc1, hc2⟩ := ks_cell HR.out he
        go_wp2_with (go_at_call 11; refine (kcmp_any _ _ _ (by assumption) (by assumption)).mono ?_; rintro e w' ⟨rfl, rfl⟩)
        go_ret2
        refine ⟨i, _, rfl, at_of HS.out i (by omega) (fun x hx hxi => H1.out x hx hxi) (fun hx => H2.out i hx (by omega)) _ (fun hx => ?_) (fun e => by omega), m, rfl⟩
        show _ = decide (kk (l[i]).1 k = 0)
        by_cases h0 : kk (l[i]).1 k = 0 <;> simp [h0]
      · go_wp2_with fail
        go_ret2
        exact ⟨i, false, rfl, at_of HS.out i (by omega) (fun x hx hxi => H1.out x hx hxi) (fun hx => absurd hx he) _ (fun hx => absurd hx he) (fun _ => rfl), m, rfl⟩
end Go.Proofs.Ytfhonfeopkhdeaa.BS
