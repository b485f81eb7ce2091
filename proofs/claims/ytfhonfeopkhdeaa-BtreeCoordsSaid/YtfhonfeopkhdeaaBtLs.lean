/-
  Rows of numbers, and rows of such rows, compared; coordinates written over. No premise.
-/
import Derived.Test.YtfhonfeopkhdeaaBtSc
namespace Go.Proofs.Ytfhonfeopkhdeaa.BC
open Go.RowKit Go.Proofs.YtfhonfeopkhdeaaW.PrintWords

/-- Two rows of the same numbers. -/
theorem ints_same (A B : Option Addr) (c d : Nat) (l : List Int) (w : World) (hl : l.length ≤ 17592186044000) (ha : RdI w A l) (hb : RdI w B l) :
    Calls Try.prog 38 #[.slice A l.length c, .slice B l.length d] w fun e w' => e = .returned (.bool true) ∧ ∃ m, w' = w.drewN m := by
  have HA := Lib.hid ha.2.2
  have HB := Lib.hid hb.2.2
  clear ha hb
  go_enter Try.func38, Try.ntmps38
  go_wp2_with fail
  go_loopw [5] (fun t5 wr => ∃ i : Nat, i ≤ l.length ∧ t5 = .int .i64 i ∧ Hid (∃ m, wr = w.drewN m)) (fun t5 _ => l.length - (intOf t5).toNat)
  case atStart => exact ⟨0, Nat.zero_le _, rfl, Lib.hid ⟨0, rfl⟩⟩
  case round =>
    obtain ⟨i, hi, rfl, HW⟩ := hrel
    obtain ⟨m, rfl⟩ := HW.out
    by_cases h : i < l.length
    · have g1 : (i : Int) < (l.length : Int) := by omega
      obtain ⟨ad, rfl, hg⟩ := HA.out (by omega)
      obtain ⟨bd, rfl, hg'⟩ := HB.out (by omega)
      have d1 := hg i h
      have d2 := hg' i h
      generalize l.getD i 0 = k at d1 d2
      clear hg hg'
      go_wp2_with fail
      go_big_quiet (fail)
      go_wp2_with fail
      go_roundw
      case measure => simp [intOf]; omega
      case rel => exact ⟨i + 1, by omega, by simp, Lib.hid (by first | exact ⟨_, rfl⟩ | exact ⟨_, World.drewN_drewN _ _ _⟩)⟩
    · have g1 : decide ((i : Int) < (l.length : Int)) = false := decide_eq_false (by omega)
      go_wp2_with fail
      go_ret
      exact ⟨rfl, HW.out⟩
theorem same_at {K J : List Ck} (h : K.map (·.l) = J.map (·.l)) {i : Nat} (hi : i < K.length) (hj : i < J.length) : (K[i]).l = (J[i]).l := by
  have := congrArg (fun x => x[i]?) h
  simp only [List.getElem?_map, List.getElem?_eq_getElem hi, List.getElem?_eq_getElem hj, Option.map_some] at this
  exact Option.some.inj this
theorem same_len {K J : List Ck} (h : K.map (·.l) = J.map (·.l)) : K.length = J.length := by
  have := congrArg List.length h
  rwa [List.length_map, List.length_map] at this
/-- Two rows of the same coordinates. -/
theorem lists_same (A B : Option Addr) (n c d : Nat) (K J : List Ck) (w : World) (hn : n ≤ 1000000000) (hK : K.length = n) (hKJ : K.map (·.l) = J.map (·.l)) (ha : Rw w 22 (.slice A n c) (ksR K)) (hb : Rw w 22 (.slice B n d) (ksR J)) (hka : ∀ k ∈ K, KRd w k) (hkb : ∀ k ∈ J, KRd w k) :
    Calls Try.prog 40 #[.slice A n c, .slice B n d] w fun e w' => e = .returned (.bool true) ∧ ∃ m, w' = w.drewN m := by
  have hJ : J.length = n := by rw [← same_len hKJ]; exact hK
  have HA := Lib.hid ha
  have HB := Lib.hid hb
  have HE : Hid (∀ i (hi : i < n), ∃ (X Y : Option Addr) (p q : Nat) (l : List Int), ksR K = ksR K ∧ (ksR K)[i]? = some (.slice X l.length p) ∧ (ksR J)[i]? = some (.slice Y l.length q) ∧ ∀ W, (∃ m, W = w.drewN m) → ∀ m, Calls Try.prog 38 #[.slice X l.length p, .slice Y l.length q] (W.drewN m) fun e w' => e = .returned (.bool true) ∧ ∃ m', w' = W.drewN (m + m')) := Lib.hid fun i hi => by
    have h1 : i < K.length := by omega
    have h2 : i < J.length := by omega
    have he := same_at hKJ h1 h2
    refine ⟨K[i].A, J[i].A, K[i].c, J[i].c, K[i].l, rfl, ?_, ?_, ?_⟩
    · rw [ksR, List.getElem?_map, List.getElem?_eq_getElem h1]; rfl
    · rw [ksR, List.getElem?_map, List.getElem?_eq_getElem h2, he]; rfl
    · rintro W ⟨m0, rfl⟩ m
      have r1 := hka _ (List.getElem_mem h1)
      have r2 := (hkb _ (List.getElem_mem h2)).1
      rw [← he] at r2
      exact (ints_same K[i].A J[i].A K[i].c J[i].c K[i].l ((w.drewN m0).drewN m) r1.2 r1.1 r2).mono fun e w' ⟨k1, m', k2⟩ => ⟨k1, m', by rw [k2, World.drewN_drewN]⟩
  have HKl := Lib.hid (show (ksR K).length = n ∧ (ksR J).length = n from ⟨(List.length_map _).trans hK, (List.length_map _).trans hJ⟩)
  clear ha hb hka hkb hKJ hK hJ
  go_enter Try.func40, Try.ntmps40
  go_wp2_with fail
  go_loopw [5] (fun t5 wr => ∃ i : Nat, i ≤ n ∧ t5 = .int .i64 i ∧ Hid (∃ m, wr = w.drewN m)) (fun t5 _ => n - (intOf t5).toNat)
  case atStart => exact ⟨0, Nat.zero_le _, rfl, Lib.hid ⟨0, rfl⟩⟩
  case round =>
    obtain ⟨i, hi, rfl, HW⟩ := hrel
    by_cases h : i < n
    · obtain ⟨m, hm⟩ := HW.out
      have g1 : (i : Int) < (n : Int) := by omega
      obtain ⟨X, Y, p, q, l, -, e1, e2, hc⟩ := HE.out i h
      obtain ⟨g, rfl, hg⟩ := HA.out.cells (by rw [HKl.out.1]; omega)
      obtain ⟨g', rfl, hg'⟩ := HB.out.cells (by rw [HKl.out.2]; omega)
      have d1 : wr.cell? ⟨g, i, none⟩ = some (.slice X l.length p) := by rw [hm]; exact hg i _ e1
      have d2 : wr.cell? ⟨g', i, none⟩ = some (.slice Y l.length q) := by rw [hm]; exact hg' i _ e2
      have HCI := Lib.hid (hc wr ⟨m, hm⟩)
      have HM := Lib.hid hm
      clear hg hg' e1 e2 hc hm HW
      go_wp2_with fail
      go_big_quiet ((go_at_call 38; refine (HCI.out _).mono ?_; rintro _ _ ⟨h1, m1, h2⟩; exact ⟨h1, _, h2⟩))
      go_wp2_with fail
      go_roundw
      case measure => simp [intOf]; omega
      case rel => exact ⟨i + 1, by omega, by simp, Lib.hid (by rw [HM.out]; first | exact ⟨_, rfl⟩ | exact ⟨_, World.drewN_drewN _ _ _⟩)⟩
    · have g1 : decide ((i : Int) < (n : Int)) = false := decide_eq_false (by omega)
      go_wp2_with fail
      go_ret
      exact ⟨rfl, HW.out⟩
end Go.Proofs.Ytfhonfeopkhdeaa.BC
