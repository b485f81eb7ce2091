/-
  The document's comparisons. No premise.
  How two coordinates stand: the program's comparison and the document's. No premise.
-/
import Derived.Test.YtfhonfeopkhdeaaBtKS
namespace Go.Proofs.Ytfhonfeopkhdeaa
open Go.RowKit Go.Proofs.YtfhonfeopkhdeaaW.PrintWords

def sgn (n : Int) : Int := if n < 0 then -1 else if 0 < n then 1 else 0
theorem sign_any (n : Int) (w : World) : Calls Try.prog 45 #[.int .i64 n] w fun e w' => e = .returned (.int .i64 (sgn n)) ∧ w' = w := by
  by_cases h1 : n < 0
  · have e : sgn n = -1 := if_pos h1
    rw [e]
    clear e
    go_enter Try.func45, Try.ntmps45
    go_wp2_with fail
    go_ret
    exact ⟨rfl, rfl⟩
  · by_cases h2 : 0 < n
    · have e : sgn n = 1 := by unfold sgn; rw [if_neg h1, if_pos h2]
      rw [e]
      clear e
      go_enter Try.func45, Try.ntmps45
      go_wp2_with fail
      go_ret
      exact ⟨rfl, rfl⟩
    · have e : sgn n = 0 := by unfold sgn; rw [if_neg h1, if_neg h2]
      rw [e]
      clear e
      go_enter Try.func45, Try.ntmps45
      go_wp2_with fail
      go_ret
      exact ⟨rfl, rfl⟩
/-- From a place on, where all ahead is alike. -/
theorem cmpL_step {x y : Int} {a b : List Int} : cmpL (x :: a) (y :: b) = if x < y then -1 else if y < x then 1 else cmpL a b := rfl
theorem cmpL_end (a b : List Int) (h : a = [] ∨ b = []) : cmpL a b = sgn ((a.length : Int) - b.length) := by
  rcases a with _ | ⟨x, a⟩ <;> rcases b with _ | ⟨y, b⟩
  · rfl
  · show (-1 : Int) = _
    unfold sgn
    rw [if_pos (by simp only [List.length_nil, List.length_cons]; omega)]
  · show (1 : Int) = _
    unfold sgn
    rw [if_neg (by simp only [List.length_nil, List.length_cons]; omega), if_pos (by simp only [List.length_nil, List.length_cons]; omega)]
  · rcases h with h | h <;> cases h
set_option maxRecDepth 100000 in
set_option maxHeartbeats 2000000 in
theorem refCmpNames_any (a b : ByteArray) (w : World) (ha : a.size ≤ 9223372036854775807) (hb : b.size ≤ 9223372036854775807) : Calls Try.prog 12 #[.string a, .string b] w fun e w' => e = .returned (.int .i64 (kS a b)) ∧ ∃ m, w' = w.drewN m := by
  go_enter Try.func12, Try.ntmps12
  go_wp2_with fail
  go_loopw [5] (fun t wr => ∃ i : Nat, i ≤ a.size ∧ i ≤ b.size ∧ t = .int .i64 i ∧ Hid (kS a b = cmpL ((byI a).drop i) ((byI b).drop i)) ∧ Hid (∃ m, wr = w.drewN m)) (fun t _ => a.size - (intOf t).toNat)
  case atStart => exact ⟨0, Nat.zero_le _, Nat.zero_le _, rfl, Lib.hid rfl, Lib.hid ⟨0, rfl⟩⟩
  case round =>
    obtain ⟨i, hi1, hi2, rfl, HK, HW⟩ := hrel
    obtain ⟨mm, rfl⟩ := HW.out
    by_cases h : i < a.size ∧ i < b.size
    · obtain ⟨h1, h2⟩ := h
      have e1 := HK.out
      rw [byI_drop a i h1, byI_drop b i h2, cmpL_step] at e1
      have hx : ((a[i]'h1).toNat : Int) = bt a i := bt_at a i (by simpa using h1)
      have hy : ((b[i]'h2).toNat : Int) = bt b i := bt_at b i (by simpa using h2)
      have g1 : (i : Int) < (a.size : Int) := by omega
      have g2 : (i : Int) < (b.size : Int) := by omega
      have HE := Lib.hid e1
      clear e1
      generalize hbx : bt a i = x at hx HE
      generalize hby : bt b i = y at hy HE
      clear hbx hby
      by_cases c1 : x < y
      · have C1 := Lib.hid c1
        have d1 : decide (x < y) = true := decide_eq_true c1
        clear c1
        go_wp2_with fail
        repeat (go_quiet (fail); try go_wp2_with fail)
        go_ret
        rw [HE.out, if_pos C1.out]
        exact ⟨rfl, by first | exact ⟨_, rfl⟩ | exact ⟨_, World.drewN_drewN ..⟩ | exact ⟨_, by rw [World.drewN_drewN, World.drewN_drewN]⟩⟩
      · have C1 := Lib.hid c1
        by_cases c2 : y < x
        · have C2 := Lib.hid c2
          have d1 : decide (x < y) = false := decide_eq_false c1
          have d2 : decide (y < x) = true := decide_eq_true c2
          clear c1 c2
          go_wp2_with fail
          repeat (go_quiet (fail); try go_wp2_with fail)
          go_ret
          rw [HE.out, if_neg (show ¬ x < y from by have := C1.out; omega), if_pos C2.out]
          exact ⟨rfl, by first | exact ⟨_, rfl⟩ | exact ⟨_, World.drewN_drewN ..⟩ | exact ⟨_, by rw [World.drewN_drewN, World.drewN_drewN]⟩⟩
        · have C2 := Lib.hid c2
          have d1 : decide (x < y) = false := decide_eq_false c1
          have d2 : decide (y < x) = false := decide_eq_false c2
          clear c1 c2
          go_wp2_with fail
          repeat (go_quiet (fail); try go_wp2_with fail)
          go_roundw
          case measure => simp [intOf]; omega
          case rel => exact ⟨i + 1, by omega, by omega, by simp, Lib.hid (by rw [HE.out, if_neg (show ¬ x < y from by have := C1.out; omega), if_neg (show ¬ y < x from by have := C2.out; omega)]), Lib.hid (by first | exact ⟨_, rfl⟩ | exact ⟨_, World.drewN_drewN ..⟩ | exact ⟨_, by rw [World.drewN_drewN, World.drewN_drewN]⟩)⟩
    · have hsub : IntKind.i64.wrap ((a.size : Int) - (b.size : Int)) = (a.size : Int) - b.size := by rw [IntKind.wrap_i64]; omega
      have e1 := HK.out
      rw [cmpL_end _ _ (by
        by_cases h1 : i < a.size
        · right
          exact List.drop_eq_nil_of_le (by rw [byI_length]; omega)
        · left
          exact List.drop_eq_nil_of_le (by rw [byI_length]; omega)), List.length_drop, List.length_drop, byI_length, byI_length] at e1
      have e2 : ((a.size - i : Nat) : Int) - ((b.size - i : Nat) : Int) = (a.size : Int) - b.size := by omega
      rw [e2] at e1
      have HE := Lib.hid e1
      clear e1 e2
      by_cases h1 : i < a.size
      · have g1 : (i : Int) < (a.size : Int) := by omega
        have g2 : ¬ (i : Int) < (b.size : Int) := by omega
        go_wp2_with (go_at_call 45; refine (sign_any _ _).mono ?_; rintro e w1 ⟨rfl, e3⟩; rw [e3]; clear e3 w1)
        go_ret
        rw [HE.out]
        exact ⟨rfl, _, rfl⟩
      · have g1 : ¬ (i : Int) < (a.size : Int) := by omega
        go_wp2_with (go_at_call 45; refine (sign_any _ _).mono ?_; rintro e w1 ⟨rfl, e3⟩; rw [e3]; clear e3 w1)
        go_ret
        rw [HE.out]
        exact ⟨rfl, _, rfl⟩
end Go.Proofs.Ytfhonfeopkhdeaa

namespace Go.Proofs.Ytfhonfeopkhdeaa
open Go.RowKit Go.Proofs.YtfhonfeopkhdeaaW.PrintWords

/-- Whole numbers that are read. -/
def RdI (w : World) (A : Option Addr) (l : List Int) : Prop := ReadsInt w .i64 A l.length l
def kC (a b : List Int) : Int := cmpL a b
theorem kC_range (a b : List Int) : kC a b = -1 ∨ kC a b = 0 ∨ kC a b = 1 := cmpL_range _ _
def c3 (x y : Int) : Int := if x < y then -1 else if y < x then 1 else 0
theorem isNaNI_any (a : Int) (w : World) : Calls Try.prog 94 #[.int .i64 a] w fun e w' => e = .returned (.bool false) ∧ w' = w := by
  go_enter Try.func94, Try.ntmps94
  go_wp2
  go_ret
  exact ⟨by simp, rfl⟩
theorem compareI_any (x y : Int) (w : World) : Calls Try.prog 74 #[.int .i64 x, .int .i64 y] w fun e w' => e = .returned (.int .i64 (c3 x y)) ∧ w' = w := by
  by_cases h1 : x < y
  · have e : c3 x y = -1 := if_pos h1
    rw [e]
    clear e
    go_enter Try.func74, Try.ntmps74
    go_wp2_with (go_at_call 94; refine (isNaNI_any _ _).mono ?_; rintro e w' ⟨rfl, e2⟩; rw [e2]; clear e2 w')
    go_ret
    exact ⟨rfl, rfl⟩
  · by_cases h2 : y < x
    · have e : c3 x y = 1 := by unfold c3; rw [if_neg h1, if_pos h2]
      rw [e]
      clear e
      go_enter Try.func74, Try.ntmps74
      go_wp2_with (go_at_call 94; refine (isNaNI_any _ _).mono ?_; rintro e w' ⟨rfl, e2⟩; rw [e2]; clear e2 w')
      go_ret
      exact ⟨rfl, rfl⟩
    · have e : c3 x y = 0 := by unfold c3; rw [if_neg h1, if_neg h2]
      rw [e]
      clear e
      go_enter Try.func74, Try.ntmps74
      go_wp2_with (go_at_call 94; refine (isNaNI_any _ _).mono ?_; rintro e w' ⟨rfl, e2⟩; rw [e2]; clear e2 w')
      go_ret
      exact ⟨rfl, rfl⟩
theorem cmpL_c3 {x y : Int} {a b : List Int} : cmpL (x :: a) (y :: b) = if c3 x y = 0 then cmpL a b else c3 x y := by
  rw [cmpL_step]
  unfold c3
  by_cases h1 : x < y
  · rw [if_pos h1, if_pos h1, if_neg (by decide)]
  · by_cases h2 : y < x
    · rw [if_neg h1, if_pos h2, if_neg h1, if_pos h2, if_neg (by decide)]
    · rw [if_neg h1, if_neg h2, if_neg h1, if_neg h2, if_pos rfl]
theorem drop_d {l : List Int} {i : Nat} (h : i < l.length) : l.drop i = l.getD i 0 :: l.drop (i + 1) := by
  rw [List.drop_eq_getElem_cons h, List.getD_eq_getElem?_getD, List.getElem?_eq_getElem h]
  rfl
set_option maxRecDepth 100000 in
set_option maxHeartbeats 2000000 in
theorem compareC_any (A B : Option Addr) (ca cb : Nat) (a b : List Int) (w : World) (ha : RdI w A a) (hb : RdI w B b) :
    Calls Try.prog 46 #[.slice A a.length ca, .slice B b.length cb] w fun e w' => e = .returned (.int .i64 (kC a b)) ∧ w' = w := by
  have hal : a.length ≤ 9223372036854775807 := ha.2.1
  have HRA := Lib.hid ha
  have HRB := Lib.hid hb
  clear ha hb
  go_enter Try.func46, Try.ntmps46
  go_wp2_with fail
  go_loopw [11] (fun t wr => ∃ i : Nat, i ≤ a.length ∧ i ≤ b.length ∧ t = .int .i64 i ∧ Hid (kC a b = cmpL (a.drop i) (b.drop i)) ∧ Hid (wr = w)) (fun t _ => a.length - (intOf t).toNat)
  case atStart => exact ⟨0, Nat.zero_le _, Nat.zero_le _, rfl, Lib.hid rfl, Lib.hid rfl⟩
  case round =>
    obtain ⟨i, hi1, hi2, rfl, HK, HW⟩ := hrel
    obtain rfl := HW.out
    by_cases h1 : i < a.length
    · have g1 : (i : Int) < (a.length : Int) := by omega
      obtain ⟨ad, rfl, hca⟩ := HRA.out.2.2 (by omega)
      have hc1 := hca i h1
      by_cases h2 : i < b.length
      · have g2 : (i : Int) < (b.length : Int) := by omega
        have g3 : ¬ (b.length : Int) ≤ (i : Int) := by omega
        obtain ⟨bd, rfl, hcb⟩ := HRB.out.2.2 (by omega)
        have hc2 := hcb i h2
        have e1 := HK.out
        rw [drop_d h1, drop_d h2, cmpL_c3] at e1
        have HE := Lib.hid e1
        clear e1 hca hcb
        generalize a.getD i 0 = x at hc1 HE
        generalize b.getD i 0 = y at hc2 HE
        generalize hcc : c3 x y = cc at HE
        have HCC := Lib.hid hcc
        clear hcc
        by_cases hz : cc = 0
        · have e1 := HE.out
          rw [if_pos hz] at e1
          have HE1 := Lib.hid e1
          clear e1 HE
          subst hz
          go_wp2_with (go_at_call 74; refine (compareI_any _ _ _).mono ?_; rintro e w1 ⟨rfl, e3⟩; rw [e3, HCC.out]; clear e3 w1)
          go_roundw
          case measure => simp [intOf]; omega
          case rel => exact ⟨i + 1, by omega, by omega, by simp, HE1, Lib.hid (by trivial)⟩
        · have e1 := HE.out
          rw [if_neg hz] at e1
          have HE1 := Lib.hid e1
          clear e1 HE
          go_wp2_with (go_at_call 74; refine (compareI_any _ _ _).mono ?_; rintro e w1 ⟨rfl, e3⟩; rw [e3, HCC.out]; clear e3 w1)
          go_ret
          rw [HE1.out]
          exact ⟨rfl, rfl⟩
      · have g3 : (b.length : Int) ≤ (i : Int) := by omega
        have e1 := HK.out
        rw [List.drop_eq_nil_of_le (show b.length ≤ i by omega), drop_d h1, show cmpL (a.getD i 0 :: a.drop (i + 1)) [] = 1 from rfl] at e1
        have HE := Lib.hid e1
        clear e1 hca
        go_wp2_with fail
        go_ret
        rw [HE.out]
        exact ⟨rfl, rfl⟩
    · have g1 : ¬ (i : Int) < (a.length : Int) := by omega
      have e1 := HK.out
      rw [List.drop_eq_nil_of_le (show a.length ≤ i by omega)] at e1
      by_cases h2 : a.length < b.length
      · have g2 : (a.length : Int) < (b.length : Int) := by omega
        rw [drop_d (show i < b.length by omega), show cmpL [] (b.getD i 0 :: b.drop (i + 1)) = -1 from rfl] at e1
        have HE := Lib.hid e1
        clear e1
        go_wp2_with fail
        go_ret
        rw [HE.out]
        exact ⟨rfl, rfl⟩
      · have g2 : ¬ (a.length : Int) < (b.length : Int) := by omega
        rw [List.drop_eq_nil_of_le (show b.length ≤ i by omega), show cmpL [] [] = 0 from rfl] at e1
        have HE := Lib.hid e1
        clear e1
        go_wp2_with fail
        go_ret
        rw [HE.out]
        exact ⟨rfl, rfl⟩
theorem cmpCoords_any (A B : Option Addr) (ca cb : Nat) (a b : List Int) (w : World) (ha : RdI w A a) (hb : RdI w B b) :
    Calls Try.prog 13 #[.slice A a.length ca, .slice B b.length cb] w fun e w' => e = .returned (.int .i64 (kC a b)) ∧ w' = w := by
  go_enter Try.func13, Try.ntmps13
  go_wp2_with (go_at_call 46; refine (compareC_any A B ca cb a b _ ha hb).mono ?_; rintro e w' ⟨rfl, e2⟩; rw [e2]; clear e2 w')
  go_ret
  exact ⟨rfl, rfl⟩
set_option maxRecDepth 100000 in
set_option maxHeartbeats 2000000 in
theorem refCmpCoords_any (A B : Option Addr) (ca cb : Nat) (a b : List Int) (w : World) (ha : RdI w A a) (hb : RdI w B b) (hla : a.length ≤ 4000000000000000000) (hlb : b.length ≤ 4000000000000000000) :
    Calls Try.prog 14 #[.slice A a.length ca, .slice B b.length cb] w fun e w' => e = .returned (.int .i64 (kC a b)) ∧ ∃ m, w' = w.drewN m := by
  have HRA := Lib.hid (fun m => (show RdI (w.drewN m) A a from ha))
  have HRB := Lib.hid (fun m => (show RdI (w.drewN m) B b from hb))
  clear ha hb
  go_enter Try.func14, Try.ntmps14
  go_wp2_with fail
  go_loopw [5] (fun t wr => ∃ i : Nat, i ≤ a.length ∧ i ≤ b.length ∧ t = .int .i64 i ∧ Hid (kC a b = cmpL (a.drop i) (b.drop i)) ∧ Hid (∃ m, wr = w.drewN m)) (fun t _ => a.length - (intOf t).toNat)
  case atStart => exact ⟨0, Nat.zero_le _, Nat.zero_le _, rfl, Lib.hid rfl, Lib.hid ⟨0, rfl⟩⟩
  case round =>
    obtain ⟨i, hi1, hi2, rfl, HK, HW⟩ := hrel
    obtain ⟨mm, rfl⟩ := HW.out
    by_cases h : i < a.length ∧ i < b.length
    · obtain ⟨h1, h2⟩ := h
      have e1 := HK.out
      rw [drop_d h1, drop_d h2, cmpL_step] at e1
      obtain ⟨ad, rfl, hca⟩ := (HRA.out 0).2.2 (by omega)
      obtain ⟨bd, rfl, hcb⟩ := (HRB.out 0).2.2 (by omega)
      have hc1 : w.cell? (ad.add i) = _ := hca i h1
      have hc2 : w.cell? (bd.add i) = _ := hcb i h2
      have g1 : (i : Int) < (a.length : Int) := by omega
      have g2 : (i : Int) < (b.length : Int) := by omega
      have HE := Lib.hid e1
      clear e1 hca hcb
      generalize a.getD i 0 = x at hc1 HE
      generalize b.getD i 0 = y at hc2 HE
      by_cases c1 : x < y
      · have C1 := Lib.hid c1
        have d1 : decide (x < y) = true := decide_eq_true c1
        clear c1
        go_wp2_with fail
        repeat (go_quiet (fail); try go_wp2_with fail)
        go_ret
        rw [HE.out, if_pos C1.out]
        exact ⟨rfl, by first | exact ⟨_, rfl⟩ | exact ⟨_, World.drewN_drewN ..⟩ | exact ⟨_, by rw [World.drewN_drewN, World.drewN_drewN]⟩⟩
      · have C1 := Lib.hid c1
        by_cases c2 : y < x
        · have C2 := Lib.hid c2
          have d1 : decide (x < y) = false := decide_eq_false c1
          have d2 : decide (y < x) = true := decide_eq_true c2
          clear c1 c2
          go_wp2_with fail
          repeat (go_quiet (fail); try go_wp2_with fail)
          go_ret
          rw [HE.out, if_neg (show ¬ x < y from by have := C1.out; omega), if_pos C2.out]
          exact ⟨rfl, by first | exact ⟨_, rfl⟩ | exact ⟨_, World.drewN_drewN ..⟩ | exact ⟨_, by rw [World.drewN_drewN, World.drewN_drewN]⟩⟩
        · have C2 := Lib.hid c2
          have d1 : decide (x < y) = false := decide_eq_false c1
          have d2 : decide (y < x) = false := decide_eq_false c2
          clear c1 c2
          go_wp2_with fail
          repeat (go_quiet (fail); try go_wp2_with fail)
          go_roundw
          case measure => simp [intOf]; omega
          case rel => exact ⟨i + 1, by omega, by omega, by simp, Lib.hid (by rw [HE.out, if_neg (show ¬ x < y from by have := C1.out; omega), if_neg (show ¬ y < x from by have := C2.out; omega)]), Lib.hid (by first | exact ⟨_, rfl⟩ | exact ⟨_, World.drewN_drewN ..⟩ | exact ⟨_, by rw [World.drewN_drewN, World.drewN_drewN]⟩)⟩
    · have hsub : IntKind.i64.wrap ((a.length : Int) - (b.length : Int)) = (a.length : Int) - b.length := by rw [IntKind.wrap_i64]; omega
      have e1 := HK.out
      rw [cmpL_end _ _ (by
        by_cases h1 : i < a.length
        · right
          exact List.drop_eq_nil_of_le (by omega)
        · left
          exact List.drop_eq_nil_of_le (by omega)), List.length_drop, List.length_drop] at e1
      have e2 : ((a.length - i : Nat) : Int) - ((b.length - i : Nat) : Int) = (a.length : Int) - b.length := by omega
      rw [e2] at e1
      have HE := Lib.hid e1
      clear e1 e2
      by_cases h1 : i < a.length
      · have g1 : (i : Int) < (a.length : Int) := by omega
        have g2 : ¬ (i : Int) < (b.length : Int) := by omega
        go_wp2_with (go_at_call 45; refine (sign_any _ _).mono ?_; rintro e w1 ⟨rfl, e3⟩; rw [e3]; clear e3 w1)
        go_ret
        rw [HE.out]
        exact ⟨rfl, _, rfl⟩
      · have g1 : ¬ (i : Int) < (a.length : Int) := by omega
        go_wp2_with (go_at_call 45; refine (sign_any _ _).mono ?_; rintro e w1 ⟨rfl, e3⟩; rw [e3]; clear e3 w1)
        go_ret
        rw [HE.out]
        exact ⟨rfl, _, rfl⟩
end Go.Proofs.Ytfhonfeopkhdeaa
