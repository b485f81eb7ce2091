/-
  The document's comparisons. No premise.
-/
import Derived.Test.YtfhonfeopkhdeaaBtKS
namespace Go.Proofs.Ytfhonfeopkhdeaa
open Go.RowKit Go.Proofs.YtfhonfeopkhdeaaW.PrintWords

def sgn (n : Int) : Int := if n < 0 then -1 else if 0 < n then 1 else 0
theorem sign_any (n : Int) (w : World) : Calls Try.prog 45 #[.int .i64 n] w fun e w' => e = .returned (.int .i64 (sgn n)) ∧ w' = w := by
  by_cases h1 : n < 0
  · have e : sgn n = -1 := if_pos h1
    rw [e]
    clear e
    go_enter Try.func45, Try.ntmps45
    go_wp2_with fail
    go_ret
    exact ⟨rfl, rfl⟩
  · by_cases h2 : 0 < n
    · have e : sgn n = 1 := by unfold sgn; rw [if_neg h1, if_pos h2]
      rw [e]
      clear e
      go_enter Try.func45, Try.ntmps45
      go_wp2_with fail
      go_ret
      exact ⟨rfl, rfl⟩
    · have e : sgn n = 0 := by unfold sgn; rw [if_neg h1, if_neg h2]
      rw [e]
      clear e
      go_enter Try.func45, Try.ntmps45
      go_wp2_with fail
      go_ret
      exact ⟨rfl, rfl⟩
/-- From a place on, where all ahead is alike. -/
theorem cmpL_step {x y : Int} {a b : List Int} : cmpL (x :: a) (y :: b) = if x < y then -1 else if y < x then 1 else cmpL a b := rfl
theorem cmpL_end (a b : List Int) (h : a = [] ∨ b = []) : cmpL a b = sgn ((a.length : Int) - b.length) := by
  rcases a with _ | ⟨x, a⟩ <;> rcases b with _ | ⟨y, b⟩
  · rfl
  · show (-1 : Int) = _
    unfold sgn
    rw [if_pos (by simp only [List.length_nil, List.length_cons]; omega)]
  · show (1 : Int) = _
    unfold sgn
    rw [if_neg (by simp only [List.length_nil, List.length_cons]; omega), if_pos (by simp only [List.length_nil, List.length_cons]; omega)]
  · rcases h with h | h <;> cases h
set_option maxRecDepth 100000 in
set_option maxHeartbeats 2000000 in
theorem refCmpNames_any (a b : ByteArray) (w : World) (ha : a.size ≤ 4000000000000000000) (hb : b.size ≤ 4000000000000000000) : Calls Try.prog 12 #[.string a, .string b] w fun e w' => e = .returned (.int .i64 (kS a b)) ∧ ∃ m, w' = w.drewN m := by
  go_enter Try.func12, Try.ntmps12
  go_wp2_with fail
  go_loopw [5] (fun t wr => ∃ i : Nat, i ≤ a.size ∧ i ≤ b.size ∧ t = .int .i64 i ∧ Hid (kS a b = cmpL ((byI a).drop i) ((byI b).drop i)) ∧ Hid (∃ m, wr = w.drewN m)) (fun t _ => a.size - (intOf t).toNat)
  case atStart => exact ⟨0, Nat.zero_le _, Nat.zero_le _, rfl, Lib.hid rfl, Lib.hid ⟨0, rfl⟩⟩
  case round =>
    obtain ⟨i, hi1, hi2, rfl, HK, HW⟩ := hrel
    obtain ⟨mm, rfl⟩ := HW.out
    by_cases h : i < a.size ∧ i < b.size
    · obtain ⟨h1, h2⟩ := h
      have e1 := HK.out
      rw [byI_drop a i h1, byI_drop b i h2, cmpL_step] at e1
      have hx : ((a[i]'h1).toNat : Int) = bt a i := bt_at a i (by simpa using h1)
      have hy : ((b[i]'h2).toNat : Int) = bt b i := bt_at b i (by simpa using h2)
      have g1 : (i : Int) < (a.size : Int) := by omega
      have g2 : (i : Int) < (b.size : Int) := by omega
      have HE := Lib.hid e1
      clear e1
      generalize hbx : bt a i = x at hx HE
      generalize hby : bt b i = y at hy HE
      clear hbx hby
      by_cases c1 : x < y
      · have C1 := Lib.hid c1
        have d1 : decide (x < y) = true := decide_eq_true c1
        clear c1
        go_wp2_with fail
        repeat (go_quiet (fail); try go_wp2_with fail)
        go_ret
        rw [HE.out, if_pos C1.out]
        exact ⟨rfl, by first | exact ⟨_, rfl⟩ | exact ⟨_, World.drewN_drewN ..⟩ | exact ⟨_, by rw [World.drewN_drewN, World.drewN_drewN]⟩⟩
      · have C1 := Lib.hid c1
        by_cases c2 : y < x
        · have C2 := Lib.hid c2
          have d1 : decide (x < y) = false := decide_eq_false c1
          have d2 : decide (y < x) = true := decide_eq_true c2
          clear c1 c2
          go_wp2_with fail
          repeat (go_quiet (fail); try go_wp2_with fail)
          go_ret
          rw [HE.out, if_neg (show ¬ x < y from by have := C1.out; omega), if_pos C2.out]
          exact ⟨rfl, by first | exact ⟨_, rfl⟩ | exact ⟨_, World.drewN_drewN ..⟩ | exact ⟨_, by rw [World.drewN_drewN, World.drewN_drewN]⟩⟩
        · have C2 := Lib.hid c2
          have d1 : decide (x < y) = false := decide_eq_false c1
          have d2 : decide (y < x) = false := decide_eq_false c2
          clear c1 c2
          go_wp2_with fail
          repeat (go_quiet (fail); try go_wp2_with fail)
          go_roundw
          case measure => simp [intOf]; omega
          case rel => exact ⟨i + 1, by omega, by omega, by simp, Lib.hid (by rw [HE.out, if_neg (show ¬ x < y from by have := C1.out; omega), if_neg (show ¬ y < x from by have := C2.out; omega)]), Lib.hid (by first | exact ⟨_, rfl⟩ | exact ⟨_, World.drewN_drewN ..⟩ | exact ⟨_, by rw [World.drewN_drewN, World.drewN_drewN]⟩)⟩
    · have hsub : IntKind.i64.wrap ((a.size : Int) - (b.size : Int)) = (a.size : Int) - b.size := by rw [IntKind.wrap_i64]; omega
      have e1 := HK.out
      rw [cmpL_end _ _ (by
        by_cases h1 : i < a.size
        · right
          exact List.drop_eq_nil_of_le (by rw [byI_length]; omega)
        · left
          exact List.drop_eq_nil_of_le (by rw [byI_length]; omega)), List.length_drop, List.length_drop, byI_length, byI_length] at e1
      have e2 : ((a.size - i : Nat) : Int) - ((b.size - i : Nat) : Int) = (a.size : Int) - b.size := by omega
      rw [e2] at e1
      have HE := Lib.hid e1
      clear e1 e2
      by_cases h1 : i < a.size
      · have g1 : (i : Int) < (a.size : Int) := by omega
        have g2 : ¬ (i : Int) < (b.size : Int) := by omega
        go_wp2_with (go_at_call 45; refine (sign_any _ _).mono ?_; rintro e w1 ⟨rfl, e3⟩; rw [e3]; clear e3 w1)
        go_ret
        rw [HE.out]
        exact ⟨rfl, _, rfl⟩
      · have g1 : ¬ (i : Int) < (a.size : Int) := by omega
        go_wp2_with (go_at_call 45; refine (sign_any _ _).mono ?_; rintro e w1 ⟨rfl, e3⟩; rw [e3]; clear e3 w1)
        go_ret
        rw [HE.out]
        exact ⟨rfl, _, rfl⟩
end Go.Proofs.Ytfhonfeopkhdeaa
