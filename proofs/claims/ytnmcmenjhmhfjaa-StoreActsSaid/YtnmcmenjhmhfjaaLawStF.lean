/-
  StoreNobody: a file that is nil, or that no call made; the walk. No premise.
-/
import Derived.Test.YtnmcmenjhmhfjaaLawStE
namespace Go.Proofs.Ytnmcmenjhmhfjaa
open Go.RowKit Go.Shelf Go.Proofs.YtnmcmenjhmhfjaaW.PrintWords

/-- What no call made. -/
def NoG (v : Value) (w : World) : Prop := Calls Try.prog 32 #[v] w fun e w' => e = .returned (.bool false) ∧ w = w'
set_option maxHeartbeats 400000 in
theorem no_start (v : Value) (w : World) (hG : NoG v w) : Calls Try.prog 18 #[v] w fun e w' => e = .returned (.tuple #[]) ∧ w = w' := by
  have HG := Lib.hid hG
  clear hG
  go_enter Try.func18, Try.ntmps18
  go_wp2_with (go_at_call 32; refine (show Calls _ _ _ _ _ from HG.out).mono ?_; rintro e w1 ⟨rfl, rfl⟩)
  go_end0
  exact ⟨rfl, rfl⟩
set_option maxHeartbeats 400000 in
theorem no_read (v : Value) (a : Int) (n : Int) (w : World) (hG : NoG v w) : Calls Try.prog 19 #[v, .int .i64 a, .int .i64 n] w fun e w' => e = .returned (.tuple #[.slice none 0 0, .int .i64 1]) ∧ w = w' := by
  have HG := Lib.hid hG
  clear hG
  go_enter Try.func19, Try.ntmps19
  go_wp2_with (go_at_call 32; refine (show Calls _ _ _ _ _ from HG.out).mono ?_; rintro e w1 ⟨rfl, rfl⟩)
  go_ret2
  exact ⟨ret2 rfl, rfl⟩
set_option maxHeartbeats 400000 in
theorem no_write (v : Value) (a : Int) (x : Value) (w : World) (hG : NoG v w) : Calls Try.prog 13 #[v, .int .i64 a, x] w fun e w' => e = .returned (.int .i64 1) ∧ w = w' := by
  have HG := Lib.hid hG
  clear hG
  go_enter Try.func13, Try.ntmps13
  go_wp2_with (go_at_call 32; refine (show Calls _ _ _ _ _ from HG.out).mono ?_; rintro e w1 ⟨rfl, rfl⟩)
  go_ret
  exact ⟨rfl, rfl⟩
set_option maxHeartbeats 400000 in
theorem no_len (v : Value) (w : World) (hG : NoG v w) : Calls Try.prog 20 #[v] w fun e w' => e = .returned (.int .i64 0) ∧ w = w' := by
  have HG := Lib.hid hG
  clear hG
  go_enter Try.func20, Try.ntmps20
  go_wp2_with (go_at_call 32; refine (show Calls _ _ _ _ _ from HG.out).mono ?_; rintro e w1 ⟨rfl, rfl⟩)
  go_ret
  exact ⟨rfl, rfl⟩
set_option maxHeartbeats 400000 in
theorem no_most (v : Value) (w : World) (hG : NoG v w) : Calls Try.prog 24 #[v] w fun e w' => e = .returned (.int .i64 0) ∧ w = w' := by
  have HG := Lib.hid hG
  clear hG
  go_enter Try.func24, Try.ntmps24
  go_wp2_with (go_at_call 32; refine (show Calls _ _ _ _ _ from HG.out).mono ?_; rintro e w1 ⟨rfl, rfl⟩)
  go_ret
  exact ⟨rfl, rfl⟩
set_option maxHeartbeats 400000 in
theorem no_bytes (v : Value) (w : World) (hG : NoG v w) : Calls Try.prog 16 #[v] w fun e w' => e = .returned (.slice none 0 0) ∧ w = w' := by
  have HG := Lib.hid hG
  clear hG
  go_enter Try.func16, Try.ntmps16
  go_wp2_with (go_at_call 32; refine (show Calls _ _ _ _ _ from HG.out).mono ?_; rintro e w1 ⟨rfl, rfl⟩)
  go_ret
  exact ⟨rfl, rfl⟩
set_option maxHeartbeats 400000 in
theorem no_raws (v : Value) (w : World) (hG : NoG v w) : Calls Try.prog 14 #[v] w fun e w' => e = .returned (.slice none 0 0) ∧ w = w' := by
  have HG := Lib.hid hG
  clear hG
  go_enter Try.func14, Try.ntmps14
  go_wp2_with (go_at_call 32; refine (show Calls _ _ _ _ _ from HG.out).mono ?_; rintro e w1 ⟨rfl, rfl⟩)
  go_ret
  exact ⟨rfl, rfl⟩
set_option maxHeartbeats 400000 in
theorem no_cut (v : Value) (n : Int) (w : World) (hG : NoG v w) : Calls Try.prog 12 #[v, .int .i64 n] w fun e w' => e = .returned (.int .i64 1) ∧ w = w' := by
  have HG := Lib.hid hG
  clear hG
  go_enter Try.func12, Try.ntmps12
  go_wp2_with (go_at_call 32; refine (show Calls _ _ _ _ _ from HG.out).mono ?_; rintro e w1 ⟨rfl, rfl⟩)
  go_ret
  exact ⟨rfl, rfl⟩
set_option maxHeartbeats 400000 in
theorem no_on (v : Value) (w : World) (hG : NoG v w) : Calls Try.prog 17 #[v] w fun e w' => e = .returned (.bool false) ∧ w = w' := by
  have HG := Lib.hid hG
  clear hG
  go_enter Try.func17, Try.ntmps17
  go_wp2_with (go_at_call 32; refine (show Calls _ _ _ _ _ from HG.out).mono ?_; rintro e w1 ⟨rfl, rfl⟩)
  go_ret
  exact ⟨rfl, rfl⟩
set_option maxHeartbeats 400000 in
theorem no_copy (v : Value) (w : World) (hG : NoG v w) : Calls Try.prog 26 #[v] w fun e w' => e = .returned (.pointer none) ∧ w = w' := by
  have HG := Lib.hid hG
  clear hG
  go_enter Try.func26, Try.ntmps26
  go_wp2_with (go_at_call 32; refine (show Calls _ _ _ _ _ from HG.out).mono ?_; rintro e w1 ⟨rfl, rfl⟩)
  go_ret
  exact ⟨rfl, rfl⟩
theorem open_act1 {H : Type} {enc : TypeId × Value → H} {W : World} {base : Nat} {held : Bool} {cs : Array Value} {d : DataW H} {ps : List MemPlace}
    (h : DataW.Trod enc Try.prog W base (fun _ => true) held 28 (.agg cs) d ps) : ∃ r : Ac, cs = #[.int .i64 r.kd, .int .i64 r.pl, .int .i64 r.n, .slice r.A r.b.length r.c] ∧ AcOk W r := by
  obtain ⟨fuel, hf⟩ := h
  obtain ⟨r, e, hr⟩ := open_act hf
  refine ⟨r, ?_, hr⟩
  have e' : cs.toList = [.int .i64 r.kd, .int .i64 r.pl, .int .i64 r.n, .slice r.A r.b.length r.c] := e
  exact Array.toList_inj.1 (by simpa using e')
theorem nog_nil (w : World) : NoG (.pointer none) w := good_nil w
theorem nog_zero (p : Nat) (w : World) (h : ZeroA w p) : NoG (.pointer (some ⟨p, 0, none⟩)) w := good_zero p w h
set_option maxRecDepth 100000 in
set_option maxHeartbeats 3200000 in
theorem storeNobody_walk (r : Ac) (w : World) (hr : AcOk w r) :
    Calls Try.prog 9 #[.agg #[.int .i64 r.kd, .int .i64 r.pl, .int .i64 r.n, .slice r.A r.b.length r.c]] w fun e w' => e = .returned (.bool true) ∧ Below w.heap.size w w' := by
  obtain ⟨kd, pl, n, RA, x, rc⟩ := r
  clear hr
  obtain ⟨m, hm⟩ : ∃ m, m = x.length := ⟨_, rfl⟩
  have HM := Lib.hid hm
  simp only
  rw [← hm]
  clear hm
  go_enter Try.func9, Try.ntmps9
  go_wp2_with fail
  go_loopw [5] (fun t wr => ∃ i : Nat, i ≤ 2 ∧ t = .int .i64 i ∧ wr = (w.alloc (.cells #[.int .i64 kd, .int .i64 pl, .int .i64 n, .slice RA m rc] 28)).alloc (.cells #[.bool false, .slice none 0 0, .int .i64 0, .bool false, .int .i64 0, .slice none 0 0] 58)) (fun t _ => 2 - (intOf t).toNat)
  case atStart => exact ⟨0, by omega, rfl, rfl⟩
  case round =>
    obtain ⟨i, hi, rfl, rfl⟩ := hrel
    obtain ⟨W, hW⟩ : ∃ W, W = (w.alloc (.cells #[.int .i64 kd, .int .i64 pl, .int .i64 n, .slice RA m rc] 28)).alloc (.cells #[.bool false, .slice none 0 0, .int .i64 0, .bool false, .int .i64 0, .slice none 0 0] 58) := ⟨_, rfl⟩
    have hc1 : W.cell? ⟨w.heap.size, 1, none⟩ = some (.int .i64 pl) := by rw [hW]; go_simp
    have hc2 : W.cell? ⟨w.heap.size, 2, none⟩ = some (.int .i64 n) := by rw [hW]; go_simp
    have hc3 : W.cell? ⟨w.heap.size, 3, none⟩ = some (.slice RA m rc) := by rw [hW]; go_simp
    have HGN := Lib.hid (nog_nil W)
    have HGZ := Lib.hid (nog_zero (w.heap.size + 1) W ⟨#[.bool false, .slice none 0 0, .int .i64 0, .bool false, .int .i64 0, .slice none 0 0], by rw [hW]; show ((w.heap.push _).push _)[w.heap.size + 1]? = some _; rw [Array.getElem?_push, Array.size_push, if_pos rfl], rfl⟩)
    have HB := Lib.hid (show Below w.heap.size w W by rw [hW]; exact ((Below.refl _ _).alloc (Nat.le_refl _) _).alloc (by simp) _)
    have HW := Lib.hid hW
    obtain ⟨q, hq⟩ : ∃ q, q = w.heap.size := ⟨_, rfl⟩
    rw [← hW]
    rw [← hq] at hc1 hc2 hc3 HGZ ⊢
    clear hW hq
    by_cases h2 : i = 2
    · subst h2
      go_wp2_with (go_at_call 11; refine (lives03 _).mono ?_; rintro e w1 ⟨rfl, hb1⟩)
      go_ret
      exact ⟨rfl, HB.out.trans (hb1.mono HB.out.size)⟩
    by_cases h0 : i = 0
    · subst h0
      go_wp2_with (first | (go_at_call 18; refine (no_start _ _ HGN.out).mono ?_; rintro e w1 ⟨rfl, rfl⟩) | (go_at_call 19; refine (no_read _ _ _ _ HGN.out).mono ?_; rintro e w1 ⟨rfl, rfl⟩) | (go_at_call 13; refine (no_write _ _ _ _ HGN.out).mono ?_; rintro e w1 ⟨rfl, rfl⟩) | (go_at_call 20; refine (no_len _ _ HGN.out).mono ?_; rintro e w1 ⟨rfl, rfl⟩) | (go_at_call 24; refine (no_most _ _ HGN.out).mono ?_; rintro e w1 ⟨rfl, rfl⟩) | (go_at_call 16; refine (no_bytes _ _ HGN.out).mono ?_; rintro e w1 ⟨rfl, rfl⟩) | (go_at_call 14; refine (no_raws _ _ HGN.out).mono ?_; rintro e w1 ⟨rfl, rfl⟩) | (go_at_call 12; refine (no_cut _ _ _ HGN.out).mono ?_; rintro e w1 ⟨rfl, rfl⟩) | (go_at_call 17; refine (no_on _ _ HGN.out).mono ?_; rintro e w1 ⟨rfl, rfl⟩) | (go_at_call 26; refine (no_copy _ _ HGN.out).mono ?_; rintro e w1 ⟨rfl, rfl⟩))
      go_roundw
      case rel => exact ⟨1, by omega, rfl, trivial⟩
      case measure => simp [intOf]
    · have h1 : i = 1 := by omega
      subst h1
      go_wp2_with (first | (go_at_call 18; refine (no_start _ _ HGZ.out).mono ?_; rintro e w1 ⟨rfl, rfl⟩) | (go_at_call 19; refine (no_read _ _ _ _ HGZ.out).mono ?_; rintro e w1 ⟨rfl, rfl⟩) | (go_at_call 13; refine (no_write _ _ _ _ HGZ.out).mono ?_; rintro e w1 ⟨rfl, rfl⟩) | (go_at_call 20; refine (no_len _ _ HGZ.out).mono ?_; rintro e w1 ⟨rfl, rfl⟩) | (go_at_call 24; refine (no_most _ _ HGZ.out).mono ?_; rintro e w1 ⟨rfl, rfl⟩) | (go_at_call 16; refine (no_bytes _ _ HGZ.out).mono ?_; rintro e w1 ⟨rfl, rfl⟩) | (go_at_call 14; refine (no_raws _ _ HGZ.out).mono ?_; rintro e w1 ⟨rfl, rfl⟩) | (go_at_call 12; refine (no_cut _ _ _ HGZ.out).mono ?_; rintro e w1 ⟨rfl, rfl⟩) | (go_at_call 17; refine (no_on _ _ HGZ.out).mono ?_; rintro e w1 ⟨rfl, rfl⟩) | (go_at_call 26; refine (no_copy _ _ HGZ.out).mono ?_; rintro e w1 ⟨rfl, rfl⟩))
      go_roundw
      case rel => exact ⟨2, by omega, rfl, trivial⟩
      case measure => simp [intOf]
end Go.Proofs.Ytnmcmenjhmhfjaa
