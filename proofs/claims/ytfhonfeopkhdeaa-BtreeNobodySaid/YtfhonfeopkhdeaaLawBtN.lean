/-
  BtreeNobody: the walk. No premise.
-/
import Derived.Test.YtfhonfeopkhdeaaBtL7
namespace Go.Proofs.Ytfhonfeopkhdeaa
open Go.RowKit Go.Proofs.YtfhonfeopkhdeaaW.PrintWords

/-- A tree that is nil, or that no call made. -/
def NoT (w : World) (v : Value) : Prop := v = .pointer none ∨ ∃ p, v = .pointer (some ⟨p, 0, none⟩) ∧ w.cell? ⟨p, 4, none⟩ = some (.pointer none)
theorem no_good (v : Value) (w : World) (h : NoT w v) : Calls Try.prog 47 #[v] w fun e w' => e = .returned (.bool false) ∧ w' = w := by
  rcases h with rfl | ⟨p, rfl, h⟩
  · go_enter Try.func47, Try.ntmps47
    go_wp2_with fail
    go_ret
    exact ⟨rfl, rfl⟩
  · go_enter Try.func47, Try.ntmps47
    go_wp2_with fail
    go_ret
    exact ⟨rfl, rfl⟩
abbrev NoG (v : Value) (w : World) : Prop := Calls Try.prog 47 #[v] w fun e w' => e = .returned (.bool false) ∧ w' = w
theorem no_put (v : Value) (k : ByteArray) (x : Int) (w : World) (h : NoG v w) : Calls Try.prog 22 #[v, .string k, .int .u64 x] w fun e w' => e = .returned (.tuple #[.bool false, .int .i64 1]) ∧ w' = w := by
  go_enter Try.func22, Try.ntmps22
  go_wp2_with (go_at_call 47; refine h.mono ?_; rintro e w' ⟨rfl, e2⟩; rw [e2]; clear e2 w')
  go_ret2
  exact ⟨rfl, rfl⟩
theorem no_get (v : Value) (k : ByteArray) (w : World) (h : NoG v w) : Calls Try.prog 19 #[v, .string k] w fun e w' => e = .returned (.tuple #[.int .u64 0, .bool false]) ∧ w' = w := by
  go_enter Try.func19, Try.ntmps19
  go_wp2_with (go_at_call 47; refine h.mono ?_; rintro e w' ⟨rfl, e2⟩; rw [e2]; clear e2 w')
  go_ret2
  exact ⟨rfl, rfl⟩
theorem no_drop (v : Value) (k : ByteArray) (w : World) (h : NoG v w) : Calls Try.prog 23 #[v, .string k] w fun e w' => e = .returned (.bool false) ∧ w' = w := by
  go_enter Try.func23, Try.ntmps23
  go_wp2_with (go_at_call 19; refine (no_get v k w h).mono ?_; rintro e w' ⟨rfl, e2⟩; rw [e2]; clear e2 w')
  go_ret
  exact ⟨rfl, rfl⟩
theorem no_len (v : Value) (w : World) (h : NoG v w) : Calls Try.prog 20 #[v] w fun e w' => e = .returned (.int .i64 0) ∧ w' = w := by
  go_enter Try.func20, Try.ntmps20
  go_wp2_with (go_at_call 47; refine h.mono ?_; rintro e w' ⟨rfl, e2⟩; rw [e2]; clear e2 w')
  go_ret
  exact ⟨rfl, rfl⟩
theorem no_nodes (v : Value) (w : World) (h : NoG v w) : Calls Try.prog 17 #[v] w fun e w' => e = .returned (.slice none 0 0) ∧ w' = w := by
  go_enter Try.func17, Try.ntmps17
  go_wp2_with (go_at_call 47; refine h.mono ?_; rintro e w' ⟨rfl, e2⟩; rw [e2]; clear e2 w')
  go_ret
  exact ⟨rfl, rfl⟩
theorem NoT.below {w W : World} {v : Value} (h : NoT w v) (hb : Below w.heap.size w W) : NoT W v := by
  rcases h with rfl | ⟨p, rfl, h⟩
  · exact .inl rfl
  · refine .inr ⟨p, rfl, ?_⟩
    rw [World.cell?_of_block (w := w)]
    · exact h
    · refine hb.block p ?_
      by_cases hlt : p < w.heap.size
      · exact hlt
      · rw [World.cell?, Array.getElem?_eq_none (by show w.heap.size ≤ p; omega)] at h
        cases h
set_option maxRecDepth 100000 in
set_option maxHeartbeats 1000000 in
theorem no_keys (q : Option Addr) (w : World) (h : NoT w (.pointer q)) : Calls Try.prog 24 #[.pointer q] w fun e w' => e = .returned (.slice none 0 0) ∧ Below w.heap.size w w' := by
  have hb : ∀ ob, Below w.heap.size w (w.alloc ob) := fun ob => (Below.refl _ _).alloc (Nat.le_refl _) _
  have HG := Lib.hid (no_good (.pointer q) (w.alloc (.cells #[.pointer q] 30)) (h.below (hb _)))
  have HB := Lib.hid hb
  clear h hb
  go_enter Try.func24, Try.ntmps24
  go_wp2_with (go_at_call 47; refine HG.out.mono ?_; rintro e w' ⟨rfl, e2⟩; rw [e2]; clear e2 w')
  go_ret
  exact ⟨rfl, HB.out _⟩
set_option maxRecDepth 100000 in
set_option maxHeartbeats 1000000 in
theorem no_span (q : Option Addr) (a b : ByteArray) (w : World) (h : NoT w (.pointer q)) : Calls Try.prog 29 #[.pointer q, .string a, .string b] w fun e w' => e = .returned (.slice none 0 0) ∧ Below w.heap.size w w' := by
  have hb : Below w.heap.size w (((w.alloc (.cells #[.pointer q] 30)).alloc (.cells #[.string a] 9)).alloc (.cells #[.string b] 9)) := (((Below.refl _ _).alloc (Nat.le_refl _) _).alloc (by simp) _).alloc (by simp; omega) _
  have HG := Lib.hid (no_good (.pointer q) _ (h.below hb))
  have HB := Lib.hid hb
  clear h hb
  go_enter Try.func29, Try.ntmps29
  go_wp2_with (go_at_call 47; refine HG.out.mono ?_; rintro e w' ⟨rfl, e2⟩; rw [e2]; clear e2 w')
  go_ret
  exact ⟨rfl, HB.out⟩
set_option maxRecDepth 100000 in
set_option maxHeartbeats 2000000 in
theorem btreeNobody_walk (k : ByteArray) (x : Int) (w : World) (_hk : k.size ≤ 140737488351232) (_hx : (Lit.int .u64 x).wf = true) :
    Calls Try.prog 9 #[.string k, .int .u64 x] w fun e w' => e = .returned (.bool true) ∧ Below w.heap.size w w' := by
  clear _hk _hx
  have HB0 := fun ob => Lib.hid ((Below.refl w.heap.size w).alloc (Nat.le_refl _) ob)
  have hz : NoT (w.alloc (.cells #[.int .i64 0, .int .i64 0, .nilFunc, .nilFunc, .pointer none] 63)) (.pointer (some ⟨w.heap.size, 0, none⟩)) := .inr ⟨_, rfl, by
    rw [blk_cell (BS.top_blk _ _ _)]
    rfl⟩
  have HZ := Lib.hid hz
  clear hz
  go_enter Try.func9, Try.ntmps9
  go_wp2_with fail
  go_loopw [7] (fun t7 wr => ∃ i : Nat, i ≤ 2 ∧ t7 = .int .i64 i ∧ Hid (Below w.heap.size w wr) ∧ Hid (NoT wr (.pointer (some ⟨w.heap.size, 0, none⟩)))) (fun t7 _ => 2 - (intOf t7).toNat)
  case atStart => exact ⟨0, by omega, rfl, HB0 _, HZ⟩
  case round =>
    obtain ⟨i, hi, rfl, HBW, HNW⟩ := hrel
    rcases (show i = 0 ∨ i = 1 ∨ i = 2 by omega) with rfl | rfl | rfl
    · have HQ : Hid (NoT wr (.pointer none)) := Lib.hid (.inl rfl)
      have HG := Lib.hid (no_good _ wr HQ.out)
      go_wp2_with (first
        | (go_at_call 22; refine (no_put _ _ _ _ HG.out).mono ?_; rintro e w' ⟨rfl, e2⟩; rw [e2]; clear e2 w')
        | (go_at_call 19; refine (no_get _ _ _ HG.out).mono ?_; rintro e w' ⟨rfl, e2⟩; rw [e2]; clear e2 w')
        | (go_at_call 23; refine (no_drop _ _ _ HG.out).mono ?_; rintro e w' ⟨rfl, e2⟩; rw [e2]; clear e2 w')
        | (go_at_call 20; refine (no_len _ _ HG.out).mono ?_; rintro e w' ⟨rfl, e2⟩; rw [e2]; clear e2 w')
        | (go_at_call 24; refine (no_keys _ _ HQ.out).mono ?_; rintro e w1 ⟨rfl, hb1⟩; have HB1 := Lib.hid hb1; have HQ1 := Lib.hid (HQ.out.below hb1); clear hb1)
        | (go_at_call 29; refine (no_span _ _ _ _ HQ1.out).mono ?_; rintro e w2 ⟨rfl, hb2⟩; have HB2 := Lib.hid (HB1.out.trans (hb2.mono HB1.out.size)); have HQ2 := Lib.hid (HQ1.out.below hb2); clear hb2)
        | (go_at_call 17; refine (no_nodes _ _ (no_good _ _ HQ2.out)).mono ?_; rintro e w' ⟨rfl, e2⟩; rw [e2]; clear e2 w'))
      go_roundw
      case measure => simp [intOf]
      case rel => exact ⟨1, by omega, by simp, Lib.hid (HBW.out.trans (HB2.out.mono HBW.out.size)), Lib.hid (HNW.out.below HB2.out)⟩
    · have HQ := HNW
      have HG := Lib.hid (no_good _ wr HQ.out)
      go_wp2_with (first
        | (go_at_call 22; refine (no_put _ _ _ _ HG.out).mono ?_; rintro e w' ⟨rfl, e2⟩; rw [e2]; clear e2 w')
        | (go_at_call 19; refine (no_get _ _ _ HG.out).mono ?_; rintro e w' ⟨rfl, e2⟩; rw [e2]; clear e2 w')
        | (go_at_call 23; refine (no_drop _ _ _ HG.out).mono ?_; rintro e w' ⟨rfl, e2⟩; rw [e2]; clear e2 w')
        | (go_at_call 20; refine (no_len _ _ HG.out).mono ?_; rintro e w' ⟨rfl, e2⟩; rw [e2]; clear e2 w')
        | (go_at_call 24; refine (no_keys _ _ HQ.out).mono ?_; rintro e w1 ⟨rfl, hb1⟩; have HB1 := Lib.hid hb1; have HQ1 := Lib.hid (HQ.out.below hb1); clear hb1)
        | (go_at_call 29; refine (no_span _ _ _ _ HQ1.out).mono ?_; rintro e w2 ⟨rfl, hb2⟩; have HB2 := Lib.hid (HB1.out.trans (hb2.mono HB1.out.size)); have HQ2 := Lib.hid (HQ1.out.below hb2); clear hb2)
        | (go_at_call 17; refine (no_nodes _ _ (no_good _ _ HQ2.out)).mono ?_; rintro e w' ⟨rfl, e2⟩; rw [e2]; clear e2 w'))
      go_roundw
      case measure => simp [intOf]
      case rel => exact ⟨2, by omega, by simp, Lib.hid (HBW.out.trans (HB2.out.mono HBW.out.size)), Lib.hid (HNW.out.below HB2.out)⟩
    · have HLV := Lib.hid (BS.lives07 wr)
      go_wp2_with (go_at_call 15; refine HLV.out.mono ?_; rintro e w3 ⟨rfl, hb3⟩)
      go_ret
      exact ⟨rfl, HBW.out.trans (hb3.mono HBW.out.size)⟩
end Go.Proofs.Ytfhonfeopkhdeaa
