/-
  MatchShort, MatchMost, MatchBack, MatchAlike, MatchTwice: the walks. No premise.
-/
import Derived.Test.YtenikeldjgpgmaaLive15
import Derived.Test.YtenikeldjgpgmaaMaL
import Derived.Test.YtenikeldjgpgmaaFillP
import Derived.Test.YtenikeldjgpgmaaWfL
namespace Go.Proofs.Ytenikeldjgpgmaa
open Go.RowKit Go.Proofs.YtenikeldjgpgmaaW.PrintWords

set_option maxRecDepth 100000 in
set_option maxHeartbeats 1600000 in
theorem matchShort_walk (A : Option Addr) (c : Nat) (l : List Int) (w : World) (hr : ReadsInt w .u8 A l.length l) (hw : ∀ x ∈ l, (Lit.int .u8 x).wf = true) (hc : l.length ≤ c) (hy : l.length * 1 ≤ 140737488351232) :
    Calls Try.prog 6 #[.slice A l.length c] w fun e w' => e = .returned (.bool true) ∧ Below w.heap.size w w' := by
  have HR := Lib.hid (show Rd w A l from hr)
  clear hr hw
  by_cases hbig : 10000 < l.length
  · go_enter Try.func6, Try.ntmps6
    go_wp2_with (go_at_call 17; refine (lives15 _).mono ?_; rintro e w1 ⟨rfl, hb1⟩)
    go_ret
    exact ⟨rfl, hb1⟩
  · obtain ⟨h1, h2, h3⟩ := pk_len l (by omega)
    have HE := Lib.hid h1
    obtain ⟨X, hX⟩ : ∃ X, X = pkL l := ⟨_, rfl⟩
    rw [← hX] at h2 h3
    have HX := Lib.hid hX
    clear h1 hX
    go_enter Try.func6, Try.ntmps6
    go_wp2_with fail
    refine (pack_any A c l w HR.out hc (by omega)).mono ?_
    rintro e w1 ⟨v, rfl, ho, hb⟩
    rw [HE.out]
    rw [← HX.out] at ho
    obtain ⟨A1, c1, rfl, _, _, _⟩ := own_split ho
    have HB1 := Lib.hid hb
    clear ho hb
    go_wp2_with (go_at_call 17; refine (lives15 _).mono ?_; rintro e w2 ⟨rfl, hb2⟩)
    go_ret
    exact ⟨rfl, HB1.out.trans (hb2.mono HB1.out.size)⟩

set_option maxRecDepth 100000 in
set_option maxHeartbeats 1600000 in
theorem matchMost_walk (A : Option Addr) (c : Nat) (l : List Int) (n0 : Int) (w : World) (hr : ReadsInt w .u8 A l.length l) (hw : ∀ x ∈ l, (Lit.int .u8 x).wf = true) (hc : l.length ≤ c) (hy : l.length * 1 ≤ 140737488351232) (hwn : (Lit.int .u64 n0).wf = true) :
    Calls Try.prog 9 #[.slice A l.length c, .int .u64 n0] w fun e w' => e = .returned (.bool true) ∧ Below w.heap.size w w' := by
  have HR := Lib.hid (show Rd w A l from hr)
  have HBt := Lib.hid (wf_bts' hw)
  obtain ⟨hn0, hn1⟩ := wf_u64' hwn
  obtain ⟨m, hm1, hm2⟩ : ∃ m : Int, n0 % 65537 = m ∧ 0 ≤ m ∧ m < 65537 := ⟨_, rfl, by omega⟩
  obtain ⟨h0, hm8⟩ := hm2
  have hm3 : n0.tmod 65537 = m := by rw [Int.tmod_eq_emod_of_nonneg hn0]; exact hm1
  have hm := upk_most l m h0
  obtain ⟨X, hX⟩ : ∃ X, X = (upk l m).1 := ⟨_, rfl⟩
  obtain ⟨E, hE⟩ : ∃ E, E = (upk l m).2 := ⟨_, rfl⟩
  have hE5 : E = 0 ∨ (X = [] ∧ (E = 3 ∨ E = 5)) := by
    rw [hE, hX]
    refine hm.2.imp id (fun h => ⟨h.1, ?_⟩)
    rcases h.2 with h2 | h2
    · exfalso
      have : ¬ (m < 0 ∨ 65536 < m) := by omega
      unfold upk at h2
      rw [if_neg this] at h2
      split at h2
      · cases h2
      split at h2
      · split at h2
        · cases h2
        · cases h2
      · have h3 := (un_most m (l.drop 1).length [] (l.drop 1) (by simp; omega)).2
        have h2' : (un m (l.drop 1).length [] (l.drop 1)).2 = 2 := h2
        rcases h3 with h3 | ⟨_, h3 | h3⟩
        · rw [h3] at h2'; cases h2'
        · rw [h3] at h2'; cases h2'
        · rw [h3] at h2'; cases h2'
    · exact h2
  have hXm : (X.length : Int) ≤ m := by rw [hX]; exact hm.1
  have HX := Lib.hid hX
  have HE := Lib.hid hE
  clear hm hX hE hr hw hwn hm1
  rcases hE5 with rfl | ⟨rfl, rfl | rfl⟩
  all_goals
    go_enter Try.func9, Try.ntmps9
    go_wp2_with fail
    refine (unpack_any A c l m w HR.out HBt.out hc (by omega)).mono ?_
    rintro e w1 ⟨v, rfl, ho, hb⟩
    rw [← HE.out]
    rw [← HX.out] at ho
    obtain ⟨A1, c1, rfl, _, _, _⟩ := own_split ho
    have HB1 := Lib.hid hb
    clear ho hb
    go_wp2_with (go_at_call 17; refine (lives15 _).mono ?_; rintro e w2 ⟨rfl, hb2⟩)
    go_ret
    exact ⟨rfl, HB1.out.trans (hb2.mono HB1.out.size)⟩

set_option maxRecDepth 100000 in
set_option maxHeartbeats 1600000 in
theorem matchTwice_walk (A : Option Addr) (c : Nat) (l : List Int) (w : World) (hr : ReadsInt w .u8 A l.length l) (hw : ∀ x ∈ l, (Lit.int .u8 x).wf = true) (hc : l.length ≤ c) (hy : l.length * 1 ≤ 140737488351232) :
    Calls Try.prog 8 #[.slice A l.length c] w fun e w' => e = .returned (.bool true) ∧ Below w.heap.size w w' := by
  have HR := Lib.hid (show Rd w A l from hr)
  clear hr hw
  by_cases hs : l.length < 10
  · go_enter Try.func8, Try.ntmps8
    go_wp2_with (go_at_call 17; refine (lives15 _).mono ?_; rintro e w1 ⟨rfl, hb1⟩)
    go_ret
    exact ⟨rfl, hb1⟩
  by_cases hbig : 131 < l.length
  · go_enter Try.func8, Try.ntmps8
    go_wp2_with (go_at_call 17; refine (lives15 _).mono ?_; rintro e w1 ⟨rfl, hb1⟩)
    go_ret
    exact ⟨rfl, hb1⟩
  have hll : (l ++ l).length = l.length + l.length := List.length_append
  obtain ⟨h1, h2, _⟩ := pk_len (l ++ l) (by omega)
  have h3 := pk_twice l (by omega) (by omega)
  have HE := Lib.hid h1
  obtain ⟨X, hX⟩ : ∃ X, X = pkL (l ++ l) := ⟨_, rfl⟩
  rw [← hX] at h2 h3
  have HX := Lib.hid hX
  have HLL := Lib.hid hll
  clear h1 hX hll
  have HO0 := Lib.hid (own_empty w w.heap.size (Nat.le_refl _))
  have HB0 := Lib.hid ((Below.refl w.heap.size w).alloc (Nat.le_refl _) (.cells #[] 5))
  go_enter Try.func8, Try.ntmps8
  go_wp2_with ((with_reducible refine gate_builtin (b := .append) (xs := #[.tmp 15, .tmp 16]) rfl ?_); refine app w.heap.size rfl _ _ rfl (.slice (some ⟨w.heap.size, 0, none⟩) 0 0) [] l A c rfl rfl HO0.out (HR.out.below HB0.out) (by simp) (by simp; omega) ?_)
  intro v1 w1 o1 g1
  have H1 := Lib.hid (show Own w1 w.heap.size v1 l from o1)
  have HB1 := Lib.hid (HB0.out.grown g1 (by simp) (by simp [Value.ownBlock]))
  have hw1 := HB1.out.size
  clear o1 g1
  go_wp2_with ((with_reducible refine gate_builtin (b := .append) (xs := #[.tmp 17, .tmp 18]) rfl ?_); refine app w.heap.size rfl _ _ rfl v1 l l A c rfl rfl H1.out (HR.out.below HB1.out) hw1 (by omega) ?_)
  intro v2 w2 o2 g2
  have HB2 := Lib.hid (HB1.out.grown g2 hw1 (fun k e => own_base H1.out k e))
  obtain ⟨L2, hL2⟩ : ∃ L2, L2 = l ++ l := ⟨_, rfl⟩
  rw [← hL2] at o2 HX HE HLL
  obtain ⟨A2, c2, rfl, _, hr2, hc2⟩ := own_split o2
  have HR2 := Lib.hid hr2
  have hL2l : L2.length ≤ 300 := by have := HLL.out; omega
  clear o2 g2 hr2 hL2
  go_wp2_with fail
  refine (pack_any A2 c2 L2 w2 HR2.out hc2 (by omega)).mono ?_
  rintro e w3 ⟨v, rfl, ho, hb⟩
  rw [HE.out]
  rw [← HX.out] at ho
  obtain ⟨A3, c3, rfl, _, _, _⟩ := own_split ho
  have HB3 := Lib.hid (HB2.out.trans (hb.mono HB2.out.size))
  clear ho hb
  go_wp2_with (go_at_call 17; refine (lives15 _).mono ?_; rintro e w4 ⟨rfl, hb4⟩)
  go_ret
  exact ⟨rfl, HB3.out.trans (hb4.mono HB3.out.size)⟩
end Go.Proofs.Ytenikeldjgpgmaa
