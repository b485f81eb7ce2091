/-
  match.Pack. No premise.
-/
import Derived.Test.YtdfpikimeihefaaMat3
import Derived.Test.YtdfpikimeihefaaIns1
namespace Go.Proofs.Ytdfpikimeihefaa
open Go.RowKit Go.Proofs.YtdfpikimeihefaaW.PrintWords

theorem rnL_ne (l : List Int) (h : l ≠ []) : rnL l ≠ [] := by rw [rnL_cons l h]; simp
theorem tkF_ne (l : List Int) (at_ fr : Nat) (h : fr ≤ at_) (h2 : at_ ≤ l.length) (h3 : fr < l.length) : tkF l at_ fr ≠ [] := by
  suffices ∀ k a f, l.length - a ≤ k → f ≤ a → a ≤ l.length → f < l.length → tkF l a f ≠ [] from this _ at_ fr (Nat.le_refl _) h h2 h3
  intro k
  induction k with
  | zero =>
    intro a f h1 h2 h3 h4
    rw [tkF_end l a f (by omega)]
    refine rnL_ne _ fun e => ?_
    have := congrArg List.length e
    rw [List.length_drop, List.length_nil] at this
    omega
  | succ k ih =>
    intro a f h1 h2 h3 h4
    rcases Nat.lt_or_ge a l.length with hl | hl
    · by_cases hq : (best l a).1 < 4
      · rw [tkF_on l a f hl hq]; exact ih (a + 1) f (by omega) (by omega) (by omega) h4
      · rw [tkF_copy l a f hl hq]; simp
    · rw [tkF_end l a f hl]
      refine rnL_ne _ fun e => ?_
      have := congrArg List.length e
      rw [List.length_drop, List.length_nil] at this
      omega
theorem tkL_ne (l : List Int) (h : 0 < l.length) : 0 < (tkL l).length := List.length_pos_iff.2 (tkF_ne l 0 0 (Nat.le_refl _) (Nat.zero_le _) h)
def PkPost (w : World) (l : List Int) (e : Ending) (w' : World) : Prop :=
  ∃ v, e = .returned (.tuple #[v, .int .i64 (pkE l)]) ∧ Own w' w.heap.size v (pkL l) ∧ Below w.heap.size w w'
theorem pk_big {l : List Int} (h : 65536 < l.length) : pkE l = 3 ∧ pkL l = [] := ⟨by unfold pkE; rw [if_pos h], by unfold pkL; rw [if_pos h]⟩
theorem pk_short {l : List Int} (h : ¬ 65536 < l.length) (h2 : (tkL l).length < l.length) : pkE l = 0 ∧ pkL l = 1 :: tkL l := ⟨by unfold pkE; rw [if_neg h], by unfold pkL; rw [if_neg h, if_pos h2]⟩
theorem pk_plain {l : List Int} (h : ¬ 65536 < l.length) (h2 : ¬ (tkL l).length < l.length) : pkE l = 0 ∧ pkL l = 0 :: l := ⟨by unfold pkE; rw [if_neg h], by unfold pkL; rw [if_neg h, if_neg h2]⟩
theorem pkL_length (l : List Int) : (pkL l).length ≤ l.length + 1 := by
  by_cases h : 65536 < l.length
  · rw [(pk_big h).2]; exact Nat.zero_le _
  · by_cases h2 : (tkL l).length < l.length
    · rw [(pk_short h h2).2, List.length_cons]; omega
    · rw [(pk_plain h h2).2, List.length_cons]; exact Nat.le_refl _
theorem pkL_bts {l : List Int} (hb : Bts l) : Bts (pkL l) := by
  by_cases h : 65536 < l.length
  · rw [(pk_big h).2]; exact Bts.nil
  · by_cases h2 : (tkL l).length < l.length
    · rw [(pk_short h h2).2]
      exact Bts.append (l := [1]) (by intro x hx; simp at hx; omega) (tkF_bts hb 0 0 (Nat.le_refl _) (Nat.zero_le _))
    · rw [(pk_plain h h2).2]
      exact Bts.append (l := [0]) (by intro x hx; simp at hx; omega) hb
set_option maxRecDepth 100000 in
set_option maxHeartbeats 1600000 in
theorem pack_any (A : Option Addr) (c : Nat) (l : List Int) (w : World) (hr : Rd w A l) (hc : l.length ≤ c) (hl : l.length ≤ 149000000000000) :
    Calls Try.prog 38 #[.slice A l.length c] w (PkPost w l) := by
  have HR := Lib.hid hr
  clear hr
  by_cases hbig : 65536 < l.length
  · have HP := Lib.hid (pk_big hbig)
    go_enter Try.func38, Try.ntmps38
    go_wp2_with fail
    go_ret2
    exact ⟨.slice none 0 0, pair_ret HP.out.1.symm, by rw [HP.out.2]; exact World.ownsRow_nil _ _ _ _, Below.refl _ _⟩
  have hsm : l.length ≤ 65536 := by omega
  by_cases hsh : (tkL l).length < l.length
  · have HP := Lib.hid (pk_short hbig hsh)
    have htl := tkL_ne l (by omega)
    obtain ⟨tk, htk⟩ : ∃ tk, tk = tkL l := ⟨_, rfl⟩
    rw [← htk] at hsh htl
    have HTK := Lib.hid htk
    clear htk
    go_enter Try.func38, Try.ntmps38
    go_wp2_with fail
    refine (tokens_any A c l w HR.out hc (by omega)).mono ?_
    rintro e w1 ⟨v1, rfl, ho1, hb1⟩
    rw [← HTK.out] at ho1
    have HO1 := Lib.hid ho1
    have HB1 := Lib.hid hb1
    rcases own_cases ho1 with ⟨_, h⟩ | ⟨g, cap, rfl⟩
    · rw [h] at htl; simp at htl
    have hg := own_hi ho1 (k := g) rfl
    have hlo := own_lo ho1 (k := g) rfl
    clear ho1 hb1
    have hBa := Lib.hid (show Below w.heap.size w (w1.alloc (.cells #[.int .u8 1] 5)) from HB1.out.alloc HB1.out.size _)
    go_wp2_with fail
    refine (insert_any w.heap.size w1.heap.size (.slice (some ⟨g, 0, none⟩) tk.length cap) tk 1 (w1.alloc (.cells #[.int .u8 1] 5)) (HO1.out.alloc _) htl (by omega) (World.alloc_heap_new w1 _) (by show some w1.heap.size ≠ some g; intro e; injection e with e; omega) (by have := HB1.out.size; simp; omega)).mono ?_
    rintro e w2 ⟨v2, rfl, ho2, hb2⟩
    rw [HTK.out] at ho2
    have HO2 := Lib.hid ho2
    have HB2 := Lib.hid (hBa.out.trans hb2)
    clear ho2 hb2
    go_wp2_with fail
    go_ret2
    exact ⟨_, pair_ret HP.out.1.symm, by rw [HP.out.2]; exact HO2.out, HB2.out⟩
  · have HP := Lib.hid (pk_plain hbig hsh)
    obtain ⟨tk, htk⟩ : ∃ tk, tk = tkL l := ⟨_, rfl⟩
    rw [← htk] at hsh
    have HTK := Lib.hid htk
    clear htk
    go_enter Try.func38, Try.ntmps38
    go_wp2_with fail
    refine (tokens_any A c l w HR.out hc (by omega)).mono ?_
    rintro e w1 ⟨v1, rfl, ho1, hb1⟩
    rw [← HTK.out] at ho1
    obtain ⟨A1, c1, rfl, hr1⟩ := own_reads ho1
    have HB1 := Lib.hid hb1
    clear ho1 hb1 hr1
    have HO0 := Lib.hid (show Own (w1.alloc (.cells #[.int .u8 0] 5)) w.heap.size (.slice (some ⟨w1.heap.size, 0, none⟩) 1 1) [0] from own_lit w1 w.heap.size 5 .u8 [0] HB1.out.size (by simp))
    have HBa := Lib.hid (show Below w.heap.size w (w1.alloc (.cells #[.int .u8 0] 5)) from HB1.out.alloc HB1.out.size _)
    go_wp2_with ((with_reducible refine gate_builtin (b := .append) (xs := #[.tmp 18, .tmp 19]) rfl ?_); refine app w.heap.size rfl _ _ rfl (.slice (some ⟨w1.heap.size, 0, none⟩) 1 1) [0] l A c rfl rfl HO0.out (HR.out.below HBa.out) HBa.out.size (by simp; omega) ?_; intro v2 w2 h2 g2; have H2 := Lib.hid h2; have HB2 := Lib.hid (HBa.out.grown g2 HBa.out.size (fun k e => own_base HO0.out k e)); clear h2 g2)
    go_ret2
    exact ⟨_, pair_ret HP.out.1.symm, by rw [HP.out.2]; exact H2.out, HB2.out⟩
end Go.Proofs.Ytdfpikimeihefaa
