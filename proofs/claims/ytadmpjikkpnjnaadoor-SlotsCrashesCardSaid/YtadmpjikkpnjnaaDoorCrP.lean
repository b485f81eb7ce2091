/-
  What a Put that is cut leaves behind: plain lists. No program. No premise.
-/
import Derived.Test.YtadmpjikkpnjnaaDoorSl6
namespace Go.Proofs.YtadmpjikkpnjnaaDoor
open Go.RowKit Go.Shelf Go.Proofs.YtadmpjikkpnjnaaDoorW.PrintWords

def z16 : List Int := List.replicate 16 0
def z32 : List Int := List.replicate 32 0
theorem ldOk_front {y r : List Int} (h : y.length = 32) : ldOk (y ++ r) ↔ ldOk y := by
  have h1 := ldOk_take (l := y ++ r) (by rw [List.length_append]; omega)
  rw [List.take_left' h] at h1
  exact h1.symm
theorem ldR_front {y r : List Int} (h : y.length = 32) : ldR (y ++ r) = ldR y := by
  have h1 := ldR_take (l := y ++ r) (by rw [List.length_append]; omega)
  rw [List.take_left' h] at h1
  exact h1.symm
theorem slot0_two {y0 y1 : List Int} (h0 : y0.length = 32) : (slotOk (y0 ++ y1) 0 ↔ ldOk y0 ∧ (ldR y0).g % 2 = 0) ∧ slotR (y0 ++ y1) 0 = ldR y0 := by
  unfold slotOk slotR
  rw [show (y0 ++ y1).drop (32 * 0) = y0 ++ y1 from rfl, ldOk_front h0, ldR_front h0]
  exact ⟨Iff.rfl, rfl⟩
theorem slot1_two {y0 y1 : List Int} (h0 : y0.length = 32) : (slotOk (y0 ++ y1) 1 ↔ ldOk y1 ∧ (ldR y1).g % 2 = 1) ∧ slotR (y0 ++ y1) 1 = ldR y1 := by
  unfold slotOk slotR
  rw [show (y0 ++ y1).drop (32 * 1) = y1 from List.drop_left' h0]
  exact ⟨Iff.rfl, rfl⟩
theorem bs_only1 {y0 y1 : List Int} (h0 : y0.length = 32) (n0 : ¬ ldOk y0) (k1 : ldOk y1) (p1 : (ldR y1).g % 2 = 1) : bsR (y0 ++ y1) = ldR y1 ∧ bsIs (y0 ++ y1) = true := by
  obtain ⟨a1, a2⟩ := slot0_two (y1 := y1) h0
  obtain ⟨b1, b2⟩ := slot1_two (y1 := y1) h0
  have s0 : ¬ slotOk (y0 ++ y1) 0 := fun h => n0 (a1.1 h).1
  have s1 : slotOk (y0 ++ y1) 1 := b1.2 ⟨k1, p1⟩
  unfold bsR bsIs
  rw [if_neg s0, if_pos s1, b2]
  exact ⟨rfl, by simp [s1]⟩
theorem bs_only0 {y0 y1 : List Int} (h0 : y0.length = 32) (k0 : ldOk y0) (p0 : (ldR y0).g % 2 = 0) (n1 : ¬ ldOk y1) : bsR (y0 ++ y1) = ldR y0 ∧ bsIs (y0 ++ y1) = true := by
  obtain ⟨a1, a2⟩ := slot0_two (y1 := y1) h0
  obtain ⟨b1, b2⟩ := slot1_two (y1 := y1) h0
  have s0 : slotOk (y0 ++ y1) 0 := a1.2 ⟨k0, p0⟩
  have s1 : ¬ slotOk (y0 ++ y1) 1 := fun h => n1 (b1.1 h).1
  unfold bsR bsIs
  rw [if_pos s0, if_neg (fun h => s1 h.1), a2]
  exact ⟨rfl, by simp [s0]⟩
theorem bs_both {y0 y1 : List Int} (h0 : y0.length = 32) (k0 : ldOk y0) (p0 : (ldR y0).g % 2 = 0) (k1 : ldOk y1) (p1 : (ldR y1).g % 2 = 1) :
    bsR (y0 ++ y1) = (if (ldR y0).g < (ldR y1).g then ldR y1 else ldR y0) ∧ bsIs (y0 ++ y1) = true := by
  obtain ⟨a1, a2⟩ := slot0_two (y1 := y1) h0
  obtain ⟨b1, b2⟩ := slot1_two (y1 := y1) h0
  have s0 : slotOk (y0 ++ y1) 0 := a1.2 ⟨k0, p0⟩
  have s1 : slotOk (y0 ++ y1) 1 := b1.2 ⟨k1, p1⟩
  unfold bsR bsIs
  rw [if_pos s0, a2, b2]
  refine ⟨?_, by simp [s0]⟩
  by_cases h : (ldR y0).g < (ldR y1).g
  · rw [if_pos ⟨s1, h⟩, if_pos h]
  · rw [if_neg (fun h2 => h h2.2), if_neg h]
theorem bs_none {b : List Int} (n0 : ¬ ldOk b) (n1 : ¬ ldOk (b.drop 32)) : bsR b = Rt.zero ∧ bsIs b = false := by
  have s0 : ¬ slotOk b 0 := fun h => n0 h.1
  have s1 : ¬ slotOk b 1 := fun h => n1 h.1
  unfold bsR bsIs
  rw [if_neg s0, if_neg s1]
  exact ⟨rfl, by simp [s0, s1]⟩
/-- A root that is laid down whole. -/
structure RtG (r : Rt) : Prop where
  ok : rtOk r
  g0 : 0 ≤ r.g
  g1 : r.g < 256
theorem RtG.gOk {r : Rt} (h : RtG r) : gOk r := ⟨h.g0, by have := h.g1; omega⟩
theorem by_is {r : Rt} (h : RtG r) : byL r = sealL (rtX r) := by unfold byL; rw [if_pos h.ok]
theorem ld_by {r : Rt} (h : RtG r) : ldOk (byL r) ∧ ldR (byL r) = r := by
  have h1 := ldOk_of h.ok h.gOk []
  rw [List.append_nil, ← by_is h] at h1
  exact h1
theorem ldOk_magic {l : List Int} (h : ldOk l) : rdI l 0 = 83 := by
  have h1 := h.2.2
  have h2 : rdI (l.take 32) 0 = rdI l 0 := by
    unfold rdI
    rw [List.getD_eq_getElem?_getD, List.getD_eq_getElem?_getD, List.getElem?_take, if_pos (by decide)]
  rw [← h2, ← h1]
  rfl
theorem ld_zeros (r : List Int) : ¬ ldOk (z16 ++ r) := fun h => by
  have h1 := ldOk_magic h
  exact absurd h1 (by show (0 : Int) ≠ 83; decide)
theorem ld_empty {l : List Int} (h : l.length < 32) : ¬ ldOk l := fun h2 => by have := h2.1; omega
theorem dig8_small {g : Int} (h0 : 0 ≤ g) (h1 : g < 256) : dig 8 false g = [g, 0, 0, 0, 0, 0, 0, 0] := by
  obtain ⟨n, rfl⟩ := Int.eq_ofNat_of_zero_le h0
  unfold dig
  simp [List.range_succ]
  refine ⟨by omega, ?_, ?_, ?_, ?_, ?_, ?_, ?_⟩ <;> omega
theorem rtX_small {r : Rt} (h : RtG r) : rtX r = [83, 76, 65, 66, r.g, 0, 0, 0, 0, 0, 0, 0, 0, 0, 0, 0] ++ (dig 4 false r.pl ++ (dig 4 false r.sz ++ [0, 0, 0, 0])) := by
  unfold rtX
  rw [dig8_small h.g0 h.g1, show dig 4 false 0 = [0, 0, 0, 0] from by decide]
  rfl
/-- The two halves of a root's bytes. -/
def hd (g : Int) : List Int := [83, 76, 65, 66, g, 0, 0, 0, 0, 0, 0, 0, 0, 0, 0, 0]
def tl (r : Rt) : List Int := dig 4 false r.pl ++ (dig 4 false r.sz ++ ([0, 0, 0, 0] ++ dig 4 false (moreS 0 (rtX r))))
theorem tl_length (r : Rt) : (tl r).length = 16 := by simp [tl, dig_length]
theorem by_halves {r : Rt} (h : RtG r) : byL r = hd r.g ++ tl r := by
  have h1 : sealL (rtX r) = rtX r ++ dig 4 false (moreS 0 (rtX r)) := rfl
  rw [by_is h, h1]
  conv => lhs; lhs; rw [rtX_small h]
  unfold hd tl
  simp only [List.append_assoc]
theorem ldR0_halves (g : Int) (h0 : 0 ≤ g) (h1 : g < 256) (r : Rt) (hr : RtG r) : ldR0 (hd g ++ tl r) = ⟨g, r.pl, r.sz⟩ := by
  have hr2 : RtG ⟨g, r.pl, r.sz⟩ := ⟨hr.ok, h0, h1⟩
  have e := ldR0_of hr2.ok hr2.gOk []
  rw [List.append_nil, ← by_is hr2, by_halves hr2] at e
  have e2 : ldR0 (hd g ++ tl ⟨g, r.pl, r.sz⟩) = ldR0 (hd g ++ tl r) := by
    unfold ldR0 hd tl
    simp [List.drop_append, List.take_append, dig_length, List.take_of_length_le, List.drop_of_length_le]
  rw [← e2]
  exact e
/-- The head of one root and the tail of another one. -/
theorem ld_torn {r : Rt} (hr : RtG r) {g : Int} (h0 : 0 ≤ g) (h1 : g < 256) (hne : g ≠ r.g) : ¬ ldOk (hd g ++ tl r) := fun h => by
  have h2 := h.2.2
  rw [ldR0_halves g h0 h1 r hr] at h2
  have hr2 : RtG ⟨g, r.pl, r.sz⟩ := ⟨hr.ok, h0, h1⟩
  have hl : (hd g ++ tl r).length = 32 := by rw [List.length_append, tl_length]; rfl
  rw [List.take_of_length_le (by omega), ← by_is hr2, by_halves hr2] at h2
  have h3 := List.append_cancel_left h2
  unfold tl at h3
  have h4 := List.append_cancel_left (List.append_cancel_left (List.append_cancel_left h3))
  have h5 := dig4_inj (moreS_range 0 _) (moreS_range 0 _) h4
  have hx : rtX ⟨g, r.pl, r.sz⟩ = (rtX r).set 4 g := by
    rw [rtX_small hr2, rtX_small hr]
    rfl
  rw [hx] at h5
  refine crc_turned (rtX_bts r) 4 (by rw [rtX_length]; decide) g ⟨h0, by omega⟩ ?_ h5
  rw [rtX_small hr]
  exact hne
/-- The head of the second root, nothing behind it. -/
theorem ld_first : ¬ ldOk (hd 2 ++ z16) := by decide +kernel
/-- What the file holds when the root of generation i is the last one that was laid down. -/
def StB (i : Nat) (b : List Int) (last : Rt) : Prop :=
  (i = 0 ∧ b = [] ∧ last = Rt.zero) ∨
  (1 ≤ i ∧ RtG last ∧ last.g = i ∧ ∃ h t : List Int, (h.length = 16 ∧ t.length = 16) ∧ ¬ ldOk (hd (i + 1) ++ t) ∧ (¬ ldOk (h ++ t) ∨ ∃ q : Rt, RtG q ∧ h ++ t = byL q ∧ q.g + 1 = i) ∧
    ((i % 2 = 1 ∧ b = (h ++ t) ++ byL last) ∨ (i % 2 = 0 ∧ b = byL last ++ (h ++ t))))
theorem StB.len {i : Nat} {b : List Int} {last : Rt} (h : StB i b last) : b.length = if i = 0 then 0 else 64 := by
  rcases h with ⟨rfl, rfl, _⟩ | ⟨h1, hl, _, h, t, ⟨l1, l2⟩, _, _, h5⟩
  · rfl
  · rw [if_neg (by omega)]
    have := byL_length hl.ok
    rcases h5 with ⟨_, rfl⟩ | ⟨_, rfl⟩ <;> simp [l1, l2, this]
theorem hd_length (g : Int) : (hd g).length = 16 := rfl
/-- Behind the next one, a torn one is none. -/
theorem next_torn {i : Nat} (h1 : 1 ≤ i) (hi : i < 100) {q : Rt} (hq : RtG q) (hg : q.g = i) : ¬ ldOk (hd ((i : Int) + 1 + 1) ++ tl q) := ld_torn hq (by omega) (by omega) (by omega)
theorem bsR_last {i : Nat} {b : List Int} {last : Rt} (h : StB i b last) (_hi : i < 100) : bsR b = last ∧ bsIs b = decide (1 ≤ i) := by
  rcases h with ⟨rfl, rfl, rfl⟩ | ⟨h1, hl, hg, h, t, ⟨l1, l2⟩, _, h4, h5⟩
  · exact bs_none (ld_empty (by simp)) (ld_empty (by simp))
  · have e : decide (1 ≤ i) = true := by simp [h1]
    rw [e]
    obtain ⟨k1, k2⟩ := ld_by hl
    have hlt : (h ++ t).length = 32 := by rw [List.length_append, l1, l2]
    have hll := byL_length hl.ok
    rcases h5 with ⟨p, rfl⟩ | ⟨p, rfl⟩
    · have p1 : (ldR (byL last)).g % 2 = 1 := by rw [k2, hg]; omega
      rcases h4 with h4 | ⟨q, hq, e1, e2⟩
      · have := bs_only1 hlt h4 k1 p1
        rw [k2] at this
        exact this
      · obtain ⟨j1, j2⟩ := ld_by hq
        rw [e1]
        have := bs_both (byL_length hq.ok) j1 (by rw [j2]; omega) k1 p1
        rw [k2, j2, if_pos (by omega)] at this
        exact this
    · have p1 : (ldR (byL last)).g % 2 = 0 := by rw [k2, hg]; omega
      rcases h4 with h4 | ⟨q, hq, e1, e2⟩
      · have := bs_only0 hll k1 p1 h4
        rw [k2] at this
        exact this
      · obtain ⟨j1, j2⟩ := ld_by hq
        rw [e1]
        have := bs_both hll k1 p1 j1 (by rw [j2]; omega)
        rw [k2, j2, if_neg (by omega)] at this
        exact this
theorem lay_zero (b : List Int) (a : Nat) : layL b a [] = b := by unfold layL; simp
/-- A Put, whole or torn. -/
theorem st_step {i : Nat} {b : List Int} {last next : Rt} (h : StB i b last) (hi : i < 30) (hn : RtG next) (hg : next.g = (i : Int) + 1) :
    (spA b.length next ≤ b.length ∧ spA b.length next + (spX b.length next).length ≤ 64) ∧
    (∀ k, k < chN (spX b.length next).length 16 → bsR (layL b (spA b.length next) ((spX b.length next).take (k * 16))) = last ∧ bsIs (layL b (spA b.length next) ((spX b.length next).take (k * 16))) = decide (1 ≤ i)) ∧
    StB (i + 1) (layL b (spA b.length next) (spX b.length next)) next := by
  have hlen := h.len
  have hbn := by_halves hn
  have hbl := byL_length hn.ok
  rcases Nat.eq_zero_or_pos i with h0 | h0
  · subst h0
    rcases h with ⟨_, rfl, rfl⟩ | ⟨h1, _⟩
    · have ha : spA ([] : List Int).length next = 0 := by unfold spA; simp
      have hx : spX ([] : List Int).length next = (z16 ++ z16) ++ byL next := by unfold spX; rw [hg]; rfl
      rw [ha, hx]
      have hxl : ((z16 ++ z16) ++ byL next).length = 64 := by rw [List.length_append, hbl]; rfl
      refine ⟨⟨Nat.le_refl _, by omega⟩, fun k hk => ?_, .inr ⟨by decide, hn, by rw [hg]; rfl, z16, z16, ⟨rfl, rfl⟩, ld_first, .inl (ld_zeros _), .inl ⟨rfl, ?_⟩⟩⟩
      · rw [hxl] at hk
        have hk4 : k < 4 := hk
        have e : layL [] 0 (((z16 ++ z16) ++ byL next).take (k * 16)) = ((z16 ++ z16) ++ byL next).take (k * 16) := by unfold layL; simp
        rw [e]
        have hl : (((z16 ++ z16) ++ byL next).take (k * 16)).length = k * 16 := by rw [List.length_take, hxl]; omega
        refine bs_none ?_ (ld_empty (by rw [List.length_drop, hl]; omega))
        rcases (by omega : k = 0 ∨ k = 1 ∨ k = 2 ∨ k = 3) with rfl | rfl | rfl | rfl
        · exact ld_empty (by rw [hl]; decide)
        · exact ld_empty (by rw [hl]; decide)
        · rw [List.append_assoc, List.take_append]
          rw [List.take_of_length_le (by decide : z16.length ≤ 2 * 16)]
          exact ld_zeros _
        · rw [List.append_assoc, List.take_append]
          rw [List.take_of_length_le (by decide : z16.length ≤ 3 * 16)]
          exact ld_zeros _
      · unfold layL
        simp
    · omega
  · rw [if_neg (by omega)] at hlen
    have hst := h
    rcases h with ⟨h1, _⟩ | ⟨h1, hl, hgl, h, t, ⟨l1, l2⟩, h3, h4, h5⟩
    · omega
    have hlt : (h ++ t).length = 32 := by rw [List.length_append, l1, l2]
    have hll := byL_length hl.ok
    have hbl2 := by_halves hl
    obtain ⟨k1, k2⟩ := ld_by hl
    rcases h5 with ⟨p, hb⟩ | ⟨p, hb⟩
    · have hpar : next.g % 2 = 0 := by omega
      have ha : spA b.length next = 0 := by unfold spA; rw [hpar]; simp
      have hx : spX b.length next = byL next := by unfold spX; rw [hpar]; simp
      rw [ha, hx]
      refine ⟨⟨Nat.zero_le _, by rw [hbl]; decide⟩, fun k hk => ?_, .inr ⟨by omega, hn, by rw [hg]; push_cast; rfl, hd last.g, tl last, ⟨rfl, tl_length _⟩, ?_, .inr ⟨last, hl, hbl2.symm, by rw [hgl]; push_cast; rfl⟩, .inr ⟨by omega, ?_⟩⟩⟩
      · rw [hbl] at hk
        have hk2 : k < 2 := hk
        rcases (by omega : k = 0 ∨ k = 1) with rfl | rfl
        · rw [Nat.zero_mul, List.take_zero, lay_zero]
          exact bsR_last hst (by omega)
        · have e : layL b 0 ((byL next).take (1 * 16)) = (hd next.g ++ t) ++ byL last := by
            rw [hbn, List.take_left' (by rfl)]
            unfold layL
            rw [hb, List.append_assoc h, show 0 + (hd next.g).length = 16 from rfl, List.drop_left' l1, List.take_zero, List.nil_append, List.append_assoc]
          rw [e, hg]
          have := bs_only1 (y0 := hd ((i : Int) + 1) ++ t) (y1 := byL last) (by rw [List.length_append, l2]; rfl) h3 k1 (by rw [k2, hgl]; omega)
          rw [k2] at this
          rw [this.1, this.2]
          exact ⟨rfl, by simp [h1]⟩
      · have := next_torn (i := i) h1 (by omega) hl hgl
        push_cast
        exact this
      · unfold layL
        rw [hb, List.take_zero, List.nil_append, hbl, Nat.zero_add, List.drop_left' hlt, ← hbl2]
    · have hpar : next.g % 2 = 1 := by omega
      have ha : spA b.length next = 32 := by unfold spA; rw [hpar, hlen]; rfl
      have hx : spX b.length next = byL next := by unfold spX; rw [hpar, hlen]; rfl
      rw [ha, hx]
      refine ⟨⟨by omega, by rw [hbl]; decide⟩, fun k hk => ?_, .inr ⟨by omega, hn, by rw [hg]; push_cast; rfl, hd last.g, tl last, ⟨rfl, tl_length _⟩, ?_, .inr ⟨last, hl, hbl2.symm, by rw [hgl]; push_cast; rfl⟩, .inl ⟨by omega, ?_⟩⟩⟩
      · rw [hbl] at hk
        have hk2 : k < 2 := hk
        rcases (by omega : k = 0 ∨ k = 1) with rfl | rfl
        · rw [Nat.zero_mul, List.take_zero, lay_zero]
          exact bsR_last hst (by omega)
        · have e : layL b 32 ((byL next).take (1 * 16)) = byL last ++ (hd next.g ++ t) := by
            rw [hbn, List.take_left' (by rfl)]
            unfold layL
            rw [hb, List.take_left' hll, show 32 + (hd next.g).length = 48 from rfl, ← List.append_assoc (byL last) h t, List.drop_left' (by rw [List.length_append, hll, l1])]
          rw [e, hg]
          have := bs_only0 (y0 := byL last) (y1 := hd ((i : Int) + 1) ++ t) hll k1 (by rw [k2, hgl]; omega) h3
          rw [k2] at this
          rw [this.1, this.2]
          exact ⟨rfl, by simp [h1]⟩
      · have := next_torn (i := i) h1 (by omega) hl hgl
        push_cast
        exact this
      · unfold layL
        rw [hb, List.take_left' hll, hbl, List.drop_of_length_le (by rw [List.length_append, hll, hlt]; decide), List.append_nil, ← hbl2]
end Go.Proofs.YtadmpjikkpnjnaaDoor
