/-
  A Put that is cut, and one that is done, told of the file: plain. No program. No premise.
-/
import Derived.Test.YtadmpjikkpnjnaaDoorCrP
namespace Go.Proofs.YtadmpjikkpnjnaaDoor
open Go.RowKit Go.Shelf Go.Proofs.YtadmpjikkpnjnaaDoorW.PrintWords

theorem take_all (x : List Int) : x.take (chN x.length 16 * 16) = x := by
  refine List.take_of_length_le ?_
  unfold chN
  omega
/-- A write for which there is room. -/
theorem write_is {F : FM} (hoff : F.off = false) {a : Nat} {x : List Int} (ha : a ≤ F.b.length) (hm : (a : Int) + x.length ≤ F.most) : wE F a x = wrE F x ∧ wF F a x = wrF F a x := by
  unfold wE wF
  rw [if_neg (by rw [hoff]; decide), if_neg (by omega), if_neg (by omega), if_neg (by rw [hoff]; decide), if_neg (by omega), if_neg (by omega), Int.toNat_natCast]
  exact ⟨rfl, rfl⟩
theorem pcs_len (a : Nat) (x : List Int) (k : Nat) : ∀ r ∈ pcs a x k, r.2.length ≤ 1000000000 := fun r hr => by
  unfold pcs at hr
  obtain ⟨j, _, rfl⟩ := List.mem_map.1 hr
  show (pc x j).length ≤ _
  unfold pc
  rw [List.length_take]
  omega
theorem spX_le64 (n : Nat) {r : Rt} : (spX n r).length ≤ 32 * (r.g % 2).toNat + 32 := by
  have := byL_le r
  unfold spX
  rw [List.length_append, List.length_replicate]
  omega
theorem crash_put {F : FM} {i : Nat} {last next : Rt} (hoff : F.off = false) (hm : F.most = 64) (hst : StB i F.b last) (hi : i < 30) (hn : RtG next) (hg : next.g = (i : Int) + 1) (m : Nat) :
    (spE { F with left := (m : Int) } next = 6 ∧ bsR (spF { F with left := (m : Int) } next).b = last ∧ bsIs (spF { F with left := (m : Int) } next).b = decide (1 ≤ i)) ∨
    (spE { F with left := (m : Int) } next = 0 ∧ bsR (spF { F with left := (m : Int) } next).b = next ∧ bsIs (spF { F with left := (m : Int) } next).b = true) := by
  obtain ⟨⟨h1, h2⟩, h3, h4⟩ := st_step hst hi hn hg
  have hw := write_is (F := { F with left := (m : Int) }) hoff (a := spA F.b.length next) (x := spX F.b.length next) h1 (by show _ ≤ F.most; rw [hm]; omega)
  unfold spE spF
  rw [if_pos hn.ok, if_pos hn.ok]
  rw [hw.1, hw.2]
  unfold wrE wrF
  by_cases hk : m < chN (spX F.b.length next).length 16
  · left
    have hc : 0 ≤ (m : Int) ∧ (m : Int) < (chN (spX F.b.length next).length 16 : Nat) := by omega
    rw [if_pos hc, if_pos hc]
    have := h3 m hk
    refine ⟨rfl, ?_⟩
    show bsR (layL F.b _ _) = _ ∧ bsIs (layL F.b _ _) = _
    rw [show ((m : Int)).toNat = m from Int.toNat_natCast m]
    exact this
  · right
    have hc : ¬ (0 ≤ (m : Int) ∧ (m : Int) < (chN (spX F.b.length next).length 16 : Nat)) := by omega
    rw [if_neg hc, if_neg hc]
    have := bsR_last h4 (by omega)
    refine ⟨rfl, ?_⟩
    show bsR (layL F.b _ ((spX F.b.length next).take _)) = _ ∧ bsIs (layL F.b _ ((spX F.b.length next).take _)) = _
    rw [take_all]
    rw [this.1, this.2]
    exact ⟨rfl, by simp⟩
structure CrF (i : Nat) (F : FM) (last : Rt) : Prop where
  off : F.off = false
  left : F.left = -1
  most : F.most = 64
  st : StB i F.b last
  ok : FOk F
  rl : F.raws.length ≤ 5 * i
  re : ∀ x ∈ F.raws, x.2.length ≤ 1000000000
theorem crF_zero : CrF 0 (mkF [] 64) Rt.zero := ⟨rfl, rfl, rfl, .inl ⟨rfl, rfl, rfl⟩, mkF_ok Bts.nil (by unfold ofB; simp), by decide, fun x hx => by cases hx⟩
theorem whole_put {F : FM} {i : Nat} {last next : Rt} (h : CrF i F last) (hi : i < 30) (hn : RtG next) (hg : next.g = (i : Int) + 1) :
    spE F next = 0 ∧ CrF (i + 1) (spF F next) next ∧ bsR (spF F next).b = next ∧ bsIs (spF F next).b = true := by
  obtain ⟨⟨h1, h2⟩, h3, h4⟩ := st_step h.st hi hn hg
  have hw := write_is (F := F) h.off (a := spA F.b.length next) (x := spX F.b.length next) h1 (by rw [h.most]; omega)
  have hneg : ¬ (0 ≤ F.left ∧ F.left < (chN (spX F.b.length next).length 16 : Nat)) := by rw [h.left]; omega
  have hE : spE F next = 0 := by
    unfold spE
    rw [if_pos hn.ok, hw.1]
    unfold wrE
    rw [if_neg hneg]
  have hF : spF F next = FN F (spA F.b.length next) (spX F.b.length next) (chN (spX F.b.length next).length 16) := by
    unfold spF
    rw [if_pos hn.ok, hw.2]
    unfold wrF
    rw [if_neg hneg]
  have hb : (spF F next).b = layL F.b (spA F.b.length next) (spX F.b.length next) := by
    rw [hF]
    show layL F.b _ ((spX F.b.length next).take _) = _
    rw [take_all]
  have hx := spX_le64 F.b.length (r := next)
  have hpar : (next.g % 2).toNat ≤ 1 := by omega
  have hl := bsR_last h4 (by omega)
  rw [← hb] at hl h4
  refine ⟨hE, ⟨?_, ?_, ?_, h4, h.ok.spF _, ?_, ?_⟩, hl.1, by rw [hl.2]; simp⟩
  · rw [hF]; exact h.off
  · rw [hF]
    show (if 0 ≤ F.left then _ else F.left) = -1
    rw [if_neg (by rw [h.left]; decide), h.left]
  · rw [hF]; exact h.most
  · rw [hF]
    show (F.raws ++ pcs _ _ _).length ≤ _
    rw [List.length_append, pcs_length]
    have := h.rl
    have : chN (spX F.b.length next).length 16 ≤ 5 := by unfold chN; omega
    omega
  · rw [hF]
    intro y hy
    rcases List.mem_append.1 (show y ∈ F.raws ++ pcs _ _ _ from hy) with h5 | h5
    · exact h.re y h5
    · exact pcs_len _ _ _ y h5
end Go.Proofs.YtadmpjikkpnjnaaDoor
