/-
  store.File: Write, Read, Len, Most, Bytes, Cut, Start, On; good. No premise.
-/
import Derived.Test.YtadmpjikkpnjnaaDoorSt5
namespace Go.Proofs.YtadmpjikkpnjnaaDoor
open Go.RowKit Go.Shelf Go.Proofs.YtadmpjikkpnjnaaDoorW.PrintWords

/-- A file's numbers within their bounds. -/
structure FOk (F : FM) : Prop where
  len : (F.b.length : Int) ≤ F.most
  most : F.most ≤ 4194304
  lo : -1 ≤ F.left
  hi : F.left ≤ 9223372036854775807
  bts : Bts F.b
  rbts : ∀ r ∈ F.raws, Bts r.2
def wE (F : FM) (a : Int) (x : List Int) : Int := if F.off = true then 6 else if a < 0 ∨ (F.b.length : Int) < a then 2 else if F.most - a < x.length then 3 else wrE F x
def wF (F : FM) (a : Int) (x : List Int) : FM := if F.off = true then F else if a < 0 ∨ (F.b.length : Int) < a then F else if F.most - a < x.length then F else wrF F a.toNat x
theorem pc_bts {x : List Int} (h : Bts x) (k : Nat) : Bts (pc x k) := (h.drop _).take _
theorem pcs_bts {x : List Int} (h : Bts x) (a k : Nat) : ∀ r ∈ pcs a x k, Bts r.2 := fun r hr => by
  unfold pcs at hr
  obtain ⟨j, _, rfl⟩ := List.mem_map.1 hr
  exact pc_bts h j
theorem FOk.FN {F : FM} (h : FOk F) {x : List Int} (hx : Bts x) (a k : Nat) (ha : a ≤ F.b.length) (hm : (a : Int) + x.length ≤ F.most) (hk : F.left < 0 ∨ (k : Int) ≤ F.left) : FOk (FN F a x k) := by
  refine ⟨?_, h.most, ?_, ?_, ?_, fun r hr => ?_⟩
  · show ((layL F.b a (x.take (k * 16))).length : Int) ≤ F.most
    rw [layL_length _ _ _ ha, List.length_take]
    have := h.len
    omega
  · show -1 ≤ if 0 ≤ F.left then F.left - k else F.left
    have := h.lo
    split <;> omega
  · show (if 0 ≤ F.left then F.left - (k : Int) else F.left) ≤ 9223372036854775807
    have := h.hi
    split <;> omega
  · exact layL_bts h.bts (hx.take _) _
  · have hr' : r ∈ F.raws ++ pcs a x k := hr
    rcases List.mem_append.1 hr' with h1 | h1
    · exact h.rbts r h1
    · exact pcs_bts hx a k r h1
theorem FOk.wrF {F : FM} (h : FOk F) {x : List Int} (hx : Bts x) (a : Nat) (ha : a ≤ F.b.length) (hm : (a : Int) + x.length ≤ F.most) : FOk (wrF F a x) := by
  unfold Go.Proofs.YtadmpjikkpnjnaaDoor.wrF
  split
  · next h1 =>
    have := h.FN hx a F.left.toNat ha hm (by omega)
    exact ⟨this.len, this.most, (by show (-1 : Int) ≤ -1; decide), (by show (-1 : Int) ≤ 9223372036854775807; decide), this.bts, this.rbts⟩
  · next h1 =>
    exact h.FN hx a _ ha hm (by omega)
theorem wrF_raws (F : FM) (a : Nat) (x : List Int) : (wrF F a x).raws.length ≤ F.raws.length + chN x.length 16 := by
  unfold wrF
  split
  · next h1 =>
    show (F.raws ++ pcs a x F.left.toNat).length ≤ _
    rw [List.length_append, pcs_length]
    omega
  · show (F.raws ++ pcs a x (chN x.length 16)).length ≤ _
    rw [List.length_append, pcs_length]
    exact Nat.le_refl _
theorem FOk.wF {F : FM} (h : FOk F) {x : List Int} (hx : Bts x) (a : Int) : FOk (wF F a x) := by
  unfold Go.Proofs.YtadmpjikkpnjnaaDoor.wF
  split
  · exact h
  split
  · exact h
  split
  · exact h
  · next h2 h3 => exact h.wrF hx _ (by omega) (by omega)
set_option maxHeartbeats 400000 in
theorem good_any (o : Nat → Nat) (i p : Nat) (F : FM) (w : World) (hF : FileA w o i p F) :
    Calls Tryd.prog 38 #[.pointer (some ⟨p, 0, none⟩)] w fun e w' => e = .returned (.bool true) ∧ w = w' := by
  obtain ⟨vb, vr, L, hF⟩ := hF
  obtain ⟨c0, _⟩ := hF.cells
  clear hF
  go_enter Tryd.func38, Tryd.ntmps38
  go_wp2_with fail
  go_ret
  exact ⟨rfl, rfl⟩
set_option maxHeartbeats 400000 in
theorem good_nil (w : World) : Calls Tryd.prog 38 #[.pointer none] w fun e w' => e = .returned (.bool false) ∧ w = w' := by
  go_enter Tryd.func38, Tryd.ntmps38
  go_wp2_with fail
  go_ret
  exact ⟨rfl, rfl⟩
/-- A file that no call made. -/
def ZeroA (w : World) (p : Nat) : Prop := ∃ cs : Array Value, w.heap[p]? = some (.cells cs 78 (0, 0)) ∧ cs[0]? = some (.bool false)
set_option maxHeartbeats 400000 in
theorem good_zero (p : Nat) (w : World) (h : ZeroA w p) : Calls Tryd.prog 38 #[.pointer (some ⟨p, 0, none⟩)] w fun e w' => e = .returned (.bool false) ∧ w = w' := by
  obtain ⟨cs, h1, h2⟩ := h
  have c0 : w.cell? ⟨p, 0, none⟩ = some (.bool false) := (blk_cell h1 0).trans h2
  go_enter Tryd.func38, Tryd.ntmps38
  go_wp2_with fail
  go_ret
  exact ⟨rfl, rfl⟩
def WritePost (o : Nat → Nat) (i p : Nat) (F : FM) (a : Int) (x : List Int) (w : World) (e : Ending) (w' : World) : Prop :=
  ∃ o', e = .returned (.int .i64 (wE F a x)) ∧ Upd o o' i w w' ∧ FileA w' o' i p (wF F a x)
set_option maxRecDepth 100000 in
set_option maxHeartbeats 1600000 in
theorem write_any (o : Nat → Nat) (i : Nat) (h0 : i ≠ 0) (h9 : i ≠ 9) (p : Nat) (F : FM) (a : Int) (A : Option Addr) (c : Nat) (x : List Int) (w : World) (hF : FileA w o i p F) (hfr : Fr o w) (hok : FOk F)
    (ha : -9223372036854775808 ≤ a) (ha2 : a ≤ 9223372036854775807) (hr : Rd w A x) (hA : 0 < x.length → ∀ a, A = some a → o a.block ≠ i) (hx : x.length ≤ 150000000000000) (hc : x.length ≤ c) (hrl : F.raws.length ≤ 900000000) :
    Calls Tryd.prog 19 #[.pointer (some ⟨p, 0, none⟩), .int .i64 a, .slice A x.length c] w (WritePost o i p F a x w) := by
  have HF := Lib.hid hF
  have HFR := Lib.hid hfr
  have HR := Lib.hid hr
  obtain ⟨vb, vr, L, hF1⟩ := hF
  obtain ⟨Av, cv, hvb, _, _, _⟩ := own_split hF1.ob
  subst hvb
  obtain ⟨c0, c1, c2, c3, c4, c5⟩ := hF1.cells
  have hlen := hok.len
  have hmost := hok.most
  have hlo := hok.lo
  have hhi := hok.hi
  obtain ⟨bl, hbl⟩ : ∃ bl, bl = F.b.length := ⟨_, rfl⟩
  rw [← hbl] at c1 hlen
  have HBL := Lib.hid hbl
  clear hF1 hfr hr hok c4 c5 hbl
  obtain ⟨eE, hE⟩ : ∃ eE, eE = wE F a x := ⟨_, rfl⟩
  obtain ⟨eF, hEF⟩ : ∃ eF, eF = wF F a x := ⟨_, rfl⟩
  unfold wE at hE
  unfold wF at hEF
  by_cases hoff : F.off = true
  · rw [hoff] at c3
    rw [if_pos hoff] at hE hEF
    have HE := Lib.hid hE
    have HEF := Lib.hid hEF
    clear hE hEF
    go_enter Tryd.func19, Tryd.ntmps19
    go_wp2_with (go_at_call 38; refine (good_any o i p F w HF.out).mono ?_; rintro e w1 ⟨rfl, rfl⟩)
    go_ret
    refine ⟨o, by unfold wE; rw [if_pos hoff] <;> rfl, Upd.refl HFR.out, by unfold wF; rw [if_pos hoff]; exact HF.out⟩
  · have hoff' : F.off = false := by simpa using hoff
    rw [hoff'] at c3
    rw [if_neg hoff] at hE hEF
    by_cases h1 : a < 0
    · have HE := Lib.hid (show wE F a x = 2 by unfold wE; rw [if_neg hoff, if_pos (.inl h1)])
      have HEF := Lib.hid (show wF F a x = F by unfold wF; rw [if_neg hoff, if_pos (.inl h1)])
      clear hE hEF
      go_enter Tryd.func19, Tryd.ntmps19
      go_wp2_with (go_at_call 38; refine (good_any o i p F w HF.out).mono ?_; rintro e w1 ⟨rfl, rfl⟩)
      go_ret
      exact ⟨o, by rw [HE.out] <;> rfl, Upd.refl HFR.out, by rw [HEF.out]; exact HF.out⟩
    · by_cases h2 : (bl : Int) < a
      · have HE := Lib.hid (show wE F a x = 2 by unfold wE; rw [if_neg hoff, if_pos (.inr (by rw [← HBL.out]; exact h2))])
        have HEF := Lib.hid (show wF F a x = F by unfold wF; rw [if_neg hoff, if_pos (.inr (by rw [← HBL.out]; exact h2))])
        clear hE hEF
        go_enter Tryd.func19, Tryd.ntmps19
        go_wp2_with (go_at_call 38; refine (good_any o i p F w HF.out).mono ?_; rintro e w1 ⟨rfl, rfl⟩)
        go_ret
        exact ⟨o, by rw [HE.out] <;> rfl, Upd.refl HFR.out, by rw [HEF.out]; exact HF.out⟩
      · have hno : ¬ (a < 0 ∨ (F.b.length : Int) < a) := by rw [← HBL.out]; omega
        by_cases h3 : F.most - a < x.length
        · have HE := Lib.hid (show wE F a x = 3 by unfold wE; rw [if_neg hoff, if_neg hno, if_pos h3])
          have HEF := Lib.hid (show wF F a x = F by unfold wF; rw [if_neg hoff, if_neg hno, if_pos h3])
          clear hE hEF hno
          go_enter Tryd.func19, Tryd.ntmps19
          go_wp2_with (go_at_call 38; refine (good_any o i p F w HF.out).mono ?_; rintro e w1 ⟨rfl, rfl⟩)
          go_ret
          exact ⟨o, by rw [HE.out] <;> rfl, Upd.refl HFR.out, by rw [HEF.out]; exact HF.out⟩
        · obtain ⟨n, rfl⟩ := Int.eq_ofNat_of_zero_le (show 0 ≤ a by omega)
          have HE := Lib.hid (show wE F n x = wrE F x by unfold wE; rw [if_neg hoff, if_neg hno, if_neg h3])
          have HEF := Lib.hid (show wF F n x = wrF F n x by unfold wF; rw [if_neg hoff, if_neg hno, if_neg h3]; rfl)
          have HEA := Lib.hid (each_any o i h0 h9 p F n A c x w HF.out HFR.out (by omega) hhi (by rw [← HBL.out]; omega) HR.out hA (by omega) hc (by rw [← HBL.out]; omega) hrl)
          clear hE hEF hno hlo hhi
          go_enter Tryd.func19, Tryd.ntmps19
          go_wp2_with (first | (go_at_call 38; refine (good_any o i p F w HF.out).mono ?_; rintro e w1 ⟨rfl, rfl⟩) | (go_at_call 39; refine HEA.out.mono ?_; rintro e w2 ⟨o2, rfl, hu2, hf2⟩; have HU2 := Lib.hid hu2; have HF2 := Lib.hid hf2; clear hu2 hf2))
          go_ret
          exact ⟨o2, by rw [HE.out] <;> rfl, HU2.out, by rw [HEF.out]; exact HF2.out⟩
end Go.Proofs.YtadmpjikkpnjnaaDoor
