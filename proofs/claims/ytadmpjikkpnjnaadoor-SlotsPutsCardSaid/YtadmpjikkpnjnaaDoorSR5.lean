/-
  slabvaultref03.File.Write, whatever it is asked; slabvaultlaw03.alike. No premise.
-/
import Derived.Test.YtadmpjikkpnjnaaDoorSR4
import Derived.Deep.RegionHeld3
namespace Go.Proofs.YtadmpjikkpnjnaaDoor
open Go.RowKit Go.Shelf Go.Proofs.YtadmpjikkpnjnaaDoorW.PrintWords

set_option maxRecDepth 100000 in
set_option maxHeartbeats 1600000 in
theorem refWrite_any (o : Nat → Nat) (i : Nat) (h0 : i ≠ 0) (h9 : i ≠ 9) (p : Nat) (F : FM) (a : Int) (A : Option Addr) (c : Nat) (x : List Int) (w : World) (hF : RefA w o i p F) (hfr : Fr o w) (hok : FOk F)
    (ha : -9223372036854775808 ≤ a) (ha2 : a ≤ 9223372036854775807) (hr : Rd w A x) (hA : 0 < x.length → ∀ a, A = some a → o a.block ≠ i) (hx : x.length ≤ 150000000000000) (hc : x.length ≤ c) (hbx : Bts x) (hrl : F.raws.length ≤ 900000000) :
    Calls Tryd.prog 23 #[.pointer (some ⟨p, 0, none⟩), .int .i64 a, .slice A x.length c] w (RWritePost o i p F a x w) := by
  have HF := Lib.hid hF
  have HFR := Lib.hid hfr
  obtain ⟨vb, vr, lf, L, hF1⟩ := hF
  obtain ⟨Av, cv, hvb, _, _, _⟩ := own_split hF1.ob
  obtain ⟨bl, hbl⟩ : ∃ bl, bl = F.b.length := ⟨_, rfl⟩
  rw [← hbl] at hvb
  subst hvb
  obtain ⟨c0, c1, c2, c3, c4, c5⟩ := hF1.cells
  have hlen := hok.len
  have hmost := hok.most
  rw [← hbl] at hlen
  have HBL := Lib.hid hbl
  have HOK := Lib.hid hok
  clear hF1 hok c3 c4 c5 hbl
  by_cases hoff : F.off = true
  · rw [hoff] at c2
    clear hfr hr
    go_enter Tryd.func23, Tryd.ntmps23
    go_wp2_with fail
    go_ret
    refine ⟨o, by unfold wE; rw [if_pos hoff] <;> rfl, Upd.refl HFR.out, by unfold wF; rw [if_pos hoff]; exact HF.out⟩
  · have hoff' : F.off = false := by simpa using hoff
    rw [hoff'] at c2
    by_cases h1 : a < 0
    · have HE := Lib.hid (show wE F a x = 2 by unfold wE; rw [if_neg hoff, if_pos (.inl h1)])
      have HEF := Lib.hid (show wF F a x = F by unfold wF; rw [if_neg hoff, if_pos (.inl h1)])
      clear hfr hr
      go_enter Tryd.func23, Tryd.ntmps23
      go_wp2_with fail
      go_ret
      exact ⟨o, by rw [HE.out] <;> rfl, Upd.refl HFR.out, by rw [HEF.out]; exact HF.out⟩
    · by_cases h2 : (bl : Int) < a
      · have HE := Lib.hid (show wE F a x = 2 by unfold wE; rw [if_neg hoff, if_pos (.inr (by rw [← HBL.out]; exact h2))])
        have HEF := Lib.hid (show wF F a x = F by unfold wF; rw [if_neg hoff, if_pos (.inr (by rw [← HBL.out]; exact h2))])
        clear hfr hr
        go_enter Tryd.func23, Tryd.ntmps23
        go_wp2_with fail
        go_ret
        exact ⟨o, by rw [HE.out] <;> rfl, Upd.refl HFR.out, by rw [HEF.out]; exact HF.out⟩
      · have hno : ¬ (a < 0 ∨ (F.b.length : Int) < a) := by rw [← HBL.out]; omega
        by_cases h3 : F.most - a < x.length
        · have HE := Lib.hid (show wE F a x = 3 by unfold wE; rw [if_neg hoff, if_neg hno, if_pos h3])
          have HEF := Lib.hid (show wF F a x = F by unfold wF; rw [if_neg hoff, if_neg hno, if_pos h3])
          clear hno hfr hr
          go_enter Tryd.func23, Tryd.ntmps23
          go_wp2_with fail
          go_ret
          exact ⟨o, by rw [HE.out] <;> rfl, Upd.refl HFR.out, by rw [HEF.out]; exact HF.out⟩
        · obtain ⟨n, rfl⟩ := Int.eq_ofNat_of_zero_le (show 0 ≤ a by omega)
          have HE := show wE F n x = wrE F x by unfold wE; rw [if_neg hoff, if_neg hno, if_neg h3]
          have HEF := show wF F n x = wrF F n x by unfold wF; rw [if_neg hoff, if_neg hno, if_neg h3]; rfl
          refine (refWrite_go o i h0 h9 p F n A c x w HF.out hfr HOK.out (by rw [← HBL.out]; omega) (by omega) hoff' hr hA hc hbx hrl).mono ?_
          rintro e w2 ⟨o2, rfl, hu2, hf2⟩
          exact ⟨o2, by rw [HE], hu2, by rw [HEF]; exact hf2⟩
theorem rws_at {L M : List Rw} (h : rws L = rws M) (k : Nat) (h1 : k < L.length) (h2 : k < M.length) : L[k].pl = M[k].pl ∧ L[k].b = M[k].b := by
  have e : (rws L)[k]? = (rws M)[k]? := by rw [h]
  unfold rws at e
  rw [List.getElem?_map, List.getElem?_map, List.getElem?_eq_getElem h1, List.getElem?_eq_getElem h2] at e
  simp only [Option.map_some, Option.some.injEq, Prod.mk.injEq] at e
  exact e
end Go.Proofs.YtadmpjikkpnjnaaDoor
