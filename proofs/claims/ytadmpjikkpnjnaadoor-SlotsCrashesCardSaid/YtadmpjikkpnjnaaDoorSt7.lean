/-
  store.File: Read, Len, Most, Bytes, Cut, Start, On. No premise.
-/
import Derived.Test.YtadmpjikkpnjnaaDoorSt6
namespace Go.Proofs.YtadmpjikkpnjnaaDoor
open Go.RowKit Go.Shelf Go.Proofs.YtadmpjikkpnjnaaDoorW.PrintWords

theorem own_rdv {w : World} {base : Nat} {A : Option Addr} {n c : Nat} {l : List Int} (h : Own w base (.slice A n c) l) : Rd w A l ∧ n = l.length ∧ l.length ≤ c := by
  obtain ⟨A', c', e, _, hr, hc⟩ := own_split h
  injection e with e1 e2 e3
  subst e1 e2 e3
  exact ⟨hr, rfl, hc⟩
set_option maxHeartbeats 400000 in
theorem len_any (o : Nat → Nat) (i p : Nat) (F : FM) (w : World) (hF : FileA w o i p F) :
    Calls Tryd.prog 33 #[.pointer (some ⟨p, 0, none⟩)] w fun e w' => e = .returned (.int .i64 F.b.length) ∧ w = w' := by
  have HF := Lib.hid hF
  obtain ⟨vb, vr, L, hF1⟩ := hF
  obtain ⟨Av, cv, hvb, _, _, _⟩ := own_split hF1.ob
  subst hvb
  obtain ⟨c0, c1, c2, c3, c4, c5⟩ := hF1.cells
  clear hF1
  go_enter Tryd.func33, Tryd.ntmps33
  go_wp2_with (go_at_call 38; refine (good_any o i p F w HF.out).mono ?_; rintro e w1 ⟨rfl, rfl⟩)
  go_ret
  exact ⟨rfl, rfl⟩
set_option maxHeartbeats 800000 in
theorem bytes_any (o : Nat → Nat) (i p : Nat) (F : FM) (w : World) (hF : FileA w o i p F) (hl : F.b.length ≤ 4200000) :
    Calls Tryd.prog 24 #[.pointer (some ⟨p, 0, none⟩)] w fun e w' => ∃ v, e = .returned v ∧ Own w' w.heap.size v F.b ∧ Below w.heap.size w w' := by
  have HF := Lib.hid hF
  obtain ⟨vb, vr, L, hF1⟩ := hF
  obtain ⟨Av, cv, hvb, _, hrd, _⟩ := own_split hF1.ob
  subst hvb
  have HR := Lib.hid hrd
  obtain ⟨c0, c1, c2, c3, c4, c5⟩ := hF1.cells
  clear hF1 hrd
  go_enter Tryd.func24, Tryd.ntmps24
  go_wp2_with (first | (go_at_call 38; refine (good_any o i p F w HF.out).mono ?_; rintro e w1 ⟨rfl, rfl⟩) | (go_at_call 36; refine (clone_any Av cv F.b w HR.out (by omega)).mono ?_; rintro e w2 ⟨v, rfl, ho, hb⟩))
  go_ret
  exact ⟨v, rfl, ho, hb⟩
def ctE (n : Int) : Int := if n < 0 then 2 else 0
def ctF (F : FM) (n : Int) : FM := if n < 0 then F else { F with left := n }
theorem FOk.ctF {F : FM} (h : FOk F) (n : Int) (hn : n ≤ 9223372036854775807) : FOk (ctF F n) := by
  unfold Go.Proofs.YtadmpjikkpnjnaaDoor.ctF
  split
  · exact h
  · exact ⟨h.len, h.most, (by show -1 ≤ n; omega), hn, h.bts, h.rbts⟩
set_option maxHeartbeats 800000 in
theorem cut_any (o : Nat → Nat) (i : Nat) (h0 : i ≠ 0) (h9 : i ≠ 9) (p : Nat) (F : FM) (n : Int) (w : World) (hF : FileA w o i p F) (hfr : Fr o w) :
    Calls Tryd.prog 18 #[.pointer (some ⟨p, 0, none⟩), .int .i64 n] w fun e w' => e = .returned (.int .i64 (ctE n)) ∧ Upd o o i w w' ∧ FileA w' o i p (ctF F n) := by
  have HF := Lib.hid hF
  have HFR := Lib.hid hfr
  obtain ⟨vb, vr, L, hF1⟩ := hF
  obtain ⟨c0, c1, c2, c3, c4, c5⟩ := hF1.cells
  have hfz4 : w.frozen? ⟨p, 4, none⟩ = false := blk_frozen hF1.blk 4
  have HF1 := Lib.hid hF1
  clear hF1 hfr
  by_cases hn : n < 0
  · have HE := Lib.hid (show ctE n = 2 by unfold ctE; rw [if_pos hn])
    have HEF := Lib.hid (show ctF F n = F by unfold ctF; rw [if_pos hn])
    go_enter Tryd.func18, Tryd.ntmps18
    go_wp2_with (go_at_call 38; refine (good_any o i p F w HF.out).mono ?_; rintro e w1 ⟨rfl, rfl⟩)
    go_ret
    exact ⟨by rw [HE.out] <;> rfl, Upd.refl HFR.out, by rw [HEF.out]; exact HF.out⟩
  · have HE := Lib.hid (show ctE n = 0 by unfold ctE; rw [if_neg hn])
    have HEF := Lib.hid (show ctF F n = { F with left := n } by unfold ctF; rw [if_neg hn])
    go_enter Tryd.func18, Tryd.ntmps18
    go_wp2_with (go_at_call 38; refine (good_any o i p F w HF.out).mono ?_; rintro e w1 ⟨rfl, rfl⟩)
    go_ret
    have hset := blk_set HF1.out.blk 4 (.int .i64 n)
    refine ⟨by rw [HE.out] <;> rfl, (Upd.refl HFR.out).setCell (a := ⟨p, 4, none⟩) HF1.out.tp h0 HF1.out.blk (by unfold ctl; decide) _, vb, vr, L, ?_⟩
    rw [HEF.out]
    exact HF1.out.stored h9 HF1.out.tp (fun k hk hne => Below.heap_setCell _ _ _ _ hne) (by simp [World.setCell]) (fun _ _ => rfl) (by simpa using hset) rfl rfl
set_option maxHeartbeats 800000 in
theorem start_any (o : Nat → Nat) (i : Nat) (h0 : i ≠ 0) (h9 : i ≠ 9) (p : Nat) (F : FM) (w : World) (hF : FileA w o i p F) (hfr : Fr o w) :
    Calls Tryd.prog 28 #[.pointer (some ⟨p, 0, none⟩)] w fun e w' => e = .returned (.tuple #[]) ∧ Upd o o i w w' ∧ FileA w' o i p { F with off := false } := by
  have HF := Lib.hid hF
  have HFR := Lib.hid hfr
  obtain ⟨vb, vr, L, hF1⟩ := hF
  obtain ⟨c0, c1, c2, c3, c4, c5⟩ := hF1.cells
  have hfz3 : w.frozen? ⟨p, 3, none⟩ = false := blk_frozen hF1.blk 3
  have HF1 := Lib.hid hF1
  clear hF1 hfr
  go_enter Tryd.func28, Tryd.ntmps28
  go_wp2_with (go_at_call 38; refine (good_any o i p F w HF.out).mono ?_; rintro e w1 ⟨rfl, rfl⟩)
  go_end0
  have hset := blk_set HF1.out.blk 3 (.bool false)
  refine ⟨rfl, (Upd.refl HFR.out).setCell (a := ⟨p, 3, none⟩) HF1.out.tp h0 HF1.out.blk (by unfold ctl; decide) _, vb, vr, L, ?_⟩
  exact HF1.out.stored h9 HF1.out.tp (fun k hk hne => Below.heap_setCell _ _ _ _ hne) (by simp [World.setCell]) (fun _ _ => rfl) (by simpa using hset) rfl rfl
def rdE (F : FM) (a n : Int) : Int := if F.off = true then 6 else if a < 0 ∨ n < 0 then 2 else if ((F.b.length : Int) < a ∧ 0 < n) ∨ (a ≤ F.b.length ∧ (F.b.length : Int) - a < n) then 4 else 0
def rdL (F : FM) (a n : Int) : List Int := if rdE F a n = 0 then (F.b.drop a.toNat).take n.toNat else []
theorem rdL_bad {F : FM} {a n e : Int} (h : rdE F a n = e) (he : e ≠ 0) : rdL F a n = [] := by unfold rdL; rw [if_neg (by rw [h]; exact he)]
theorem rdL_bts {F : FM} (h : Bts F.b) (a n : Int) : Bts (rdL F a n) := by
  unfold rdL
  split
  · exact (h.drop _).take _
  · exact Bts.nil
def ReadPost (F : FM) (a n : Int) (w : World) (e : Ending) (w' : World) : Prop := ∃ v, e = .returned (.tuple #[v, .int .i64 (rdE F a n)]) ∧ Own w' w.heap.size v (rdL F a n) ∧ Below w.heap.size w w'
set_option maxHeartbeats 1600000 in
theorem read_any (o : Nat → Nat) (i p : Nat) (F : FM) (a n : Int) (w : World) (hF : FileA w o i p F) (hl : F.b.length ≤ 4200000) (ha1 : -9223372036854775808 ≤ a) (ha2 : a ≤ 9223372036854775807) (hn1 : -9223372036854775808 ≤ n) (hn2 : n ≤ 9223372036854775807) :
    Calls Tryd.prog 37 #[.pointer (some ⟨p, 0, none⟩), .int .i64 a, .int .i64 n] w (ReadPost F a n w) := by
  have HF := Lib.hid hF
  obtain ⟨vb, vr, L, hF1⟩ := hF
  obtain ⟨Av, cv, hvb, _, hrd, hcv⟩ := own_split hF1.ob
  obtain ⟨bl, hbl⟩ : ∃ bl, bl = F.b.length := ⟨_, rfl⟩
  rw [← hbl] at hvb
  subst hvb
  have HR := Lib.hid hrd
  obtain ⟨c0, c1, c2, c3, c4, c5⟩ := hF1.cells
  have HBL := Lib.hid hbl
  rw [← hbl] at hl hcv
  clear hF1 hrd c4 c5 c2 hbl
  by_cases hoff : F.off = true
  · rw [hoff] at c3
    have HE := Lib.hid (show rdE F a n = 6 by unfold rdE; rw [if_pos hoff])
    go_enter Tryd.func37, Tryd.ntmps37
    go_wp2_with (go_at_call 38; refine (good_any o i p F w HF.out).mono ?_; rintro e w1 ⟨rfl, rfl⟩)
    go_ret2
    exact ⟨_, ret2 (by rw [HE.out]), by rw [rdL_bad HE.out (by decide)]; exact World.ownsRow_nil _ _ _ _, Below.refl _ _⟩
  · have hoff' : F.off = false := by simpa using hoff
    rw [hoff'] at c3
    by_cases h1 : a < 0
    · have HE := Lib.hid (show rdE F a n = 2 by unfold rdE; rw [if_neg hoff, if_pos (.inl h1)])
      go_enter Tryd.func37, Tryd.ntmps37
      go_wp2_with (go_at_call 38; refine (good_any o i p F w HF.out).mono ?_; rintro e w1 ⟨rfl, rfl⟩)
      go_ret2
      exact ⟨_, ret2 (by rw [HE.out]), by rw [rdL_bad HE.out (by decide)]; exact World.ownsRow_nil _ _ _ _, Below.refl _ _⟩
    by_cases h2 : n < 0
    · have HE := Lib.hid (show rdE F a n = 2 by unfold rdE; rw [if_neg hoff, if_pos (.inr h2)])
      go_enter Tryd.func37, Tryd.ntmps37
      go_wp2_with (go_at_call 38; refine (good_any o i p F w HF.out).mono ?_; rintro e w1 ⟨rfl, rfl⟩)
      go_ret2
      exact ⟨_, ret2 (by rw [HE.out]), by rw [rdL_bad HE.out (by decide)]; exact World.ownsRow_nil _ _ _ _, Below.refl _ _⟩
    obtain ⟨a, rfl⟩ := Int.eq_ofNat_of_zero_le (show 0 ≤ a by omega)
    obtain ⟨n, rfl⟩ := Int.eq_ofNat_of_zero_le (show 0 ≤ n by omega)
    have hno : ¬ (((a : Int) < 0) ∨ ((n : Int) < 0)) := by omega
    by_cases h3 : bl < a
    · have hm : ¬ (0 : Int) ≤ (bl : Int) - (a : Int) := by omega
      by_cases h4 : 0 < n
      · have HE := Lib.hid (show rdE F a n = 4 by unfold rdE; rw [if_neg hoff, if_neg hno, if_pos (by rw [← HBL.out]; omega)])
        clear hno
        go_enter Tryd.func37, Tryd.ntmps37
        go_wp2_with (go_at_call 38; refine (good_any o i p F w HF.out).mono ?_; rintro e w1 ⟨rfl, rfl⟩)
        go_ret2
        exact ⟨_, ret2 (by rw [HE.out]), by rw [rdL_bad HE.out (by decide)]; exact World.ownsRow_nil _ _ _ _, Below.refl _ _⟩
      · have hn0 : n = 0 := by omega
        subst hn0
        have HE := Lib.hid (show rdE F a (0 : Nat) = 0 by unfold rdE; rw [if_neg hoff, if_neg hno, if_neg (by rw [← HBL.out]; omega)])
        have HL := Lib.hid (show rdL F a (0 : Nat) = [] by unfold rdL; rw [if_pos HE.out]; simp)
        clear hno
        go_enter Tryd.func37, Tryd.ntmps37
        go_wp2_with (go_at_call 38; refine (good_any o i p F w HF.out).mono ?_; rintro e w1 ⟨rfl, rfl⟩)
        go_ret2
        exact ⟨_, ret2 (by rw [HE.out]), by rw [HL.out]; exact World.ownsRow_nil _ _ _ _, Below.refl _ _⟩
    · have hm : (0 : Int) ≤ (bl : Int) - (a : Int) := by omega
      by_cases h4 : (bl : Int) - (a : Int) < n
      · have HE := Lib.hid (show rdE F a n = 4 by unfold rdE; rw [if_neg hoff, if_neg hno, if_pos (by rw [← HBL.out]; omega)])
        clear hno
        go_enter Tryd.func37, Tryd.ntmps37
        go_wp2_with (go_at_call 38; refine (good_any o i p F w HF.out).mono ?_; rintro e w1 ⟨rfl, rfl⟩)
        go_ret2
        exact ⟨_, ret2 (by rw [HE.out]), by rw [rdL_bad HE.out (by decide)]; exact World.ownsRow_nil _ _ _ _, Below.refl _ _⟩
      · by_cases h5 : n = 0
        · subst h5
          have HE := Lib.hid (show rdE F a (0 : Nat) = 0 by unfold rdE; rw [if_neg hoff, if_neg hno, if_neg (by rw [← HBL.out]; omega)])
          have HL := Lib.hid (show rdL F a (0 : Nat) = [] by unfold rdL; rw [if_pos HE.out]; simp)
          clear hno
          go_enter Tryd.func37, Tryd.ntmps37
          go_wp2_with (go_at_call 38; refine (good_any o i p F w HF.out).mono ?_; rintro e w1 ⟨rfl, rfl⟩)
          go_ret2
          exact ⟨_, ret2 (by rw [HE.out]), by rw [HL.out]; exact World.ownsRow_nil _ _ _ _, Below.refl _ _⟩
        · have HE := Lib.hid (show rdE F a n = 0 by unfold rdE; rw [if_neg hoff, if_neg hno, if_neg (by rw [← HBL.out]; omega)])
          have HL := Lib.hid (show rdL F a n = (F.b.drop a).take n by unfold rdL; rw [if_pos HE.out]; simp)
          obtain ⟨A', l', hl', hl'n, hcut, hcr, hlc⟩ := cut_int Av F.b cv (a : Int) ((a : Int) + (n : Int)) (by omega) (by omega) (by rw [← HBL.out]; omega) (by rw [← HBL.out]; exact hcv)
          have hl2 : l' = (F.b.drop a).take n := by
            have := hl'.out
            rw [Int.toNat_natCast, show ((a : Int) + (n : Int) - (a : Int)).toNat = n from by omega] at this
            exact this
          have HL2 := Lib.hid hl2
          have HCR := Lib.hid (hcr _ HR.out)
          have hln := hl'n.out
          rw [← HBL.out] at hcut
          have hn5 : ¬ (n : Int) = 0 := by omega
          have hn6 : ((n : Int) == 0) = false := by rw [beq_eq_false_iff_ne]; exact hn5
          have hl3 : l'.length ≤ 150000000000000 := by omega
          clear hno hl' hl'n hl2 hcr hln
          go_enter Tryd.func37, Tryd.ntmps37
          go_wp2_with (first | (go_at_call 38; refine (good_any o i p F w HF.out).mono ?_; rintro e w1 ⟨rfl, rfl⟩) | (go_at_call 36; refine (clone_any A' _ l' w HCR.out hl3).mono ?_; rintro e w2 ⟨v, rfl, ho, hb⟩))
          go_ret2
          exact ⟨v, ret2 (by rw [HE.out]), by rw [HL.out, ← HL2.out]; exact ho, hb⟩
end Go.Proofs.YtadmpjikkpnjnaaDoor
