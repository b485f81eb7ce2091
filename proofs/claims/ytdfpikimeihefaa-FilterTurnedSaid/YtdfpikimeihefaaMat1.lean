/-
  match.find. No premise.
-/
import Derived.Test.YtdfpikimeihefaaMaP
import Derived.Test.YtdfpikimeihefaaShf1
import Derived.Deep.QuietTactic
import Derived.BigQuiet
namespace Go.Proofs.Ytdfpikimeihefaa
open Go.RowKit Go.Proofs.YtdfpikimeihefaaW.PrintWords

def FindPost (l : List Int) (at_ : Nat) (w : World) (e : Ending) (w' : World) : Prop :=
  e = .returned (.tuple #[.int .i64 (best l at_).1, .int .i64 (best l at_).2]) ∧ ∃ m, w' = w.drewN m
theorem find_end (l : List Int) (at_ D : Nat) (h : D ≤ min 255 at_) (hf : D = min 255 at_ ∨ roomL l at_ ≤ (bst (mlen l at_) D).1) : bst (mlen l at_) D = best l at_ := by
  unfold best
  rcases hf with h1 | h1
  · rw [h1]
  · have := bst_full (mlen_le l at_) D (min 255 at_ - D) h1
    rw [show D + (min 255 at_ - D) = min 255 at_ from by omega] at this
    exact this.symm
set_option maxHeartbeats 1600000 in
set_option maxRecDepth 100000 in
theorem find_any (ad : Addr) (c : Nat) (l : List Int) (at_ : Nat) (w : World) (hr : Rd w (some ad) l) (_ : l.length ≤ c) (hl : l.length ≤ 150000000000000) (ha : at_ < l.length) :
    Calls Try.prog 65 #[.slice (some ad) l.length c, .int .i64 at_] w (FindPost l at_ w) := by
  have HR := Lib.hid hr
  clear hr
  obtain ⟨room, hroom⟩ : ∃ room, room = roomL l at_ := ⟨_, rfl⟩
  have hr1 : room ≤ 131 := by rw [hroom]; unfold roomL; omega
  have hr2 : at_ + room ≤ l.length := by rw [hroom]; unfold roomL; omega
  have HRM := Lib.hid hroom
  clear hroom
  have hv : (131 ≤ (l.length : Int) - (at_ : Int) ∧ (131 : Int) = (room : Int)) ∨ (¬ 131 ≤ (l.length : Int) - (at_ : Int) ∧ (l.length : Int) - (at_ : Int) = (room : Int)) := by
    have := HRM.out
    unfold roomL at this
    omega
  rcases hv with ⟨hv1, hv2⟩ | ⟨hv1, hv2⟩
  all_goals
    have HV := Lib.hid hv2
    clear hv2
    go_enter Try.func65, Try.ntmps65
    go_wp2_with fail
    rw [HV.out]
    clear HV hv1
    go_loopw [4, 5, 7] (fun t4 t5 t7 wr => ∃ D : Nat, D ≤ 255 ∧ D ≤ at_ ∧ t7 = .int .i64 ((D : Int) + 1) ∧ t4 = .int .i64 (bst (mlen l at_) D).1 ∧ t5 = .int .i64 (bst (mlen l at_) D).2 ∧ Hid (∃ m, wr = w.drewN m)) (fun _ _ t _ => 256 - (intOf t).toNat)
    case atStart => exact ⟨0, by omega, by omega, rfl, rfl, rfl, 0, rfl⟩
    case round =>
      obtain ⟨D, hD1, hD2, rfl, rfl, rfl, HW⟩ := hrel
      have hble : (bst (mlen l at_) D).1 ≤ room := by rw [HRM.out]; exact bst_le (mlen_le l at_) D
      have hend := find_end l at_ D (by omega)
      rw [← HRM.out] at hend
      have HEND := Lib.hid hend
      have HY := Lib.hid (bst_yes (mlen l at_) D)
      have HN := Lib.hid (bst_no (mlen l at_) D)
      have hby := bst_by (mlen l at_) D
      clear hend
      generalize hbst : bst (mlen l at_) D = bd at hble HEND HY HN hby ⊢
      clear hbst
      obtain ⟨len, by_⟩ := bd
      simp only at hble hby HY HN HEND ⊢
      by_cases hgo : (D < 255 ∧ D < at_) ∧ len < room
      · obtain ⟨⟨hD3, hD4⟩, hlr⟩ := hgo
        clear HEND
        by_cases h255 : 255 ≤ (at_ : Int)
        all_goals
          go_wp2_with fail
          obtain ⟨wo, rfl⟩ : ∃ wo : World, wo = wr := ⟨_, rfl⟩
          have HM := Lib.hid (show mlen l at_ (D + 1) = ml (mtc l at_ (D + 1)) 0 (room - 0) from by rw [HRM.out]; rfl)
          go_loopw [8] (fun t wq => ∃ n : Nat, n ≤ room ∧ t = .int .i64 n ∧ Hid (ml (mtc l at_ (D + 1)) n (room - n) = mlen l at_ (D + 1)) ∧ Hid (∃ m, wq = w.drewN m)) (fun t _ => room - (intOf t).toNat)
          case atStart => exact ⟨0, by omega, rfl, HM.out.symm, HW.out⟩
          case round =>
            obtain ⟨n, hn, rfl, HML, HWn⟩ := hrel
            by_cases hnr : n < room
            · obtain ⟨m, hm⟩ := HWn.out
              have hx := rd_cell HR.out (at_ + n) (by omega)
              have hy := rd_cell HR.out (at_ + n - (D + 1)) (by omega)
              have hx' : wr.cell? (ad.add (at_ + n)) = some (.int .u8 (rdI l (at_ + n))) := by rw [hm]; exact hx
              have hy' : wr.cell? (ad.add (at_ + n - (D + 1))) = some (.int .u8 (rdI l (at_ + n - (D + 1)))) := by rw [hm]; exact hy
              have HW' := Lib.hid hm
              have hmt : mtc l at_ (D + 1) n = (rdI l (at_ + n) == rdI l (at_ + n - (D + 1))) := rfl
              clear hx hy hm
              generalize rdI l (at_ + n) = x at hx' hmt
              generalize rdI l (at_ + n - (D + 1)) = y at hy' hmt
              have hs1 : ((at_ : Int) + (n : Int)).toNat = at_ + n := by omega
              have hs2 : ((at_ : Int) + (n : Int) - ((D : Int) + 1)).toNat = at_ + n - (D + 1) := by omega
              have hz1 : (0 : Int) ≤ (at_ : Int) + (n : Int) := by omega
              have hz2 : (0 : Int) ≤ (at_ : Int) + (n : Int) - ((D : Int) + 1) := by omega
              have hi1 : (at_ : Int) + (n : Int) < (l.length : Int) := by omega
              have hi2 : (at_ : Int) + (n : Int) - ((D : Int) + 1) < (l.length : Int) := by omega
              have hnri : (n : Int) < (room : Int) := by omega
              have hw1 : IntKind.i64.wrap ((at_ : Int) + (n : Int)) = (at_ : Int) + (n : Int) := IntWalk.i64_in _ (by omega)
              have hw2 : IntKind.i64.wrap ((at_ : Int) + (n : Int) - ((D : Int) + 1)) = (at_ : Int) + (n : Int) - ((D : Int) + 1) := IntWalk.i64_in _ (by clear hw1; omega)
              by_cases hxy : x = y
              · subst hxy
                have hYES := ml_yes (m := room) (p := mtc l at_ (D + 1)) (n := n) (by rw [hmt]; simp) hnr
                have HYES := Lib.hid hYES
                clear hYES hmt
                go_wp2_with fail
                go_quiet (fail)
                clear hw1 hw2 hs1 hs2
                go_wp2_with fail
                go_roundw
                case rel => exact ⟨n + 1, by omega, by push_cast; rfl, by rw [← HYES.out]; exact HML.out, _, by rw [HW'.out, World.drewN_drewN]⟩
                case measure => simp [intOf]; omega
              · have hNO := ml_no (m := room) (p := mtc l at_ (D + 1)) (n := n) (by rw [hmt]; simpa using hxy) hnr
                have HNO := Lib.hid (hNO.symm.trans HML.out)
                have hxyb : (x == y) = false := beq_eq_false_iff_ne.2 hxy
                clear hNO hmt hxy
                go_wp2_with fail
                go_quiet (fail)
                clear hw1 hw2 hs1 hs2
                by_cases hgt : len < n
                · have HB := Lib.hid ((HY.out (by rw [← HNO.out]; exact hgt)).trans (by rw [← HNO.out]))
                  clear HY HN HM HML
                  go_wp2_with fail
                  go_roundw
                  case rel => exact ⟨D + 1, by omega, by omega, by push_cast; rfl, by rw [HB.out], by rw [HB.out]; push_cast; rfl, _, by rw [HW'.out, World.drewN_drewN]⟩
                  case measure => simp [intOf]; omega
                · have HB := Lib.hid (HN.out (by rw [← HNO.out]; exact hgt))
                  clear HY HN HM HML
                  go_wp2_with fail
                  go_roundw
                  case rel => exact ⟨D + 1, by omega, by omega, by push_cast; rfl, by rw [HB.out], by rw [HB.out], _, by rw [HW'.out, World.drewN_drewN]⟩
                  case measure => simp [intOf]; omega
            · have hnr' : n = room := by omega
              have HNO := Lib.hid (show n = mlen l at_ (D + 1) from by
                have := HML.out
                rw [hnr', Nat.sub_self] at this
                rw [hnr']
                exact this)
              have hnri : ¬ (n : Int) < (room : Int) := by omega
              have hnrd : decide ((n : Int) < (room : Int)) = false := by simpa using hnri
              clear hnr'
              go_wp2_with fail
              go_quiet (fail)
              by_cases hgt : len < n
              · have HB := Lib.hid ((HY.out (by rw [← HNO.out]; exact hgt)).trans (by rw [← HNO.out]))
                clear HY HN HM HML
                go_wp2_with fail
                go_roundw
                case rel => exact ⟨D + 1, by omega, by omega, by push_cast; rfl, by rw [HB.out], by rw [HB.out]; push_cast; rfl, by obtain ⟨m, hm⟩ := HWn.out; exact ⟨_, by rw [hm, World.drewN_drewN]⟩⟩
                case measure => simp [intOf]; omega
              · have HB := Lib.hid (HN.out (by rw [← HNO.out]; exact hgt))
                clear HY HN HM HML
                go_wp2_with fail
                go_roundw
                case rel => exact ⟨D + 1, by omega, by omega, by push_cast; rfl, by rw [HB.out], by rw [HB.out], by obtain ⟨m, hm⟩ := HWn.out; exact ⟨_, by rw [hm, World.drewN_drewN]⟩⟩
                case measure => simp [intOf]; omega
      · have hres : (len, by_) = best l at_ := HEND.out (by omega)
        have HRES := Lib.hid hres
        clear hres HEND HY HN
        by_cases h255 : 255 ≤ (at_ : Int)
        all_goals
          by_cases hA : D < 255 ∧ D < at_
          · obtain ⟨hA1, hA2⟩ := hA
            have hB : ¬ len < room := by omega
            clear hgo
            go_wp2_with fail
            go_ret2
            exact ⟨by rw [← HRES.out]; rfl, HW.out⟩
          · have hA' : 255 ≤ D ∨ at_ ≤ D := by omega
            clear hgo hA
            first
              | (have hA2 : 255 ≤ D := by omega
                 clear hA'
                 go_wp2_with fail
                 go_ret2
                 exact ⟨by rw [← HRES.out]; rfl, HW.out⟩)
              | (have hA2 : at_ ≤ D := by omega
                 clear hA'
                 go_wp2_with fail
                 go_ret2
                 exact ⟨by rw [← HRES.out]; rfl, HW.out⟩)
end Go.Proofs.Ytdfpikimeihefaa
