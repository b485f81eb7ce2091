/-
  slabvaultref15: alike, best, run. No premise.
-/
import Derived.Test.YtdfpikimeihefaaMat4
namespace Go.Proofs.Ytdfpikimeihefaa
open Go.RowKit Go.Proofs.YtdfpikimeihefaaW.PrintWords

set_option maxRecDepth 100000 in
set_option maxHeartbeats 1600000 in
theorem alike_any (ad : Addr) (c : Nat) (l : List Int) (at_ d : Nat) (w : World) (hr : Rd w (some ad) l) (_ : l.length ≤ c) (hl : l.length ≤ 150000000000000) (ha : at_ < l.length) (hd1 : 1 ≤ d) (hd2 : d ≤ at_) :
    Calls Try.prog 71 #[.slice (some ad) l.length c, .int .i64 at_, .int .i64 d] w fun e w' => e = .returned (.int .i64 (mlen l at_ d)) ∧ ∃ m, w' = w.drewN m := by
  have HR := Lib.hid hr
  clear hr
  obtain ⟨room, hroom⟩ : ∃ room, room = roomL l at_ := ⟨_, rfl⟩
  have hr1 : room ≤ 131 := by rw [hroom]; unfold roomL; omega
  have hr2 : at_ + room ≤ l.length := by rw [hroom]; unfold roomL; omega
  have hr3 : room = 131 ∨ at_ + room = l.length := by rw [hroom]; unfold roomL; omega
  have HR3 := Lib.hid hr3
  have HM := Lib.hid (show mlen l at_ d = ml (mtc l at_ d) 0 (room - 0) from by rw [hroom]; rfl)
  clear hroom hr3
  go_enter Try.func71, Try.ntmps71
  go_wp2_with fail
  go_loopw [7] (fun t wq => ∃ n : Nat, n ≤ room ∧ t = .int .i64 n ∧ Hid (ml (mtc l at_ d) n (room - n) = mlen l at_ d) ∧ Hid (∃ m, wq = w.drewN m)) (fun t _ => room - (intOf t).toNat)
  case atStart => exact ⟨0, by omega, rfl, HM.out.symm, 0, rfl⟩
  case round =>
    obtain ⟨n, hn, rfl, HML, HWn⟩ := hrel
    obtain ⟨m, hm⟩ := HWn.out
    have HW' := Lib.hid hm
    by_cases hnr : n < room
    · have hx := rd_cell HR.out (at_ + n) (by omega)
      have hy := rd_cell HR.out (at_ + n - d) (by omega)
      have hx' : wr.cell? (ad.add (at_ + n)) = some (.int .u8 (rdI l (at_ + n))) := by rw [hm]; exact hx
      have hy' : wr.cell? (ad.add (at_ + n - d)) = some (.int .u8 (rdI l (at_ + n - d))) := by rw [hm]; exact hy
      have hmt : mtc l at_ d n = (rdI l (at_ + n) == rdI l (at_ + n - d)) := rfl
      clear hx hy hm
      generalize rdI l (at_ + n) = x at hx' hmt
      generalize rdI l (at_ + n - d) = y at hy' hmt
      have hs1 : ((at_ : Int) + (n : Int)).toNat = at_ + n := by omega
      have hs2 : ((at_ : Int) + (n : Int) - (d : Int)).toNat = at_ + n - d := by omega
      have hz1 : (0 : Int) ≤ (at_ : Int) + (n : Int) := by omega
      have hz2 : (0 : Int) ≤ (at_ : Int) + (n : Int) - (d : Int) := by omega
      have hi1 : (at_ : Int) + (n : Int) < (l.length : Int) := by omega
      have hi2 : (at_ : Int) + (n : Int) - (d : Int) < (l.length : Int) := by omega
      have hn131 : (n : Int) < 131 := by omega
      have hw1 : IntKind.i64.wrap ((at_ : Int) + (n : Int)) = (at_ : Int) + (n : Int) := IntWalk.i64_in _ (by omega)
      have hw2 : IntKind.i64.wrap ((at_ : Int) + (n : Int) - (d : Int)) = (at_ : Int) + (n : Int) - (d : Int) := IntWalk.i64_in _ (by clear hw1; omega)
      by_cases hxy : x = y
      · subst hxy
        have HYES := Lib.hid (ml_yes (m := room) (p := mtc l at_ d) (n := n) (by rw [hmt]; simp) hnr)
        clear hmt
        go_wp2_with fail
        go_quiet (fail)
        clear hw1 hw2 hs1 hs2
        go_wp2_with fail
        go_roundw
        case rel => exact ⟨n + 1, by omega, by push_cast; rfl, by rw [← HYES.out]; exact HML.out, _, by rw [HW'.out, World.drewN_drewN]⟩
        case measure => simp [intOf]; omega
      · have hNO := ml_no (m := room) (p := mtc l at_ d) (n := n) (by rw [hmt]; simpa using hxy) hnr
        have HNO := Lib.hid (hNO.symm.trans HML.out)
        have hxyb : (x == y) = false := beq_eq_false_iff_ne.2 hxy
        clear hNO hmt hxy
        go_wp2_with fail
        go_quiet (fail)
        clear hw1 hw2 hs1 hs2
        go_wp2_with fail
        go_ret
        exact ⟨by rw [← HNO.out]; rfl, _, by rw [HW'.out, World.drewN_drewN]⟩
    · have hnr' : n = room := by omega
      have HNO := Lib.hid (show n = mlen l at_ d from by
        have := HML.out
        rw [hnr', Nat.sub_self] at this
        rw [hnr']
        exact this)
      have hw1 : IntKind.i64.wrap ((at_ : Int) + (n : Int)) = (at_ : Int) + (n : Int) := IntWalk.i64_in _ (by omega)
      clear hm
      by_cases h131 : n < 131
      · have hlt131 : (n : Int) < 131 := by omega
        have hnl : ¬ (at_ : Int) + (n : Int) < (l.length : Int) := by have := HR3.out; clear hw1; omega
        have hnld : decide ((at_ : Int) + (n : Int) < (l.length : Int)) = false := by simpa using hnl
        clear hnr hnr'
        go_wp2_with fail
        go_quiet (fail)
        clear hw1
        go_wp2_with fail
        go_ret
        exact ⟨by rw [← HNO.out]; rfl, _, by rw [HW'.out, World.drewN_drewN]⟩
      · have hlt131 : ¬ (n : Int) < 131 := by omega
        have hnld : decide ((n : Int) < 131) = false := by simpa using hlt131
        clear hnr hnr'
        go_wp2_with fail
        go_quiet (fail)
        clear hw1
        go_wp2_with fail
        go_ret
        exact ⟨by rw [← HNO.out]; rfl, _, by rw [HW'.out, World.drewN_drewN]⟩

set_option maxRecDepth 100000 in
set_option maxHeartbeats 1600000 in
theorem refBest_any (ad : Addr) (c : Nat) (l : List Int) (at_ : Nat) (w : World) (hr : Rd w (some ad) l) (hc : l.length ≤ c) (hl : l.length ≤ 150000000000000) (ha : at_ < l.length) :
    Calls Try.prog 59 #[.slice (some ad) l.length c, .int .i64 at_] w (FindPost l at_ w) := by
  have HR := Lib.hid hr
  clear hr
  go_enter Try.func59, Try.ntmps59
  go_wp2_with fail
  go_loopw [6, 7, 8] (fun t4 t5 t7 wr => ∃ D : Nat, D ≤ 255 ∧ D ≤ at_ ∧ t7 = .int .i64 ((D : Int) + 1) ∧ t4 = .int .i64 (bst (mlen l at_) D).1 ∧ t5 = .int .i64 (bst (mlen l at_) D).2 ∧ Hid (∃ m, wr = w.drewN m)) (fun _ _ t _ => 256 - (intOf t).toNat)
  case atStart => exact ⟨0, by omega, by omega, rfl, rfl, rfl, 0, rfl⟩
  case round =>
    obtain ⟨D, hD1, hD2, rfl, rfl, rfl, HW⟩ := hrel
    have HEND := Lib.hid (show D = min 255 at_ → bst (mlen l at_) D = best l at_ from fun h => by unfold best; rw [h])
    have HY := Lib.hid (bst_yes (mlen l at_) D)
    have HN := Lib.hid (bst_no (mlen l at_) D)
    have hby := bst_by (mlen l at_) D
    have hble : (bst (mlen l at_) D).1 ≤ 131 := by
      have := bst_le (mlen_le l at_) D
      unfold roomL at this
      omega
    generalize hbst : bst (mlen l at_) D = bd at hble HEND HY HN hby ⊢
    clear hbst
    obtain ⟨len, by_⟩ := bd
    simp only at hble hby HY HN HEND ⊢
    by_cases hgo : D < 255 ∧ D < at_
    · obtain ⟨hD3, hD4⟩ := hgo
      obtain ⟨m, hm⟩ := HW.out
      have HF := Lib.hid (alike_any ad c l at_ (D + 1) wr (by rw [hm]; exact HR.out) hc hl ha (by omega) (by omega))
      rw [Int.natCast_add] at HF
      have HW' := Lib.hid hm
      obtain ⟨n, hn⟩ : ∃ n, n = mlen l at_ (D + 1) := ⟨_, rfl⟩
      rw [← hn] at HY HN
      have HNN := Lib.hid hn
      clear hm hn HEND
      by_cases hgt : len < n
      · have HB := Lib.hid (HY.out hgt)
        clear HY HN
        go_wp2_with (go_at_call 71; refine HF.out.mono ?_; rintro e w2 ⟨rfl, q, rfl⟩; rw [← HNN.out])
        go_roundw
        case rel => exact ⟨D + 1, by omega, by omega, by push_cast; rfl, by rw [HB.out], by rw [HB.out]; push_cast; rfl, _, by rw [HW'.out, World.drewN_drewN]⟩
        case measure => simp [intOf]; omega
      · have HB := Lib.hid (HN.out hgt)
        clear HY HN
        go_wp2_with (go_at_call 71; refine HF.out.mono ?_; rintro e w2 ⟨rfl, q, rfl⟩; rw [← HNN.out])
        go_roundw
        case rel => exact ⟨D + 1, by omega, by omega, by push_cast; rfl, by rw [HB.out], by rw [HB.out], _, by rw [HW'.out, World.drewN_drewN]⟩
        case measure => simp [intOf]; omega
    · have HRES := Lib.hid (HEND.out (by omega))
      have hA' : 255 ≤ D ∨ (D < 255 ∧ at_ ≤ D) := by omega
      clear HEND HY HN hgo
      rcases hA' with hA | ⟨hA, hA2⟩
      all_goals
        go_wp2_with fail
        go_ret2
        exact ⟨by rw [← HRES.out]; rfl, HW.out⟩

set_option maxHeartbeats 800000 in
theorem run_any (A : Option Addr) (c : Nat) (l : List Int) (w : World) (hr : Rd w A l) (hl : l.length ≤ 128) :
    Calls Try.prog 60 #[.slice A l.length c] w fun e w' => ∃ v, e = .returned v ∧ Own w' w.heap.size v (rnL l) ∧ Below w.heap.size w w' := by
  have HR := Lib.hid hr
  clear hr
  by_cases h0 : l = []
  · subst h0
    go_enter Try.func60, Try.ntmps60
    go_wp2_with fail
    go_ret
    exact ⟨_, rfl, World.ownsRow_nil _ _ _ _, Below.refl _ _⟩
  · have HRN := Lib.hid (rnL_short l h0 hl)
    have hlp : 0 < l.length := List.length_pos_iff.2 h0
    have hb0 : ((l.length : Int) == 0) = false := beq_eq_false_iff_ne.2 (by omega)
    have HO0 := Lib.hid (show Own (w.alloc (.cells #[.int .u8 ((l.length : Int) - 1)] 5)) w.heap.size (.slice (some ⟨w.heap.size, 0, none⟩) 1 1) [(l.length : Int) - 1] from own_lit w w.heap.size 5 .u8 [(l.length : Int) - 1] (Nat.le_refl _) (by simp))
    have HBa := Lib.hid ((Below.refl w.heap.size w).alloc (Nat.le_refl _) (.cells #[.int .u8 ((l.length : Int) - 1)] 5))
    clear h0
    go_enter Try.func60, Try.ntmps60
    go_wp2_with ((with_reducible refine gate_builtin (b := .append) (xs := #[.tmp 10, .tmp 11]) rfl ?_); refine app w.heap.size rfl _ _ rfl (.slice (some ⟨w.heap.size, 0, none⟩) 1 1) [(l.length : Int) - 1] l A c rfl rfl HO0.out (HR.out.below HBa.out) HBa.out.size (by simp; omega) ?_; intro v2 w2 h2 g2; have H2 := Lib.hid h2; have HB2 := Lib.hid (HBa.out.grown g2 HBa.out.size (fun k e => own_base HO0.out k e)); clear h2 g2)
    go_ret
    exact ⟨_, rfl, by rw [HRN.out]; exact H2.out, HB2.out⟩
end Go.Proofs.Ytdfpikimeihefaa
