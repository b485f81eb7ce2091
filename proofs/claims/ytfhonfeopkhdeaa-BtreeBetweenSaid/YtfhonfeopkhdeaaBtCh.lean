/-
  Where the children of a node stand: the law's own function children. No premise.
-/
import Derived.Test.YtfhonfeopkhdeaaBtBw
namespace Go.Proofs.Ytfhonfeopkhdeaa
open Go.RowKit Go.Proofs.YtfhonfeopkhdeaaW.PrintWords

theorem infoI7 : (Try.prog.info? 3).map (fun i => (i.zero, i.size, i.bytes)) = some (some (.int .i64 0), 1, 8) := by kernel_rfl
/-- The numbers that are told. -/
def chR (C : List (Nat × BS.Nt)) : List Value := C.map fun p => .int .i64 p.1
theorem chF_cons {lv b : Nat} {N : List BS.Nt} (h : b < N.length) : BS.chF lv b (N.drop b) = if lv < N[b].lv then (if N[b].lv = lv + 1 then (b, N[b]) :: BS.chF lv (b + 1) (N.drop (b + 1)) else BS.chF lv (b + 1) (N.drop (b + 1))) else [] := by
  rw [← List.getElem_cons_drop (h := h)]
  rfl
set_option maxRecDepth 100000 in
set_option maxHeartbeats 4000000 in
theorem children_any (g c : Nat) (N : List BS.Nt) (i lv : Nat) (hi : i < N.length) (hlv : lv = N[i].lv) (hN : N.length ≤ 100000) (hlb : lv ≤ 1000000) (w : World)
    (hc : ∀ j (hj : j < N.length), w.cell? ⟨g, j * 3, none⟩ = some (.int .i64 N[j].lv)) :
    Calls Try.prog 18 #[.slice (some ⟨g, 0, none⟩) N.length c, .int .i64 i] w fun e w' => ∃ v, e = .returned v ∧ w'.ownsRow w.heap.size 3 1 v (BS.chF lv (i + 1) (N.drop (i + 1))).length (chR (BS.chF lv (i + 1) (N.drop (i + 1)))) ∧ Below w.heap.size w w' := by
  have HI := Lib.hid hi
  have HC := Lib.hid (fun W (hW : Below w.heap.size w W) j hj => (hW.cell (World.block_lt_of_cell? w _ (hc j hj))).trans (hc j hj))
  obtain ⟨i0, hi0, hz0, hz1, hz2⟩ := info_parts infoI7
  have HLV := Lib.hid hlv
  have hw1 : IntKind.i64.wrap ((lv : Int) + 1) = (lv : Int) + 1 := by rw [IntKind.wrap_i64]; omega
  clear hc hlv
  go_enter Try.func18, Try.ntmps18
  go_wp2_with fail
  go_loopw [5, 6] (fun t5 t6 wr => ∃ k : Nat, ∃ C : List (Nat × BS.Nt), ∃ v5, v5 = t5 ∧ k ≤ N.length ∧ i < k ∧ C.length ≤ k ∧ t6 = .int .i64 k ∧ Hid (BS.chF lv (i + 1) (N.drop (i + 1)) = C ++ BS.chF lv k (N.drop k)) ∧ Hid (wr.ownsRow w.heap.size 3 1 v5 C.length (chR C)) ∧ Hid (Below w.heap.size w wr)) (fun _ t6 _ => N.length - (intOf t6).toNat)
  case atStart => exact ⟨i + 1, [], _, rfl, HI.out, by omega, by simp, by simp, Lib.hid rfl, Lib.hid (World.ownsRow_nil _ _ _ _), Lib.hid (Below.refl _ _)⟩
  case round =>
    obtain ⟨k, C, v5, rfl, hk, hik, hCk, rfl, HE, HO, HB⟩ := hrel
    have d1 := HC.out _ HB.out i HI.out
    rw [← HLV.out] at d1
    by_cases h : k < N.length
    · have g1 : (k : Int) < (N.length : Int) := by omega
      have he := chF_cons (lv := lv) h
      have d2 := HC.out _ HB.out k h
      generalize N[k] = X at he d2
      by_cases h2 : lv < X.lv
      · have g2 : (lv : Int) < (X.lv : Int) := by omega
        rw [if_pos h2] at he
        by_cases h3 : X.lv = lv + 1
        · have g3 : ((X.lv : Int) == (lv : Int) + 1) = true := beq_iff_eq.2 (by omega)
          rw [if_pos h3] at he
          have HE2 := Lib.hid he
          have HL := Lib.hid (show (C ++ [(k, X)]).length = C.length + 1 ∧ chR (C ++ [(k, X)]) = chR C ++ [.int .i64 k] by simp [chR])
          clear he h2 h3
          go_wp2_with fail
          go_big_quiet (fail)
          go_wp2_with fail
          go_big_quiet (fail)
          generalize hq : World.drewN _ _ = wq
          have hqb : Below wr.heap.size wr wq := by rw [← hq]; exact ⟨rfl, rfl, rfl, Nat.le_refl _, fun _ _ => rfl⟩
          have hsz : w.heap.size ≤ wr.heap.size := HB.out.size
          have hba : Below wr.heap.size wr (wq.alloc (.cells #[.int .i64 k] 3)) := hqb.alloc hqb.size _
          obtain ⟨g7, cap7, w7, hrun, hown, hgrow, hat, hlt7⟩ := run_append_lies (P := Try.prog) _ 22 22 w.heap.size 3 i0 _ 1 8 Try.underlying22 hi0 hz0 hz1 hz2 rfl (by decide) v5 C.length (chR C) (BS.ownsRow_keep HO.out fun g _ hl => hba.block g hl) ⟨wq.heap.size, 0, none⟩ 1 1 [.int .i64 k] rfl (World.news_of_block (BS.top_blk _ _ _)) (by simp [Value.oneCell']) (by decide) (by simp only [maxLen]; omega) (by omega) (by have := hba.size; omega) _ rfl
          have HRUN := Lib.hid hrun
          have HO7 := Lib.hid hown
          have HB7 := Lib.hid (HB.out.trans ((hba.mono hsz).trans ⟨hgrow.os, hgrow.tape, hgrow.output, hgrow.size, fun b hb => hgrow.block b (by have := hba.size; omega) (fun e => by
            have := (World.ownsRow.lt HO.out b e.symm).1
            omega)⟩))
          clear hrun hown hgrow hat hlt7 hba hsz
          go_wp2_with (at_builtin; refine Lib.wpList_append_run _ rfl _ _ _ _ rfl _ _ rfl rfl _ _ HRUN.out ?_)
          go_roundw
          case measure => simp [intOf]; omega
          case rel =>
            refine ⟨k + 1, C ++ [(k, X)], _, rfl, by omega, by omega, by rw [HL.out.1]; omega, by simp, Lib.hid (by rw [HE.out, HE2.out]; simp), Lib.hid ?_, HB7⟩
            rw [HL.out.1, HL.out.2]
            exact HO7.out
        · have g3 : ((X.lv : Int) == (lv : Int) + 1) = false := beq_eq_false_iff_ne.2 (by omega)
          rw [if_neg h3] at he
          have HE2 := Lib.hid he
          clear he h2 h3
          go_wp2_with fail
          go_big_quiet (fail)
          go_wp2_with fail
          go_big_quiet (fail)
          go_wp2_with fail
          go_roundw
          case measure => simp [intOf]; omega
          case rel => exact ⟨k + 1, C, v5, rfl, by omega, by omega, by omega, by simp, Lib.hid (HE.out.trans (by rw [HE2.out])), Lib.hid (BS.ownsRow_keep HO.out fun g _ _ => by simp), Lib.hid (HB.out.trans ⟨rfl, rfl, rfl, Nat.le_refl _, fun _ _ => rfl⟩)⟩
      · have g2 : decide ((lv : Int) < (X.lv : Int)) = false := decide_eq_false (by omega)
        rw [if_neg h2] at he
        have HE2 := Lib.hid (HE.out.trans (by rw [he, List.append_nil]) : BS.chF lv (i + 1) (N.drop (i + 1)) = C)
        have g4 : ¬ (lv : Int) < (X.lv : Int) := by omega
        clear he h2 HE
        go_wp2_with fail
        go_big_quiet (fail)
        go_wp2_with fail
        go_ret
        rw [HE2.out]
        exact ⟨v5, rfl, BS.ownsRow_keep HO.out fun g _ _ => rfl, HB.out.trans ⟨rfl, rfl, rfl, Nat.le_refl _, fun _ _ => rfl⟩⟩
    · have e1 : k = N.length := by omega
      have he : BS.chF lv k (N.drop k) = [] := by rw [e1, List.drop_length]; rfl
      have HE2 := Lib.hid (HE.out.trans (by rw [he, List.append_nil]) : BS.chF lv (i + 1) (N.drop (i + 1)) = C)
      clear he HE e1 d1
      have g1 : decide ((k : Int) < (N.length : Int)) = false := decide_eq_false (by omega)
      have g4 : ¬ (k : Int) < (N.length : Int) := by omega
      have g5 : decide (k < N.length) = false := decide_eq_false h
      go_wp2_with fail
      go_big_quiet (fail)
      go_wp2_with fail
      go_ret
      rw [HE2.out]
      exact ⟨v5, rfl, BS.ownsRow_keep HO.out fun g _ _ => rfl, HB.out.trans ⟨rfl, rfl, rfl, Nat.le_refl _, fun _ _ => rfl⟩⟩
end Go.Proofs.Ytfhonfeopkhdeaa
