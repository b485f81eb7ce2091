/-
  BtreeDepth: the walk. No premise.
-/
import Derived.Test.YtfhonfeopkhdeaaBtPl
namespace Go.Proofs.Ytfhonfeopkhdeaa
open Go.RowKit Go.Proofs.YtfhonfeopkhdeaaW.PrintWords

set_option maxRecDepth 100000 in
set_option maxHeartbeats 4000000 in
theorem btreeDepth_walk (most : Int) (A : Option Addr) (cap : Nat) (l : List A7) (w : World) (hmo : (Lit.int .u64 most).wf = true) (hr : Acs7 w A l) :
    Calls Try.prog 6 #[.int .u64 most, .slice A l.length cap] w fun e w' => e = .returned (.bool true) ∧ Below w.heap.size w w' := by
  have hw := wf_u7 hmo
  obtain ⟨m, hm⟩ : ∃ m : Nat, (m : Int) = 3 + most % 62 := ⟨(3 + most % 62).toNat, by omega⟩
  have hm3 : 3 ≤ m ∧ m ≤ 64 := by omega
  have HPL := Lib.hid (BS.played_any m hm3 A cap l w hr)
  have htm : most.tmod 62 = most % 62 := Int.tmod_eq_emod_of_nonneg hw.1
  clear hmo hr
  go_enter Try.func6, Try.ntmps6
  go_wp2_with fail
  rw [← hm]
  refine HPL.out.mono ?_
  rintro e w1 ⟨p, o1, rfl, hn1, hu1⟩
  have hlen := BS.playL_len l 300
  have hbel := BS.UpB.bel hu1 (fun _ _ => rfl)
  obtain ⟨h, t, M, b, ht⟩ := hn1
  have HB1 := Lib.hid hbel
  have hn2 : BS.NT w.heap.size w1 o1 p m (BS.playL (l.take 300)) := ⟨h, t, M, b, ht⟩
  have HND := Lib.hid (BS.Nodes_any _ p m h t w1 o1 M b hm3 (by rw [ht]; omega))
  have HOK := Lib.hid b.tm.ok
  obtain ⟨n, hn⟩ : ∃ n, n = (toL h t).length := ⟨_, rfl⟩
  have hn300 : n ≤ 300 := by rw [hn, ht]; omega
  have HNE := Lib.hid hn
  have HTL := Lib.hid ht
  have HNT := Lib.hid hn2
  clear hu1 hbel b hn2 HPL hn ht hlen htm hw hm
  unfold BS.nv at *
  go_wp2_with fail
  refine HND.out.mono ?_
  rintro e w2 ⟨v2, l2, rfl, hN2, hm2, hB2⟩
  have hm2' : l2.map (·.1) = BS.nodesT h t := by rw [hm2]; rfl
  obtain ⟨A2, c2, rfl, -, hcell⟩ := hN2.cells
  have hnt2 : BS.NT w.heap.size w2 o1 p m (BS.playL (l.take 300)) := by
    obtain ⟨h', t', M', b', ht'⟩ := HNT.out
    have hu2 : BS.Up (fun _ => False) o1 o1 w1 w2 := BS.Up.quiet b'.fb hB2
    exact ⟨h', t', M', ⟨b'.at_.up hu2 id, hu2.fb, b'.tm.up (b'.tm.gm.up hB2 (fun _ _ => rfl)), b'.nd, b'.bp, b'.bn⟩, ht'⟩
  have hlenc := hnt2.len
  rw [← HTL.out, ← HNE.out] at hlenc
  have HLC := Lib.hid hlenc
  have HCE := Lib.hid hcell
  have HM2 := Lib.hid hm2'
  have HB2 := Lib.hid (HB1.out.trans (hB2.mono HB1.out.size))
  obtain ⟨q, hq⟩ : ∃ q, q = m / 2 := ⟨_, rfl⟩
  have hq1 : 1 ≤ q ∧ q ≤ 32 := by omega
  have hqt : (m : Int).tdiv 2 = (q : Int) := by rw [Int.tdiv_eq_ediv_of_nonneg (by omega)]; omega
  have HQ := Lib.hid hq
  obtain ⟨d, hd⟩ : ∃ d, d = n / (q + 1) := ⟨_, rfl⟩
  have hd1 : d ≤ n := by rw [hd]; exact Nat.div_le_self _ _
  have hdt : (n : Int).tdiv ((q : Int) + 1) = (d : Int) := by
    rw [Int.tdiv_eq_ediv_of_nonneg (by omega), hd]
    norm_cast
  have hdm : d * (q + 1) ≤ n := by rw [hd]; exact Nat.div_mul_le_self _ _
  have HD := Lib.hid hd
  have HDM := Lib.hid hdm
  have hq0 : ¬ (q : Int) + 1 = 0 := by omega
  have hq2 : ((q : Int) + 1 == 0) = false := beq_eq_false_iff_ne.2 hq0
  clear hN2 hm2 hm2' hB2 hcell hnt2 hlenc hq hd hdm HND HNT
  unfold BS.nv at *
  go_wp2_with fail
  go_loopw [8, 9] (fun t8 t9 wr => ∃ bd r : Nat, t8 = .int .i64 bd ∧ t9 = .int .i64 r ∧ bd < r ∧ r ≤ n + 1 ∧ Hid (r = (q + 1) ^ bd) ∧ Hid (wr = w2)) (fun t8 t9 _ => n + 1 - (intOf t9).toNat)
  case atStart => exact ⟨0, 1, rfl, rfl, by omega, by omega, Lib.hid rfl, Lib.hid rfl⟩
  case round =>
    obtain ⟨bd, r, rfl, rfl, hbr, hrn, HR, HW⟩ := hrel
    obtain rfl := HW.out
    by_cases hc : r ≤ d
    · have g1 : (r : Int) ≤ (d : Int) := by omega
      obtain ⟨r2, hr2⟩ : ∃ r2, r2 = r * (q + 1) := ⟨_, rfl⟩
      have hr3 : (r : Int) * ((q : Int) + 1) = (r2 : Int) := by rw [hr2]; push_cast; rfl
      have hr4 : r2 ≤ n := by rw [hr2]; exact Nat.le_trans (Nat.mul_le_mul_right _ hc) HDM.out
      have hr5 : r + 1 ≤ r2 := by
        rw [hr2]
        have : r * 2 ≤ r * (q + 1) := Nat.mul_le_mul_left r (by omega)
        omega
      have HR2 := Lib.hid (show r2 = (q + 1) ^ (bd + 1) from by rw [hr2, HR.out, Nat.pow_succ])
      clear hr2
      go_wp2_with (go_at_call 20; refine HLC.out.mono ?_; rintro e w3 ⟨rfl, e3⟩; rw [e3]; clear e3 w3)
      go_roundw
      case measure => simp [intOf]; omega
      case rel => exact ⟨bd + 1, r2, by simp, rfl, by omega, by omega, HR2, Lib.hid (by trivial)⟩
    · have g1 : ¬ (r : Int) ≤ (d : Int) := by omega
      have HDP := Lib.hid (BS.depth_ok (b := bd) hm3.1 HOK.out (by rw [← HNE.out, ← HQ.out, ← HD.out, ← HR.out]; omega))
      go_wp2_with (go_at_call 20; refine HLC.out.mono ?_; rintro e w3 ⟨rfl, e3⟩; rw [e3]; clear e3 w3)
      have hl2 : l2.length ≤ 400 := by
        have h1 := BS.nodesT_len hm3.1 HOK.out
        have h2 := congrArg List.length HM2.out
        rw [List.length_map] at h2
        rw [← HNE.out] at h1
        omega
      go_loopw [10] (fun t10 wr' => ∃ i : Nat, i ≤ l2.length ∧ t10 = .int .i64 i ∧ Hid (wr' = wr)) (fun t10 _ => l2.length - (intOf t10).toNat)
      case atStart => exact ⟨0, Nat.zero_le _, rfl, Lib.hid rfl⟩
      case round =>
        obtain ⟨i, hi, rfl, HW2⟩ := hrel
        obtain rfl := HW2.out
        by_cases hc2 : i < l2.length
        · have g2 : (i : Int) < (l2.length : Int) := by omega
          obtain ⟨g, rfl, -, -, hcc⟩ := HCE.out (by omega)
          obtain ⟨c1, -, -⟩ := hcc i hc2
          have hlv : l2[i].1.lv ≤ h := BS.nodesT_lv (by rw [← HM2.out]; exact List.mem_map_of_mem (List.getElem_mem hc2))
          have hlv2 := HDP.out
          generalize l2[i].1.lv = lv at c1 hlv
          have g3 : (lv : Int) ≤ (bd : Int) + 1 := by omega
          have g4 : ¬ (bd : Int) + 1 < (lv : Int) := by omega
          clear hcc
          go_wp2_with fail
          go_roundw
          case measure => simp [intOf]; omega
          case rel => exact ⟨i + 1, by omega, by simp, Lib.hid (by trivial)⟩
        · have g2 : ¬ (i : Int) < (l2.length : Int) := by omega
          have HLV := Lib.hid (BS.lives07 wr)
          go_wp2_with (go_at_call 15; refine HLV.out.mono ?_; rintro e w3 ⟨rfl, hb3⟩)
          go_ret
          exact ⟨rfl, HB2.out.trans (hb3.mono HB2.out.size)⟩
end Go.Proofs.Ytfhonfeopkhdeaa
