/-
  BtreeCoords: the walk. No premise.
-/
import Derived.Test.YtfhonfeopkhdeaaBtNc
import Derived.Test.YtfhonfeopkhdeaaBtMv
import Derived.Deep.RegionHeld3
namespace Go.Proofs.Ytfhonfeopkhdeaa
open Go.RowKit Go.Proofs.YtfhonfeopkhdeaaW.PrintWords
open RC (Nc Kv)
open BC (idc Ck)

set_option maxRecDepth 100000 in
set_option maxHeartbeats 8000000 in
theorem btreeCoords_walk (most : Int) (A : Option Addr) (cap : Nat) (l : List Mv) (B : Option Addr) (cb : Nat) (low : List Int) (w : World) (hmo : (Lit.int .i64 most).wf = true) (hr : Mvs w A l)
    (hlr : ReadsInt w .i64 B low.length low) (_wl : ∀ n ∈ low, (Lit.int .i64 n).wf = true) (_hcb : low.length ≤ cb) (hll : low.length * 8 ≤ 140737488351232) :
    Calls Try.prog 10 #[.int .i64 most, .slice A l.length cap, .slice B low.length cb] w fun e w' => e = .returned (.bool true) ∧ Below w.heap.size w w' := by
  clear _wl _hcb
  by_cases hm3 : 3 ≤ most ∧ most ≤ 64
  · obtain ⟨m, rfl⟩ := Int.eq_ofNat_of_zero_le (show 0 ≤ most by omega)
    have hm : 3 ≤ m ∧ m ≤ 64 := by omega
    have HNW := Lib.hid (Nc.new m hm w)
    have HA := Lib.hid hr
    have HLW := Lib.hid (show BC.KRd w ⟨B, low, cb⟩ from ⟨hlr, by show low.length ≤ _; omega⟩)
    clear hmo hr hm3 hlr hll
    go_enter Try.func10, Try.ntmps10
    go_wp2_with fail
    refine HNW.out.mono ?_
    rintro e w1 ⟨p, rfl, hn1⟩
    have HN1 := Lib.hid hn1
    clear hn1 HNW
    go_wp2_with fail
    go_loopw [9] (fun t9 wr => ∃ i : Nat, ∃ L : List Kv, i ≤ l.length ∧ i ≤ 200 ∧ L.length ≤ i ∧ t9 = .int .i64 i ∧ Hid (Nc w [] p m w1.heap.size L L wr)) (fun t9 _ => l.length - (intOf t9).toNat)
    case atStart => exact ⟨0, [], Nat.zero_le _, by omega, Nat.zero_le _, rfl, HN1⟩
    case round =>
      obtain ⟨i, L, hi1, hi2, hLi, rfl, HN⟩ := hrel
      by_cases hc : i < l.length ∧ i < 200
      · obtain ⟨h1, h2⟩ := hc
        have g1' : (i : Int) < (l.length : Int) := by omega
        have g2' : (i : Int) < 200 := by omega
        obtain ⟨ad, rfl, hcell⟩ := (HA.out.below HN.out.bl).2.2 (by omega)
        obtain ⟨c1, c2', c3'⟩ := hcell i h1
        have c2 := mv_cell (d := 1) (by decide) c2'
        have c3 := mv_cell (d := 2) (by decide) c3'
        have hok := HA.out.2.1 l[i] (List.getElem_mem h1)
        generalize l[i] = a at c1 c2 c3 c2' c3' hok
        obtain ⟨kd, ⟨kA, kl, kc⟩, v⟩ := a
        clear hcell
        dsimp only at c1 c2 c3 c2' c3' hok
        have HKR := Lib.hid (fun W (hW : Below w.heap.size w W) => show BC.KRd W ⟨kA, kl, kc⟩ from hok.below hW (Nat.le_refl _))
        have HKL := Lib.hid (show kl.length ≤ 17592186044000 from hok.2)
        go_upto_region 8 with (fail)
        have hq := HN.out.fresh ((Below.refl _ wr).alloc (Nat.le_refl _) (.cells #[.int .i64 kd, .slice kA kl.length kc, .int .u64 v] 73)) (wr.heap.size, .cells #[.int .i64 kd, .slice kA kl.length kc, .int .u64 v] 73 (0, 0)) (Nat.le_refl _) (BS.top_blk wr _ _)
        generalize hw2 : wr.alloc (.cells #[.int .i64 kd, .slice kA kl.length kc, .int .u64 v] 73) = w2 at hq ⊢
        generalize hbxa : wr.heap.size = bxa at hq ⊢
        clear hw2 hbxa
        have HBX := Lib.hid (fun (W : World) (hb : W.heap[bxa]? = some (.cells #[.int .i64 kd, .slice kA kl.length kc, .int .u64 v] 73 (0, 0))) => show W.cell? ⟨bxa, 0, none⟩ = some (.int .i64 kd) ∧ W.cell? ⟨bxa, 1, none⟩ = some (.slice kA kl.length kc) ∧ W.cell? ⟨bxa, 2, none⟩ = some (.int .u64 v) from by
          rw [blk_cell hb, blk_cell hb, blk_cell hb]
          exact ⟨rfl, rfl, rfl⟩)
        have hal := hq.below ((Below.refl _ w2).alloc (Nat.le_refl _) (.cells #[] 3))
        obtain ⟨-, d2, -⟩ := HBX.out _ (hal.bh _ List.mem_cons_self).1
        obtain ⟨A1, c1', w3, ha1, hf1, hbw, g1, rfl⟩ := BC.fresh_app kA kc kl w2 (HKR.out _ hq.bl).1 HKL.out
        have hr1 := hf1.rw_
        have hx1 : ∃ cur : Array Value, w3.heap[g1]? = some (.cells cur 3 (0, 0)) ∧ kl.length ≤ cur.size := by
          rcases hr1 with ⟨e, _⟩ | ⟨g, cp, cur, e, h1, h2, h3, _⟩
          · cases e
          · have hil : (BC.iR kl).length = kl.length := List.length_map _
            obtain ⟨e1, _, _⟩ := Value.slice.inj e
            cases e1
            exact ⟨cur, h1, by have h2' : (BC.iR kl).length ≤ _ := h2; rw [hil] at h2'; omega⟩
        obtain ⟨cur, hcur, hcsz⟩ := hx1
        have HKK := Lib.hid (fun (W : World) (hb : W.heap[g1]? = some (.cells cur 3 (0, 0))) => show BC.KRd W ⟨some ⟨g1, 0, none⟩, kl, c1'⟩ from
          ⟨(BC.rd_row (hr1.keep (w' := W) fun g hg _ => by cases hg; rw [hb, hcur]) (by have := HKL.out; show kl.length ≤ _; omega)).1, HKL.out⟩)
        have hq3 := hq.fresh hbw (g1, .cells cur 3 (0, 0)) (hf1.fr g1 rfl) hcur
        have HBB := Lib.hid (fun W L K (hN : Nc w [(g1, .cells cur 3 (0, 0)), (bxa, .cells #[.int .i64 kd, .slice kA kl.length kc, .int .u64 v] 73 (0, 0))] p m w1.heap.size L K W) => show W.cell? ⟨bxa, 0, none⟩ = some (.int .i64 kd) ∧ W.cell? ⟨bxa, 1, none⟩ = some (.slice kA kl.length kc) ∧ W.cell? ⟨bxa, 2, none⟩ = some (.int .u64 v) ∧ BC.KRd W ⟨some ⟨g1, 0, none⟩, kl, c1'⟩ ∧ BC.KRd W ⟨kA, kl, kc⟩ from by
          obtain ⟨e1, e2, e3⟩ := HBX.out W (hN.bh _ (List.mem_cons_of_mem _ List.mem_cons_self)).1
          exact ⟨e1, e2, e3, HKK.out W (hN.bh _ List.mem_cons_self).1, HKR.out W hN.bl⟩)
        have HAP := Lib.hid ha1
        have HQ := Lib.hid hq3
        have HCS := Lib.hid hcsz
        clear hq hal ha1 hf1 hbw hr1 hcur hcsz hq3 c1 c2 c3 c2' c3' hok HN HKK HBX
        go_upto_region 9 with (at_builtin; refine Lib.wpList_append_run _ rfl _ _ _ _ rfl _ _ rfl rfl _ _ HAP.out ?_)
        clear HAP d2
        obtain ⟨d1, d2, d3, hka, hkb⟩ := HBB.out _ _ _ HQ.out
        by_cases hk0 : kd = 0
        · subst hk0
          have hp := HQ.out.tput ⟨some ⟨g1, 0, none⟩, kl, c1'⟩ hka v (by omega)
          dsimp only at hp
          have HP := Lib.hid hp
          generalize hb1 : (getL idc kl L).isNone = bq at HP
          have HBQ := Lib.hid hb1
          clear hb1 hp hka hkb
          go_upto_region 12 with (go_at_call 32; refine HP.out.mono ?_; rintro e w4 ⟨rfl, hn4⟩)
          obtain ⟨f1, f2, f3, hka, hkb⟩ := HBB.out _ _ _ hn4
          have hrp := hn4.rput ⟨kA, kl, kc⟩ hkb v (by omega)
          dsimp only at hrp
          rw [HBQ.out] at hrp
          have HRP := Lib.hid hrp
          have hlen5 : (insL idc kl v L).length ≤ i + 1 := by
            rw [insL_length]
            split <;> omega
          clear hn4 hrp HP hka hkb d1 d2 d3
          go_upto_region 23 with (go_at_call 33; refine HRP.out.mono ?_; rintro e w5 ⟨rfl, hn5⟩)
          have HN5 := Lib.hid hn5
          clear hn5 HRP f1 f2 f3
          obtain ⟨f1, f2, f3, hka, hkb⟩ := HBB.out _ _ _ HN5.out
          have hin := BC.ints_same (some ⟨g1, 0, none⟩) kA c1' kc kl _ HKL.out hka.1 hkb.1
          have HIN := Lib.hid hin
          have HL5 := Lib.hid hlen5
          generalize hL5 : insL idc kl v L = L5 at HN5 HL5 hlen5
          clear hL5 hin f1 f3 hka hkb
          have hklb : kl.length ≤ 17592186044000 := HKL.out
          go_wp2_with (go_at_call 38; refine HIN.out.mono ?_; rintro e w6 ⟨rfl, n6, rfl⟩)
          go_loopw [20] (fun t20 wj => ∃ j : Nat, j ≤ kl.length ∧ t20 = .int .i64 j ∧ Hid (∃ cur', cur'.size = cur.size ∧ Nc w [(g1, .cells cur' 3 (0, 0))] p m w1.heap.size L5 L5 wj)) (fun t20 _ => kl.length - (intOf t20).toNat)
          case atStart => exact ⟨0, Nat.zero_le _, rfl, Lib.hid ⟨cur, rfl, (HN5.out.drewN n6).one⟩⟩
          case round =>
            obtain ⟨j, hj, rfl, HJ⟩ := hrel
            obtain ⟨cur', hcs, hN⟩ := HJ.out
            have hbj : wr.heap[g1]? = some (.cells cur' 3 (0, 0)) := (hN.bh _ List.mem_cons_self).1
            by_cases hjl : j < kl.length
            · have s1 : (j : Int) < (kl.length : Int) := by omega
              have hjc : j < cur'.size := by rw [hcs]; exact Nat.lt_of_lt_of_le hjl HCS.out
              have d1 := blk_cell hbj j
              rw [Array.getElem?_eq_getElem hjc] at d1
              have d2 := blk_frozen hbj j
              have HNJ := Lib.hid (And.intro hcs hN)
              generalize cur'[j] = cj at d1
              clear hbj hN hcs HJ
              go_wp2_with fail
              go_roundw
              case measure => simp [intOf]; omega
              case rel => exact ⟨j + 1, by omega, by simp, Lib.hid ⟨cur'.setIfInBounds j (.int .i64 (-99)), by rw [Array.size_setIfInBounds]; exact HNJ.out.1, HNJ.out.2.poke j _⟩⟩
            · have s1 : decide ((j : Int) < (kl.length : Int)) = false := decide_eq_false (by omega)
              have s2 : ¬ (j : Int) < (kl.length : Int) := by omega
              have HNJ := Lib.hid hN.forget
              clear hbj hN hcs HJ
              go_wp2_with fail
              go_roundw
              case measure => simp [intOf]; omega
              case rel => exact ⟨i + 1, L5, by omega, by omega, by omega, by simp, HNJ⟩
        · by_cases hk1 : kd = 1
          · subst hk1
            have hp := HQ.out.tget ⟨some ⟨g1, 0, none⟩, kl, c1'⟩ hka
            unfold BC.GetP at hp
            have HRG := Lib.hid (fun n => (HQ.out.drewN n).rget ⟨kA, kl, kc⟩ (hkb.drewN n) (by omega))
            unfold BC.GetP at HRG
            dsimp only at hp HRG
            generalize (getL idc kl L).getD 0 = x at hp HRG
            generalize (getL idc kl L).isSome = bq at hp HRG
            have HP := Lib.hid hp
            have hlen5 : L.length ≤ i + 1 := by omega
            clear hp hk0 hka hkb
            go_upto_region 17 with (go_at_call 34; refine HP.out.mono ?_; rintro e w4 ⟨rfl, n3, rfl⟩)
            go_upto_region 23 with (go_at_call 35; refine (HRG.out _).mono ?_; rintro e w5 ⟨rfl, n4, rfl⟩)
            have HN5 := Lib.hid ((HQ.out.drewN n3).drewN n4)
            rw [World.drewN_drewN] at HN5
            (try rw [World.drewN_drewN])
            generalize w3.drewN _ = w5 at HN5 ⊢
            clear d1 d2 d3
            obtain ⟨f1, f2, f3, hka, hkb⟩ := HBB.out _ _ _ HN5.out
            have hin := BC.ints_same (some ⟨g1, 0, none⟩) kA c1' kc kl _ HKL.out hka.1 hkb.1
            have HIN := Lib.hid hin
            have HL5 := Lib.hid hlen5
            generalize hL5 : L = L5 at HN5 HL5 hlen5
            clear hL5 hin f1 f3 hka hkb
            have hklb : kl.length ≤ 17592186044000 := HKL.out
            go_wp2_with (go_at_call 38; refine HIN.out.mono ?_; rintro e w6 ⟨rfl, n6, rfl⟩)
            go_loopw [20] (fun t20 wj => ∃ j : Nat, j ≤ kl.length ∧ t20 = .int .i64 j ∧ Hid (∃ cur', cur'.size = cur.size ∧ Nc w [(g1, .cells cur' 3 (0, 0))] p m w1.heap.size L5 L5 wj)) (fun t20 _ => kl.length - (intOf t20).toNat)
            case atStart => exact ⟨0, Nat.zero_le _, rfl, Lib.hid ⟨cur, rfl, (HN5.out.drewN n6).one⟩⟩
            case round =>
              obtain ⟨j, hj, rfl, HJ⟩ := hrel
              obtain ⟨cur', hcs, hN⟩ := HJ.out
              have hbj : wr.heap[g1]? = some (.cells cur' 3 (0, 0)) := (hN.bh _ List.mem_cons_self).1
              by_cases hjl : j < kl.length
              · have s1 : (j : Int) < (kl.length : Int) := by omega
                have hjc : j < cur'.size := by rw [hcs]; exact Nat.lt_of_lt_of_le hjl HCS.out
                have d1 := blk_cell hbj j
                rw [Array.getElem?_eq_getElem hjc] at d1
                have d2 := blk_frozen hbj j
                have HNJ := Lib.hid (And.intro hcs hN)
                generalize cur'[j] = cj at d1
                clear hbj hN hcs HJ
                go_wp2_with fail
                go_roundw
                case measure => simp [intOf]; omega
                case rel => exact ⟨j + 1, by omega, by simp, Lib.hid ⟨cur'.setIfInBounds j (.int .i64 (-99)), by rw [Array.size_setIfInBounds]; exact HNJ.out.1, HNJ.out.2.poke j _⟩⟩
              · have s1 : decide ((j : Int) < (kl.length : Int)) = false := decide_eq_false (by omega)
                have s2 : ¬ (j : Int) < (kl.length : Int) := by omega
                have HNJ := Lib.hid hN.forget
                clear hbj hN hcs HJ
                go_wp2_with fail
                go_roundw
                case measure => simp [intOf]; omega
                case rel => exact ⟨i + 1, L5, by omega, by omega, by omega, by simp, HNJ⟩
          · by_cases hk2 : kd = 2
            · subst hk2
              have HT0 := Lib.hid (fun n => (HQ.out.drewN n).tdrop ⟨some ⟨g1, 0, none⟩, kl, c1'⟩ (hka.drewN n) (by omega))
              have HR0 := Lib.hid (fun n => (HQ.out.drewN n).rdrop ⟨kA, kl, kc⟩ (hkb.drewN n) (by omega))
              dsimp only at HT0 HR0
              have hlen5 : (delL idc kl L).length ≤ i + 1 := by
                rw [delL_length]
                split <;> omega
              have hlL : L.length ≤ 65536 := by omega
              have HRB := Lib.hid (fun W L2 K (hN : Nc w [(g1, .cells cur 3 (0, 0)), (bxa, .cells #[.int .i64 2, .slice kA kl.length kc, .int .u64 v] 73 (0, 0))] p m w1.heap.size L2 K W) (hK : K.length ≤ 65536) => hN.rdrop ⟨kA, kl, kc⟩ (HBB.out _ _ _ hN).2.2.2.2 hK)
              have HTB := Lib.hid (fun W L2 K (hN : Nc w [(g1, .cells cur 3 (0, 0)), (bxa, .cells #[.int .i64 2, .slice kA kl.length kc, .int .u64 v] 73 (0, 0))] p m w1.heap.size L2 K W) (hK : L2.length ≤ 65536) => hN.tdrop ⟨some ⟨g1, 0, none⟩, kl, c1'⟩ (HBB.out _ _ _ hN).2.2.2.1 hK)
              dsimp only at HRB HTB
              clear hk0 hk1 hka hkb
              go_upto_region 21 with (fail)
              go_cut [118] from 39 to 132 (fun c wc => c = .bool false ∧ Hid (Nc w [(g1, .cells cur 3 (0, 0)), (bxa, .cells #[.int .i64 2, .slice kA kl.length kc, .int .u64 v] 73 (0, 0))] p m w1.heap.size (delL idc kl L) (delL idc kl L) wc))
              case first =>
               go_region_law (first
                | (go_simp; go_at_call 36; refine (HT0.out 1).mono ?_; rintro e w4 ⟨rfl, hn3⟩; obtain ⟨f1, f2, f3, -, -⟩ := HBB.out _ _ _ hn3; have HN3 := Lib.hid hn3; clear hn3)
                | (go_simp; go_at_call 37; refine (HRB.out _ _ _ HN3.out hlL).mono ?_; rintro e w5 ⟨rfl, hn4⟩; have HN5 := Lib.hid hn4; clear hn4)
                | (go_simp; go_at_call 37; refine (HR0.out 1).mono ?_; rintro e w4 ⟨rfl, hn3⟩; obtain ⟨f1, f2, f3, -, -⟩ := HBB.out _ _ _ hn3; have HN4 := Lib.hid hn3; clear hn3)
                | (go_simp; go_at_call 36; refine (HTB.out _ _ _ HN4.out hlL).mono ?_; rintro e w5 ⟨rfl, hn4⟩; have HN5 := Lib.hid hn4; clear hn4))
               all_goals
                go_wp2_with fail
                go_meet
                exact ⟨rfl, HN5⟩
              case rest =>
                obtain ⟨rfl, HN5⟩ := hcut
                clear HT0 HR0 HRB HTB d1 d2 d3
                obtain ⟨f1, f2, f3, hka, hkb⟩ := HBB.out _ _ _ HN5.out
                have hin := BC.ints_same (some ⟨g1, 0, none⟩) kA c1' kc kl _ HKL.out hka.1 hkb.1
                have HIN := Lib.hid hin
                have HL5 := Lib.hid hlen5
                generalize hL5 : delL idc kl L = L5 at HN5 HL5 hlen5
                clear hL5 hin f1 f3 hka hkb
                have hklb : kl.length ≤ 17592186044000 := HKL.out
                go_wp2_with (go_at_call 38; refine HIN.out.mono ?_; rintro e w6 ⟨rfl, n6, rfl⟩)
                go_loopw [20] (fun t20 wj => ∃ j : Nat, j ≤ kl.length ∧ t20 = .int .i64 j ∧ Hid (∃ cur', cur'.size = cur.size ∧ Nc w [(g1, .cells cur' 3 (0, 0))] p m w1.heap.size L5 L5 wj)) (fun t20 _ => kl.length - (intOf t20).toNat)
                case atStart => exact ⟨0, Nat.zero_le _, rfl, Lib.hid ⟨cur, rfl, (HN5.out.drewN n6).one⟩⟩
                case round =>
                  obtain ⟨j, hj, rfl, HJ⟩ := hrel
                  obtain ⟨cur', hcs, hN⟩ := HJ.out
                  have hbj : wr.heap[g1]? = some (.cells cur' 3 (0, 0)) := (hN.bh _ List.mem_cons_self).1
                  by_cases hjl : j < kl.length
                  · have s1 : (j : Int) < (kl.length : Int) := by omega
                    have hjc : j < cur'.size := by rw [hcs]; exact Nat.lt_of_lt_of_le hjl HCS.out
                    have d1 := blk_cell hbj j
                    rw [Array.getElem?_eq_getElem hjc] at d1
                    have d2 := blk_frozen hbj j
                    have HNJ := Lib.hid (And.intro hcs hN)
                    generalize cur'[j] = cj at d1
                    clear hbj hN hcs HJ
                    go_wp2_with fail
                    go_roundw
                    case measure => simp [intOf]; omega
                    case rel => exact ⟨j + 1, by omega, by simp, Lib.hid ⟨cur'.setIfInBounds j (.int .i64 (-99)), by rw [Array.size_setIfInBounds]; exact HNJ.out.1, HNJ.out.2.poke j _⟩⟩
                  · have s1 : decide ((j : Int) < (kl.length : Int)) = false := decide_eq_false (by omega)
                    have s2 : ¬ (j : Int) < (kl.length : Int) := by omega
                    have HNJ := Lib.hid hN.forget
                    clear hbj hN hcs HJ
                    go_wp2_with fail
                    go_roundw
                    case measure => simp [intOf]; omega
                    case rel => exact ⟨i + 1, L5, by omega, by omega, by omega, by simp, HNJ⟩
            · have e0 : (kd == 0) = false := beq_eq_false_iff_ne.2 hk0
              have e1 : (kd == 1) = false := beq_eq_false_iff_ne.2 hk1
              have e2 : (kd == 2) = false := beq_eq_false_iff_ne.2 hk2
              have hlen5 : L.length ≤ i + 1 := by omega
              have HN5 := HQ
              clear hka hkb
              go_upto_region 23 with (fail)
              clear d1 d2 d3
              obtain ⟨f1, f2, f3, hka, hkb⟩ := HBB.out _ _ _ HN5.out
              have hin := BC.ints_same (some ⟨g1, 0, none⟩) kA c1' kc kl _ HKL.out hka.1 hkb.1
              have HIN := Lib.hid hin
              have HL5 := Lib.hid hlen5
              generalize hL5 : L = L5 at HN5 HL5 hlen5
              clear hL5 hin f1 f3 hka hkb
              have hklb : kl.length ≤ 17592186044000 := HKL.out
              go_wp2_with (go_at_call 38; refine HIN.out.mono ?_; rintro e w6 ⟨rfl, n6, rfl⟩)
              go_loopw [20] (fun t20 wj => ∃ j : Nat, j ≤ kl.length ∧ t20 = .int .i64 j ∧ Hid (∃ cur', cur'.size = cur.size ∧ Nc w [(g1, .cells cur' 3 (0, 0))] p m w1.heap.size L5 L5 wj)) (fun t20 _ => kl.length - (intOf t20).toNat)
              case atStart => exact ⟨0, Nat.zero_le _, rfl, Lib.hid ⟨cur, rfl, (HN5.out.drewN n6).one⟩⟩
              case round =>
                obtain ⟨j, hj, rfl, HJ⟩ := hrel
                obtain ⟨cur', hcs, hN⟩ := HJ.out
                have hbj : wr.heap[g1]? = some (.cells cur' 3 (0, 0)) := (hN.bh _ List.mem_cons_self).1
                by_cases hjl : j < kl.length
                · have s1 : (j : Int) < (kl.length : Int) := by omega
                  have hjc : j < cur'.size := by rw [hcs]; exact Nat.lt_of_lt_of_le hjl HCS.out
                  have d1 := blk_cell hbj j
                  rw [Array.getElem?_eq_getElem hjc] at d1
                  have d2 := blk_frozen hbj j
                  have HNJ := Lib.hid (And.intro hcs hN)
                  generalize cur'[j] = cj at d1
                  clear hbj hN hcs HJ
                  go_wp2_with fail
                  go_roundw
                  case measure => simp [intOf]; omega
                  case rel => exact ⟨j + 1, by omega, by simp, Lib.hid ⟨cur'.setIfInBounds j (.int .i64 (-99)), by rw [Array.size_setIfInBounds]; exact HNJ.out.1, HNJ.out.2.poke j _⟩⟩
                · have s1 : decide ((j : Int) < (kl.length : Int)) = false := decide_eq_false (by omega)
                  have s2 : ¬ (j : Int) < (kl.length : Int) := by omega
                  have HNJ := Lib.hid hN.forget
                  clear hbj hN hcs HJ
                  go_wp2_with fail
                  go_roundw
                  case measure => simp [intOf]; omega
                  case rel => exact ⟨i + 1, L5, by omega, by omega, by omega, by simp, HNJ⟩
      · have HNB := Lib.hid (fun W (hW : Below wr.heap.size wr W) => HN.out.below hW)
        have hl200 : L.length ≤ 200 := by omega
        obtain ⟨J6, A6, c6, hj6, c60, hrow, hkr6⟩ := HN.out.row
        have HC6 := Lib.hid (fun W (hW : Below wr.heap.size wr W) => show W.cell? ⟨w1.heap.size, 0, none⟩ = some (.slice A6 L.length c6) from (hW.cell (World.block_lt_of_cell? wr _ c60)).trans c60)
        have HR6 := Lib.hid (fun W (hW : Below wr.heap.size wr W) => show Rw W 22 (.slice A6 L.length c6) (BC.ksR J6) ∧ ∀ k ∈ J6, BC.KRd W k from ⟨hrow.keep fun g _ hl => hW.block g hl, fun k hk => (hkr6 k hk).below hW (Nat.le_refl _)⟩)
        have HJ6 := Lib.hid hj6
        have HKY := Lib.hid (HN.out.tkeys (by omega))
        have HBW := Lib.hid HN.out.bl
        -- lists(x, r.K), wherever: x a row of the same coordinates
        have HTQ := Lib.hid (show ∀ (W : World) (A7 : Option Addr) (c7 : Nat) (K7 : List Ck), Below wr.heap.size wr W → K7.map (·.l) = L.map (·.1) → Rw W 22 (.slice A7 L.length c7) (BC.ksR K7) → (∀ k ∈ K7, BC.KRd W k) → Calls Try.prog 40 #[.slice A7 L.length c7, .slice A6 L.length c6] W fun e w' => e = .returned (.bool true) ∧ ∃ m, w' = W.drewN m from fun W A7 c7 K7 hW hK h1 h2 =>
          BC.lists_same A7 A6 L.length c7 c6 K7 J6 W (by omega) (RC.len_of hK) (hK.trans HJ6.out.symm) h1 (HR6.out W hW).1 h2 (HR6.out W hW).2)
        clear hrow c60 HN1 hkr6 hj6
        go_upto_region 5 with (fail)
        go_cut [46] from 39 to 132 (fun c wc => c = .bool false ∧ wr = wc)
        case first =>
          by_cases h1 : i < l.length
          · have g1 : (i : Int) < (l.length : Int) := by omega
            have g2 : decide ((i : Int) < 200) = false := decide_eq_false (by omega)
            have g3 : ¬ (i : Int) < 200 := by omega
            go_wp2_with fail
            go_meet
            exact ⟨rfl, rfl⟩
          · have g1 : decide ((i : Int) < (l.length : Int)) = false := decide_eq_false (by omega)
            have g2 : ¬ (i : Int) < (l.length : Int) := by omega
            go_wp2_with fail
            go_meet
            exact ⟨rfl, rfl⟩
        case rest =>
          obtain ⟨rfl, rfl⟩ := hcut
          clear hc
          go_upto_region 30 with (go_at_call 39; refine HKY.out.mono ?_; rintro e w5 ⟨A5, c5, K5, rfl, hk5, ho5, hf5, hb5⟩)
          have HB5 := Lib.hid hb5
          have hr5 := Rw.of_own ho5
          have HR5 := Lib.hid hr5
          have HF5 := Lib.hid hf5
          have HK5 := Lib.hid hk5
          have c5r := HC6.out w5 hb5
          have HTX := Lib.hid (show ∀ W, Below w5.heap.size w5 W → _ from fun W hW => HTQ.out W A5 c5 K5 (hb5.trans (hW.mono hb5.size)) hk5 (hr5.keep fun g _ hl => hW.block g hl) (fun k hk => ((hf5 k hk).below hW).rd))
          clear ho5 hb5 hr5 HKY hf5 hk5
          go_cut [164] from 135 to 164 (fun c wc => c = .bool false ∧ Hid (Below w5.heap.size w5 wc))
          case first =>
            by_cases h0 : 0 < l.length
            · have g1 : (0 : Int) < (l.length : Int) := by omega
              obtain ⟨ad, rfl, hcell⟩ := (HA.out.below (HBW.out.trans (HB5.out.mono HBW.out.size))).2.2 h0
              have c2' := (hcell 0 h0).2.1
              have e0 : ad.add (0 * 3) = ad := by simp [Addr.add]
              have c2 := mv_cell (d := 1) (by decide) c2'
              rw [e0] at c2
              have hnm := HA.out.2.1 l[0] (List.getElem_mem h0)
              have HNM := Lib.hid (fun W (hW : Below w.heap.size w W) => And.intro (HLW.out.below hW (Nat.le_refl _)) (hnm.below hW (Nat.le_refl _)))
              clear hcell e0 c2' hnm
              generalize l[0].k = nm at c2 HNM
              obtain ⟨nA, nl, nc⟩ := nm
              dsimp only at c2
              have HFL := Lib.hid (show ((L.map (·.1)).filter fun k => !BC.outC low nl k).length ≤ 200 from by
                have := List.length_filter_le (fun k => !BC.outC low nl k) (L.map (·.1))
                rw [List.length_map] at this
                omega)
              have hts : ∀ W, Below w5.heap.size w5 W → Calls Try.prog 41 #[.pointer (some ⟨p, 0, none⟩), .slice B low.length cb, .slice nA nl.length nc] W (BC.SpanP ((L.map (·.1)).filter fun k => !BC.outC low nl k) W) := fun W hW => by
                have hN := HNB.out _ (HB5.out.trans (hW.mono HB5.out.size))
                exact hN.tspan (by omega) ⟨B, low, cb⟩ ⟨nA, nl, nc⟩ (HNM.out W hN.bl).1 (HNM.out W hN.bl).2
              have hrs : ∀ W, Below w5.heap.size w5 W → Calls Try.prog 42 #[.pointer (some ⟨w1.heap.size, 0, none⟩), .slice B low.length cb, .slice nA nl.length nc] W (BC.SpanP ((L.map (·.1)).filter fun k => !BC.outC low nl k) W) := fun W hW => by
                have hN := HNB.out _ (HB5.out.trans (hW.mono HB5.out.size))
                exact hN.rspan ⟨B, low, cb⟩ ⟨nA, nl, nc⟩ (HNM.out W hN.bl).1 (HNM.out W hN.bl).2 (by omega)
              have HTS := Lib.hid hts
              have HRS := Lib.hid hrs
              clear hts hrs
              generalize ((L.map (·.1)).filter fun k => !BC.outC low nl k) = FL at HTS HRS HFL
              have HSM := Lib.hid (show ∀ (W : World) (A7 A8 : Option Addr) (c7 c8 : Nat) (K7 K8 : List Ck), K7.map (·.l) = FL → K8.map (·.l) = FL → Rw W 22 (.slice A7 FL.length c7) (BC.ksR K7) → Rw W 22 (.slice A8 FL.length c8) (BC.ksR K8) → (∀ k ∈ K7, BC.KRd W k) → (∀ k ∈ K8, BC.KRd W k) → Calls Try.prog 40 #[.slice A7 FL.length c7, .slice A8 FL.length c8] W fun e w' => e = .returned (.bool true) ∧ ∃ m, w' = W.drewN m from fun W A7 A8 c7 c8 K7 K8 e7 e8 h1 h2 h3 h4 =>
                BC.lists_same A7 A8 FL.length c7 c8 K7 K8 W (by have := HFL.out; omega) (by rw [← e7, List.length_map]) (e7.trans e8.symm) h1 h2 h3 h4)
              have HKP := Lib.hid (fun W (hW : Below w5.heap.size w5 W) => show W.cell? ⟨w1.heap.size, 0, none⟩ = some (.slice A6 L.length c6) ∧ W.cell? ⟨ad.block, ad.off + 1, none⟩ = some (.slice nA nl.length nc) from ⟨HC6.out W (HB5.out.trans (hW.mono HB5.out.size)), (hW.cell (World.block_lt_of_cell? w5 _ c2)).trans c2⟩)
              have hb0 : Below w5.heap.size w5 w5.drew := (Below.refl _ _).drew
              obtain ⟨s1, s2⟩ := HKP.out w5.drew hb0
              have HTX1 := Lib.hid (show Calls Try.prog 40 #[.slice A5 L.length c5, .slice A6 L.length c6] w5.drew fun e w' => e = .returned (.bool true) ∧ Below w5.heap.size w5 w' from (HTX.out _ hb0).mono fun e w' ⟨k1, m, k2⟩ => ⟨k1, by rw [k2]; exact ⟨rfl, rfl, rfl, Nat.le_refl _, fun _ _ => rfl⟩⟩)
              go_region_held3 (fun W' => W'.cell? ⟨w1.heap.size, 0, none⟩ = some (.slice A6 L.length c6) ∧ W'.cell? ⟨ad.block, ad.off + 1, none⟩ = some (.slice nA nl.length nc))
                (first | exact HKP.out _ hb9 | exact HKP.out _ hb8 | exact HKP.out _ hb7 | exact HKP.out _ hbt | exact HKP.out _ hb0)
                (first
                  | (go_at_call 40; refine HTX2.out.mono ?_; rintro e w9 ⟨rfl, n9, rfl⟩; have hb9 : Below w5.heap.size w5 (w8.drewN n9) := hb8.trans ⟨rfl, rfl, rfl, Nat.le_refl _, fun _ _ => rfl⟩)
                  | (go_at_call 40; refine HTX1.out.mono ?_; rintro e wt ⟨rfl, hbt⟩)
                  | (go_at_call 42; refine (HRS.out _ HT7.out).mono ?_; rintro e w8 ⟨A8, c8, K8, rfl, hk8, hr8, hf8, hb8'⟩; have HTX2 := Lib.hid (HSM.out w8 A7 A8 c7 c8 K7 K8 HK7.out hk8 (HR7.out.keep fun g _ hl => hb8'.block g hl) hr8 (fun k hk => ((HF7.out k hk).below hb8').rd) (fun k hk => (hf8 k hk).rd)); have hb8 : Below w5.heap.size w5 w8 := HT7.out.trans (hb8'.mono HT7.out.size); clear hr8 hb8' hk8 hf8)
                  | (go_at_call 41; refine (HTS.out _ HU7.out).mono ?_; rintro e w8 ⟨A8, c8, K8, rfl, hk8, hr8, hf8, hb8'⟩; have HTX2 := Lib.hid (HSM.out w8 A8 A7 c8 c7 K8 K7 hk8 HK7.out hr8 (HR7.out.keep fun g _ hl => hb8'.block g hl) (fun k hk => (hf8 k hk).rd) (fun k hk => ((HF7.out k hk).below hb8').rd)); have hb8 : Below w5.heap.size w5 w8 := HU7.out.trans (hb8'.mono HU7.out.size); clear hr8 hb8' hk8 hf8)
                  | (go_at_call 41; refine (HTS.out _ hbt).mono ?_; rintro e w7 ⟨A7, c7, K7, rfl, hk7, hr7, hf7, hb7'⟩; have hb7 : Below w5.heap.size w5 w7 := hbt.trans (hb7'.mono hbt.size); have HT7 := Lib.hid hb7; have HR7 := Lib.hid hr7; have HK7 := Lib.hid hk7; have HF7 := Lib.hid hf7; clear hr7 hb7' hk7 hf7)
                  | (go_at_call 42; refine (HRS.out _ hbt).mono ?_; rintro e w7 ⟨A7, c7, K7, rfl, hk7, hr7, hf7, hb7'⟩; have hb7 : Below w5.heap.size w5 w7 := hbt.trans (hb7'.mono hbt.size); have HU7 := Lib.hid hb7; have HR7 := Lib.hid hr7; have HK7 := Lib.hid hk7; have HF7 := Lib.hid hf7; clear hr7 hb7' hk7 hf7))
              all_goals
                go_wp2_with fail
                go_meet
                exact ⟨rfl, Lib.hid hb9⟩
            · have g1 : decide ((0 : Int) < (l.length : Int)) = false := decide_eq_false (by omega)
              have g2 : ¬ 0 < l.length := h0
              have HTN := Lib.hid (show ∀ n, Calls Try.prog 40 #[.slice A5 L.length c5, .slice A6 L.length c6] (w5.drewN n) fun e w' => e = .returned (.bool true) ∧ ∃ m, w' = w5.drewN (n + m) from fun n => (HTX.out (w5.drewN n) ⟨rfl, rfl, rfl, Nat.le_refl _, fun _ _ => rfl⟩).mono fun e w' ⟨k1, m, k2⟩ => ⟨k1, m, by rw [k2, World.drewN_drewN]⟩)
              go_big_quiet ((go_at_call 40; refine (HTN.out _).mono ?_; rintro _ _ ⟨h1, m1, h2⟩; exact ⟨h1, _, h2⟩))
              go_wp2_with fail
              go_meet
              exact ⟨rfl, Lib.hid ⟨rfl, rfl, rfl, Nat.le_refl _, fun _ _ => rfl⟩⟩
          case rest =>
            obtain ⟨rfl, HB6⟩ := hcut
            clear HTX
            have hb6 := HB6.out
            have hkl5 := RC.len_of HK5.out
            have HSP := Lib.hid (show RC.Sp wr wc A5 L.length c5 K5 from ⟨HR5.out.keep fun g _ hl => hb6.block g hl, fun k hk => RC.Wk.of ((HF5.out k hk).below hb6), fun k hk => (HF5.out k hk).le, HB5.out.trans (hb6.mono HB5.out.size)⟩)
            clear hb6 HB6 c5r HR5 HF5
            go_wp2_with fail
            obtain ⟨wb, hwb⟩ : ∃ wb : World, wb = wr := ⟨_, rfl⟩
            subst hwb
            go_loopw [22] (fun t22 wj => ∃ j : Nat, j ≤ L.length ∧ t22 = .int .i64 j ∧ Hid (RC.Sp wb wj A5 L.length c5 K5)) (fun t22 _ => L.length - (intOf t22).toNat)
            case atStart => exact ⟨0, Nat.zero_le _, rfl, HSP⟩
            case round =>
              obtain ⟨j, hj, rfl, HX⟩ := hrel
              by_cases hjl : j < L.length
              · have s1 : (j : Int) < (L.length : Int) := by omega
                obtain ⟨g5, rfl, -⟩ := HX.out.rw_.cells (by rw [BC.ksR, List.length_map, hkl5]; omega)
                have hjk : j < K5.length := by rw [hkl5]; exact hjl
                have HCJ := Lib.hid (fun W (h : RC.Sp wb W (some ⟨g5, 0, none⟩) L.length c5 K5) => h.at_ hjk)
                have HMJ := Lib.hid (List.getElem_mem hjk)
                have hjlb := HX.out.le _ HMJ.out
                generalize K5[j] = kj at HCJ HMJ hjlb
                obtain ⟨jA, jl, jc⟩ := kj
                dsimp only at HCJ hjlb
                go_wp2_with fail
                rename World => wout
                go_loopw [23] (fun t23 wq => ∃ q : Nat, q ≤ jl.length ∧ t23 = .int .i64 q ∧ Hid (RC.Sp wb wq (some ⟨g5, 0, none⟩) L.length c5 K5)) (fun t23 _ => jl.length - (intOf t23).toNat)
                case atStart => exact ⟨0, Nat.zero_le _, rfl, HX⟩
                case round =>
                  obtain ⟨q, hq, rfl, HQ⟩ := hrel
                  have d0 := HCJ.out _ HQ.out
                  by_cases hql : q < jl.length
                  · have s3 : (q : Int) < (jl.length : Int) := by omega
                    obtain ⟨g7, cur7, e7, hb7, hz7, hl7⟩ := HQ.out.wk _ HMJ.out (by show 0 < jl.length; omega)
                    dsimp only at e7 hz7
                    subst e7
                    have d1 := blk_cell hb7 q
                    rw [Array.getElem?_eq_getElem (by omega)] at d1
                    have d2 := blk_frozen hb7 q
                    have HPK := Lib.hid (HQ.out.poke hb7 hl7 q (.int .i64 (-98)))
                    generalize cur7[q] = cq at d1
                    clear hb7 hz7
                    go_wp2_with fail
                    go_roundw
                    case measure => simp [intOf]; omega
                    case rel => exact ⟨q + 1, by omega, by simp, HPK⟩
                  · have s3 : decide ((q : Int) < (jl.length : Int)) = false := decide_eq_false (by omega)
                    have s4 : ¬ (q : Int) < (jl.length : Int) := by omega
                    go_wp2_with fail
                    go_roundw
                    case measure => simp [intOf]; omega
                    case rel => exact ⟨j + 1, by omega, by simp, HQ⟩
              · have s1 : decide ((j : Int) < (L.length : Int)) = false := decide_eq_false (by omega)
                have s2 : ¬ (j : Int) < (L.length : Int) := by omega
                have HBJ := Lib.hid HX.out.bl
                have HKP := HC6
                have HKY9 := Lib.hid (fun W (hW : Below wb.heap.size wb W) => (HNB.out W hW).tkeys (by omega))
                have HLN9 := Lib.hid (fun W (hW : Below wb.heap.size wb W) => (HNB.out W hW).tlen)
                have hb0 : Below wb.heap.size wb (World.drew _) := HBJ.out.drew
                have s0 := HKP.out _ hb0
                clear HX HSP
                go_wp2_with fail
                go_region_held3 (fun W' => W'.cell? ⟨w1.heap.size, 0, none⟩ = some (.slice A6 L.length c6))
                  (first | exact HKP.out _ hb9 | exact HKP.out _ hb8 | exact HKP.out _ hb7 | exact HKP.out _ hb0)
                  (first
                    | (go_at_call 15; refine (BS.lives07 _).mono ?_; rintro e w9 ⟨rfl, hb9'⟩; have hb9 : Below wb.heap.size wb w9 := hb8.trans (hb9'.mono hb8.size); clear hb9')
                    | (go_at_call 43; refine (HLN9.out _ hb8).mono ?_; rintro e wl ⟨rfl, rfl⟩)
                    | (go_at_call 40; refine (HTQ.out _ _ _ _ hb7 HK7.out HR7.out HF7.out).mono ?_; rintro e w8 ⟨rfl, n8, e8⟩; have hb8 : Below wb.heap.size wb w8 := (by rw [e8]; exact hb7.trans ⟨rfl, rfl, rfl, Nat.le_refl _, fun _ _ => rfl⟩); clear e8)
                    | (go_at_call 39; refine (HKY9.out _ hb0).mono ?_; rintro e w7 ⟨A7, c7, K7, rfl, hk7, ho7, hf7, hb7'⟩; have HR7 := Lib.hid (Rw.of_own ho7); have HK7 := Lib.hid hk7; have HF7 := Lib.hid (fun k hk => (hf7 k hk).rd); have hb7 : Below wb.heap.size wb w7 := hb0.trans (hb7'.mono hb0.size); clear ho7 hb7' hk7 hf7))
                all_goals
                  go_wp2_with fail
                  go_ret
                  have k1 := HBW.out.size
                  exact ⟨rfl, HBW.out.trans (hb9.mono k1)⟩
  · have hbad := BC.made_bad most w hm3
    have HBD := Lib.hid hbad
    have HLV := Lib.hid (fun W => BS.lives07 W)
    have hsz : (w.alloc (.cells #[.slice none 0 0, .slice none 0 0] 71)).heap.size = w.heap.size + 1 := Array.size_push _
    have HSZ := Lib.hid hsz
    clear hbad hsz hlr hr
    by_cases h3 : most < 3
    · go_enter Try.func10, Try.ntmps10
      go_wp2_with (first | (go_at_call 31; refine HBD.out.mono ?_; rintro e w1 ⟨rfl, rfl⟩) | (go_at_call 15; refine (HLV.out _).mono ?_; rintro e w3 ⟨rfl, hb3⟩))
      go_ret
      exact ⟨rfl, ((Below.refl _ _).alloc (Nat.le_refl _) _).trans (hb3.mono (by rw [HSZ.out]; omega))⟩
    · have h4 : 64 < most := by omega
      go_enter Try.func10, Try.ntmps10
      go_wp2_with (first | (go_at_call 31; refine HBD.out.mono ?_; rintro e w1 ⟨rfl, rfl⟩) | (go_at_call 15; refine (HLV.out _).mono ?_; rintro e w3 ⟨rfl, hb3⟩))
      go_ret
      exact ⟨rfl, ((Below.refl _ _).alloc (Nat.le_refl _) _).trans (hb3.mono (by rw [HSZ.out]; omega))⟩
end Go.Proofs.Ytfhonfeopkhdeaa
