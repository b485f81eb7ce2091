/-
  BtreeNames: the walk. No premise.
-/
import Derived.Test.YtfhonfeopkhdeaaBtNm
import Derived.Deep.RegionHeld3
namespace Go.Proofs.Ytfhonfeopkhdeaa
open Go.RowKit Go.Proofs.YtfhonfeopkhdeaaW.PrintWords

set_option maxRecDepth 100000 in
set_option maxHeartbeats 8000000 in
theorem btreeNames_walk (most : Int) (A : Option Addr) (cap : Nat) (l : List A7) (low : ByteArray) (w : World) (hmo : (Lit.int .i64 most).wf = true) (hr : Acs7 w A l) (hlow : low.size ≤ 140737488351232) :
    Calls Try.prog 8 #[.int .i64 most, .slice A l.length cap, .string low] w fun e w' => e = .returned (.bool true) ∧ Below w.heap.size w w' := by
  by_cases hm3 : 3 ≤ most ∧ most ≤ 64
  · obtain ⟨m, rfl⟩ := Int.eq_ofNat_of_zero_le (show 0 ≤ most by omega)
    have hm : 3 ≤ m ∧ m ≤ 64 := by omega
    have HNW := Lib.hid (Nr.new m hm w)
    have HA := Lib.hid hr
    have HLW := Lib.hid (show Nm low by unfold Nm; omega)
    have q1 : decide ((m : Int) < 3) = false := decide_eq_false (by omega)
    have q2 : ¬ (m : Int) < 3 := by omega
    have q3 : decide ((64 : Int) < (m : Int)) = false := decide_eq_false (by omega)
    have q4 : ¬ (64 : Int) < (m : Int) := by omega
    clear hmo hr hlow hm3
    go_enter Try.func8, Try.ntmps8
    go_wp2_with fail
    refine HNW.out.mono ?_
    rintro e w1 ⟨p, rfl, hn1⟩
    have HN1 := Lib.hid hn1
    clear hn1 HNW
    go_wp2_with fail
    go_loopw [9] (fun t9 wr => ∃ i : Nat, ∃ L : List (BS.Ky × Int), i ≤ l.length ∧ i ≤ 200 ∧ L.length ≤ i ∧ t9 = .int .i64 i ∧ Hid (Nr w none p m w1.heap.size L L wr)) (fun t9 _ => l.length - (intOf t9).toNat)
    case atStart => exact ⟨0, [], Nat.zero_le _, by omega, Nat.zero_le _, rfl, HN1⟩
    case round =>
      obtain ⟨i, L, hi1, hi2, hLi, rfl, HN⟩ := hrel
      by_cases hc : i < l.length ∧ i < 200
      · obtain ⟨h1, h2⟩ := hc
        have g1 : (i : Int) < (l.length : Int) := by omega
        have g2 : (i : Int) < 200 := by omega
        obtain ⟨ad, rfl, hcell⟩ := (HA.out.below HN.out.bl).2.2 (by omega)
        obtain ⟨c1, c2', c3'⟩ := hcell i h1
        have c2 := fld_cell (d := 1) (by decide) c2'
        have c3 := fld_cell (d := 2) (by decide) c3'
        have HOK := Lib.hid (HA.out.2.1 l[i] (List.getElem_mem h1))
        generalize l[i] = a at c1 c2 c3 c2' c3' HOK
        obtain ⟨kd, nm, v⟩ := a
        clear hcell
        dsimp only at c1 c2 c3 c2' c3'
        go_upto_region 10 with (fail)
        have hq := HN.out.box #[.int .i64 kd, .string nm, .int .u64 v] 55
        have HBX := Lib.hid (fun W L K (hN : Nr w (some (wr.heap.size, .cells #[.int .i64 kd, .string nm, .int .u64 v] 55 (0, 0))) p m w1.heap.size L K W) => show W.cell? ⟨wr.heap.size, 0, none⟩ = some (.int .i64 kd) ∧ W.cell? ⟨wr.heap.size, 1, none⟩ = some (.string nm) ∧ W.cell? ⟨wr.heap.size, 2, none⟩ = some (.int .u64 v) from by
          have hb := hN.bh _ _ rfl
          rw [blk_cell hb, blk_cell hb, blk_cell hb]
          exact ⟨rfl, rfl, rfl⟩)
        have HK := Lib.hid (show Nm nm from HOK.out.nm)
        generalize wr.alloc _ = w2 at hq ⊢
        generalize wr.heap.size = bx at hq HBX ⊢
        have HQ := Lib.hid hq
        obtain ⟨d1, d2, d3⟩ := HBX.out _ _ _ hq
        clear hq c1 c2 c3 c2' c3' HOK HN
        by_cases hk0 : kd = 0
        · subst hk0
          have HP := Lib.hid (HQ.out.tput nm v (by omega))
          generalize hb1 : (getL BS.kct nm L).isNone = bq at HP
          have HBQ := Lib.hid hb1
          clear hb1
          go_upto_region 13 with (go_at_call 22; refine HP.out.mono ?_; rintro e w3 ⟨rfl, hn3⟩)
          have HN3 := Lib.hid hn3
          obtain ⟨f1, f2, f3⟩ := HBX.out _ _ _ hn3
          have hrp := hn3.rput nm HK.out v (by omega)
          rw [HBQ.out] at hrp
          have HRP := Lib.hid hrp
          have hlen5 : (insL BS.kct nm v L).length ≤ i + 1 := by
            rw [insL_length]
            split <;> omega
          clear hn3 hrp HP
          go_upto_region 14 with (go_at_call 26; refine HRP.out.mono ?_; rintro e w4 ⟨rfl, hn4⟩)
          have HN5 := Lib.hid hn4
          clear hn4 HRP HN3
          obtain ⟨A6, c6, c60, -⟩ := HN5.out.row
          have HLN := Lib.hid (fun n => (HN5.out.drewN n).tlen)
          have HL5 := Lib.hid hlen5
          generalize hL5 : insL BS.kct nm v L = L5 at HN5 HLN c60 HL5 hlen5
          clear hL5
          go_wp2_with fail
          go_big_quiet ((go_at_call 20; refine (HLN.out _).mono ?_; rintro _ _ ⟨h1, h2⟩; exact ⟨h1, _, h2⟩))
          go_wp2_with fail
          go_roundw
          case measure => simp [intOf]; omega
          case rel => exact ⟨i + 1, L5, by omega, by omega, by omega, by simp, Lib.hid ((HN5.out.drewN _).forget)⟩
        · by_cases hk1 : kd = 1
          · subst hk1
            have hp := HQ.out.tget nm
            unfold BS.GetP at hp
            have HRG := Lib.hid (fun n => (HQ.out.drewN n).rget nm HK.out (by omega))
            unfold BS.GetP at HRG
            generalize (getL BS.kct nm L).getD 0 = x at hp HRG
            generalize (getL BS.kct nm L).isSome = bq at hp HRG
            have HP := Lib.hid hp
            have hlen5 : L.length ≤ i + 1 := by omega
            clear hp hk0
            go_upto_region 18 with (go_at_call 19; refine HP.out.mono ?_; rintro e w3 ⟨rfl, n3, rfl⟩)
            go_upto_region 19 with (go_at_call 27; refine (HRG.out _).mono ?_; rintro e w4 ⟨rfl, n4, rfl⟩)
            have HN5 := Lib.hid ((HQ.out.drewN n3).drewN n4)
            rw [World.drewN_drewN] at HN5
            (try rw [World.drewN_drewN])
            generalize w2.drewN _ = w4 at HN5 ⊢
            obtain ⟨A6, c6, c60, -⟩ := HN5.out.row
            have HLN := Lib.hid (fun n => (HN5.out.drewN n).tlen)
            have HL5 := Lib.hid hlen5
            generalize hL5 : L = L5 at HN5 HLN c60 HL5 hlen5
            clear hL5
            go_wp2_with fail
            go_big_quiet ((go_at_call 20; refine (HLN.out _).mono ?_; rintro _ _ ⟨h1, h2⟩; exact ⟨h1, _, h2⟩))
            go_wp2_with fail
            go_roundw
            case measure => simp [intOf]; omega
            case rel => exact ⟨i + 1, L5, by omega, by omega, by omega, by simp, Lib.hid ((HN5.out.drewN _).forget)⟩
          · by_cases hk2 : kd = 2
            · subst hk2
              have HT0 := Lib.hid (fun n => (HQ.out.drewN n).tdrop nm (by omega))
              have HR0 := Lib.hid (fun n => (HQ.out.drewN n).rdrop nm HK.out (by omega))
              have hlen5 : (delL BS.kct nm L).length ≤ i + 1 := by
                rw [delL_length]
                split <;> omega
              have hlL : L.length ≤ 65536 := by omega
              clear hk0 hk1
              go_upto_region 22 with (fail)
              go_cut [120] from 42 to 128 (fun c wc => c = .bool false ∧ Hid (Nr w (some (bx, .cells #[.int .i64 2, .string nm, .int .u64 v] 55 (0, 0))) p m w1.heap.size (delL BS.kct nm L) (delL BS.kct nm L) wc))
              case first =>
               go_region_law (first
                | (go_simp; go_at_call 23; refine (HT0.out 1).mono ?_; rintro e w3 ⟨rfl, hn3⟩; obtain ⟨f1, f2, f3⟩ := HBX.out _ _ _ hn3; have HN3 := Lib.hid hn3; clear hn3)
                | (go_simp; go_at_call 28; refine (HN3.out.rdrop nm HK.out hlL).mono ?_; rintro e w4 ⟨rfl, hn4⟩; have HN5 := Lib.hid hn4; clear hn4)
                | (go_simp; go_at_call 28; refine (HR0.out 1).mono ?_; rintro e w3 ⟨rfl, hn3⟩; obtain ⟨f1, f2, f3⟩ := HBX.out _ _ _ hn3; have HN4 := Lib.hid hn3; clear hn3)
                | (go_simp; go_at_call 23; refine (HN4.out.tdrop nm hlL).mono ?_; rintro e w4 ⟨rfl, hn4⟩; have HN5 := Lib.hid hn4; clear hn4))
               all_goals
                go_wp2_with fail
                go_meet
                exact ⟨rfl, HN5⟩
              case rest =>
                obtain ⟨rfl, HN5⟩ := hcut
                clear HT0 HR0
                obtain ⟨A6, c6, c60, -⟩ := HN5.out.row
                have HLN := Lib.hid (fun n => (HN5.out.drewN n).tlen)
                have HL5 := Lib.hid hlen5
                generalize hL5 : delL BS.kct nm L = L5 at HN5 HLN c60 HL5 hlen5
                clear hL5
                go_wp2_with fail
                go_big_quiet ((go_at_call 20; refine (HLN.out _).mono ?_; rintro _ _ ⟨h1, h2⟩; exact ⟨h1, _, h2⟩))
                go_wp2_with fail
                go_roundw
                case measure => simp [intOf]; omega
                case rel => exact ⟨i + 1, L5, by omega, by omega, by omega, by simp, Lib.hid ((HN5.out.drewN _).forget)⟩
            · have e0 : (kd == 0) = false := beq_eq_false_iff_ne.2 hk0
              have e1 : (kd == 1) = false := beq_eq_false_iff_ne.2 hk1
              have e2 : (kd == 2) = false := beq_eq_false_iff_ne.2 hk2
              have hlen5 : L.length ≤ i + 1 := by omega
              have HN5 := HQ
              obtain ⟨A6, c6, c60, -⟩ := HN5.out.row
              have HLN := Lib.hid (fun n => (HN5.out.drewN n).tlen)
              have HL5 := Lib.hid hlen5
              generalize hL5 : L = L5 at HN5 HLN c60 HL5 hlen5
              clear hL5
              go_wp2_with fail
              go_big_quiet ((go_at_call 20; refine (HLN.out _).mono ?_; rintro _ _ ⟨h1, h2⟩; exact ⟨h1, _, h2⟩))
              go_wp2_with fail
              go_roundw
              case measure => simp [intOf]; omega
              case rel => exact ⟨i + 1, L5, by omega, by omega, by omega, by simp, Lib.hid ((HN5.out.drewN _).forget)⟩
      · have HNB := Lib.hid (fun W (hW : Below wr.heap.size wr W) => HN.out.below hW)
        have hl200 : L.length ≤ 200 := by omega
        obtain ⟨A6, c6, c60, hrow⟩ := HN.out.row
        have HC6 := Lib.hid (fun W (hW : Below wr.heap.size wr W) => show W.cell? ⟨w1.heap.size, 0, none⟩ = some (.slice A6 L.length c6) from (hW.cell (World.block_lt_of_cell? wr _ c60)).trans c60)
        have HR6 := Lib.hid (fun W (hW : Below wr.heap.size wr W) => show Rw W 9 (.slice A6 L.length c6) (BS.ksR (L.map (·.1))) from hrow.keep fun g _ hl => hW.block g hl)
        have HKY := Lib.hid (HN.out.tkeys (by omega))
        have HKL := Lib.hid (show (BS.ksR (L.map (·.1))).length = L.length by rw [BS.ksR, List.length_map, List.length_map])
        have HBW := Lib.hid HN.out.bl
        clear hrow c60 HN1
        go_upto_region 7 with (fail)
        go_cut [49] from 42 to 128 (fun c wc => c = .bool false ∧ wr = wc)
        case first =>
          by_cases h1 : i < l.length
          · have g1 : (i : Int) < (l.length : Int) := by omega
            have g2 : decide ((i : Int) < 200) = false := decide_eq_false (by omega)
            have g3 : ¬ (i : Int) < 200 := by omega
            go_wp2_with fail
            go_meet
            exact ⟨rfl, rfl⟩
          · have g1 : decide ((i : Int) < (l.length : Int)) = false := decide_eq_false (by omega)
            have g2 : ¬ (i : Int) < (l.length : Int) := by omega
            go_wp2_with fail
            go_meet
            exact ⟨rfl, rfl⟩
        case rest =>
          obtain ⟨rfl, rfl⟩ := hcut
          clear hc
          go_upto_region 27 with (go_at_call 24; refine HKY.out.mono ?_; rintro e w5 ⟨v5, rfl, ho5, hb5⟩)
          have HB5 := Lib.hid hb5
          have hr5 := Rw.of_own ho5
          obtain ⟨A5, c5, e5, -⟩ := hr5.form
          rw [HKL.out] at e5
          subst e5
          have HR5 := Lib.hid hr5
          have HO5 := Lib.hid (fun g hg => (World.ownsRow.lt ho5 g hg).1)
          have c5r := HC6.out w5 hb5
          have hkm : (L.map (·.1)).length = L.length := List.length_map _
          have htx : ∀ n, Calls Try.prog 25 #[.slice A5 L.length c5, .slice A6 L.length c6] (w5.drewN n) fun e w' => e = .returned (.bool true) ∧ ∃ m, w' = w5.drewN (n + m) := fun n => by
            have h1 : Rw (w5.drewN n) 9 (.slice A5 (L.map (·.1)).length c5) (BS.ksR (L.map (·.1))) := by rw [hkm]; exact hr5.keep fun _ _ _ => rfl
            have h2 : Rw (w5.drewN n) 9 (.slice A6 (L.map (·.1)).length c6) (BS.ksR (L.map (·.1))) := by rw [hkm]; exact (HR6.out w5 hb5).keep fun _ _ _ => rfl
            have h3 := BS.texts_same A5 A6 c5 c6 (L.map (·.1)) (w5.drewN n) (by rw [hkm]; omega) h1 h2
            rw [hkm] at h3
            exact h3.mono fun e w' ⟨k1, m, k2⟩ => ⟨k1, m, by rw [k2, World.drewN_drewN]⟩
          have HTX := Lib.hid htx
          clear ho5 hb5 hr5 htx HKY
          go_cut [160] from 131 to 160 (fun c wc => c = .bool false ∧ Hid (Below w5.heap.size w5 wc))
          case first =>
            by_cases h0 : 0 < l.length
            · have g1 : (0 : Int) < (l.length : Int) := by omega
              obtain ⟨ad, rfl, hcell⟩ := (HA.out.below (HBW.out.trans (HB5.out.mono HBW.out.size))).2.2 h0
              have c2' := (hcell 0 h0).2.1
              have e0 : ad.add (0 * 3) = ad := by simp [Addr.add]
              have c2 := fld_cell (d := 1) (by decide) c2'
              rw [e0] at c2
              have hnm : Nm l[0].nm := (HA.out.2.1 l[0] (List.getElem_mem h0)).nm
              have HNM := Lib.hid hnm
              clear hcell hnm e0
              clear c2'
              generalize l[0].nm = nm at c2 HNM
              have HFL := Lib.hid (show ∀ nm, ((L.map (·.1)).filter fun k => !BS.outS low nm k).length ≤ 200 from fun nm => by
                have := List.length_filter_le (fun k => !BS.outS low nm k) (L.map (·.1))
                rw [List.length_map] at this
                omega)
              have HFK := Lib.hid (show ∀ X : List BS.Ky, (BS.ksR X).length = X.length from fun X => List.length_map _)
              have HTS := Lib.hid (fun W (hW : Below w5.heap.size w5 W) => (HNB.out _ (HB5.out.trans (hW.mono HB5.out.size))).tspan (by omega) low nm)
              have HRS := Lib.hid (fun W (hW : Below w5.heap.size w5 W) => (HNB.out _ (HB5.out.trans (hW.mono HB5.out.size))).rspan low nm HLW.out HNM.out (by omega))
              have HKP := Lib.hid (fun W (hW : Below w5.heap.size w5 W) => show W.cell? ⟨w1.heap.size, 0, none⟩ = some (.slice A6 L.length c6) ∧ W.cell? ⟨ad.block, ad.off + 1, none⟩ = some (.string nm) from ⟨HC6.out W (HB5.out.trans (hW.mono HB5.out.size)), (hW.cell (World.block_lt_of_cell? w5 _ c2)).trans c2⟩)
              have hb0 : Below w5.heap.size w5 w5.drew := (Below.refl _ _).drew
              obtain ⟨s1, s2⟩ := HKP.out w5.drew hb0
              have HTX1 := Lib.hid (show Calls Try.prog 25 #[.slice A5 L.length c5, .slice A6 L.length c6] w5.drew fun e w' => e = .returned (.bool true) ∧ Below w5.heap.size w5 w' from (HTX.out 1).mono fun e w' ⟨k1, m, k2⟩ => ⟨k1, by rw [k2]; exact ⟨rfl, rfl, rfl, Nat.le_refl _, fun _ _ => rfl⟩⟩)
              go_region_held3 (fun W' => W'.cell? ⟨w1.heap.size, 0, none⟩ = some (.slice A6 L.length c6) ∧ W'.cell? ⟨ad.block, ad.off + 1, none⟩ = some (.string nm))
                (first | exact HKP.out _ hb9 | exact HKP.out _ hb8 | exact HKP.out _ hb7 | exact HKP.out _ hbt | exact HKP.out _ hb0)
                (first
                  | (go_at_call 25; refine HTX2.out.mono ?_; rintro e w9 ⟨rfl, n9, rfl⟩; have hb9 : Below w5.heap.size w5 (w8.drewN n9) := hb8.trans ⟨rfl, rfl, rfl, Nat.le_refl _, fun _ _ => rfl⟩)
                  | (go_at_call 25; refine HTX1.out.mono ?_; rintro e wt ⟨rfl, hbt⟩)
                  | (go_at_call 30; refine (HRS.out _ HT7.out).mono ?_; rintro e w8 ⟨v8, rfl, hr8, hb8'⟩; obtain ⟨A8, c8, e8, -⟩ := hr8.form; rw [HFK.out] at e8; subst e8; have hk7 := HR7.out.keep fun g _ hl => hb8'.block g hl; have HTX2 := Lib.hid (BS.texts_same A7 A8 c7 c8 _ w8 (by have := HFL.out nm; omega) hk7 hr8); have hb8 : Below w5.heap.size w5 w8 := HT7.out.trans (hb8'.mono HT7.out.size); clear hr8 hb8' hk7)
                  | (go_at_call 29; refine (HTS.out _ HU7.out).mono ?_; rintro e w8 ⟨v8, rfl, hr8, hb8'⟩; obtain ⟨A8, c8, e8, -⟩ := hr8.form; rw [HFK.out] at e8; subst e8; have hk7 := HR7.out.keep fun g _ hl => hb8'.block g hl; have HTX2 := Lib.hid (BS.texts_same A8 A7 c8 c7 _ w8 (by have := HFL.out nm; omega) hr8 hk7); have hb8 : Below w5.heap.size w5 w8 := HU7.out.trans (hb8'.mono HU7.out.size); clear hr8 hb8' hk7)
                  | (go_at_call 29; refine (HTS.out _ hbt).mono ?_; rintro e w7 ⟨v7, rfl, hr7, hb7'⟩; obtain ⟨A7, c7, e7, -⟩ := hr7.form; rw [HFK.out] at e7; subst e7; have hb7 : Below w5.heap.size w5 w7 := hbt.trans (hb7'.mono hbt.size); have HT7 := Lib.hid hb7; have HR7 := Lib.hid hr7; clear hr7 hb7')
                  | (go_at_call 30; refine (HRS.out _ hbt).mono ?_; rintro e w7 ⟨v7, rfl, hr7, hb7'⟩; obtain ⟨A7, c7, e7, -⟩ := hr7.form; rw [HFK.out] at e7; subst e7; have hb7 : Below w5.heap.size w5 w7 := hbt.trans (hb7'.mono hbt.size); have HU7 := Lib.hid hb7; have HR7 := Lib.hid hr7; clear hr7 hb7'))
              all_goals
                go_wp2_with fail
                go_meet
                exact ⟨rfl, Lib.hid hb9⟩
            · have g1 : decide ((0 : Int) < (l.length : Int)) = false := decide_eq_false (by omega)
              have g2 : ¬ 0 < l.length := h0
              go_big_quiet ((go_at_call 25; refine (HTX.out _).mono ?_; rintro _ _ ⟨h1, m1, h2⟩; exact ⟨h1, _, h2⟩))
              go_wp2_with fail
              go_meet
              exact ⟨rfl, Lib.hid ⟨rfl, rfl, rfl, Nat.le_refl _, fun _ _ => rfl⟩⟩
          case rest =>
            obtain ⟨rfl, HB6⟩ := hcut
            clear HTX
            have hb6 := HB6.out
            have HRC := Lib.hid (HR5.out.keep fun g _ hl => hb6.block g hl)
            have HBC := Lib.hid (HB5.out.trans (hb6.mono HB5.out.size))
            clear hb6 HB6 c5r HR5
            go_wp2_with fail
            go_loopw [20] (fun t20 wj => ∃ j : Nat, j ≤ L.length ∧ t20 = .int .i64 j ∧ Hid (∃ X : List Value, X.length = L.length ∧ Rw wj 9 (.slice A5 L.length c5) X) ∧ Hid (Below wr.heap.size wr wj)) (fun t20 _ => L.length - (intOf t20).toNat)
            case atStart => exact ⟨0, Nat.zero_le _, rfl, Lib.hid ⟨_, HKL.out, HRC.out⟩, HBC⟩
            case round =>
              obtain ⟨j, hj, rfl, HX, HBJ⟩ := hrel
              by_cases hjl : j < L.length
              · have s1 : (j : Int) < (L.length : Int) := by omega
                obtain ⟨X, hXl, hX⟩ := HX.out
                obtain ⟨g, rfl, -⟩ := hX.cells (by omega)
                obtain ⟨d1, d2⟩ := hX.cell (j := j) (by omega)
                have hg := HO5.out g rfl
                generalize X[j] = u at d1
                have HXX := Lib.hid (And.intro hXl hX)
                clear hX hXl
                go_wp2_with fail
                go_roundw
                case measure => simp [intOf]; omega
                case rel => exact ⟨j + 1, by omega, by simp, Lib.hid ⟨_, by rw [List.length_set]; exact HXX.out.1, HXX.out.2.set j _⟩, Lib.hid (HBJ.out.trans ⟨rfl, rfl, rfl, by simp [World.setCell], fun c hc => Below.heap_setCell _ ⟨g, j, none⟩ _ c (by show c ≠ g; omega)⟩)⟩
              · have s1 : decide ((j : Int) < (L.length : Int)) = false := decide_eq_false (by omega)
                have s2 : ¬ (j : Int) < (L.length : Int) := by omega
                have hN := HNB.out _ HBJ.out
                obtain ⟨A9, c9, c90, hrow9⟩ := hN.row
                have HKP := Lib.hid (fun W (hW : Below wr.heap.size wr W) => show W.cell? ⟨w1.heap.size, 0, none⟩ = some (.slice A9 L.length c9) from (hW.cell (World.block_lt_of_cell? wr _ c90)).trans c90)
                have HRP := Lib.hid (fun W (hW : Below wr.heap.size wr W) => show Rw W 9 (.slice A9 L.length c9) (BS.ksR (L.map (·.1))) from hrow9.keep fun g _ hl => hW.block g hl)
                have HKY9 := Lib.hid (fun W (hW : Below wr.heap.size wr W) => (hN.below hW).tkeys (by omega))
                have HTQ := Lib.hid (show ∀ (W : World) (A7 : Option Addr) (c7 : Nat), Rw W 9 (.slice A7 L.length c7) (BS.ksR (L.map (·.1))) → Rw W 9 (.slice A9 L.length c9) (BS.ksR (L.map (·.1))) → Calls Try.prog 25 #[.slice A7 L.length c7, .slice A9 L.length c9] W fun e w' => e = .returned (.bool true) ∧ Below W.heap.size W w' from fun W A7 c7 h1 h2 => by
                  have hkm : (L.map (·.1)).length = L.length := List.length_map _
                  have h3 := BS.texts_same A7 A9 c7 c9 (L.map (·.1)) W (by rw [hkm]; omega) (by rw [hkm]; exact h1) (by rw [hkm]; exact h2)
                  rw [hkm] at h3
                  exact h3.mono fun e w' ⟨k1, m, k2⟩ => ⟨k1, by rw [k2]; exact ⟨rfl, rfl, rfl, Nat.le_refl _, fun _ _ => rfl⟩⟩)
                have hb0 : Below wr.heap.size wr wr.drew := (Below.refl _ _).drew
                have s0 := HKP.out wr.drew hb0
                clear hN hrow9 c90 HX
                go_wp2_with fail
                go_region_held3 (fun W' => W'.cell? ⟨w1.heap.size, 0, none⟩ = some (.slice A9 L.length c9))
                  (first | exact HKP.out _ hb9 | exact HKP.out _ hb8 | exact HKP.out _ hb7 | exact HKP.out _ hb0)
                  (first
                    | (go_at_call 15; refine (BS.lives07 _).mono ?_; rintro e w9 ⟨rfl, hb9'⟩; have hb9 : Below wr.heap.size wr w9 := hb8.trans (hb9'.mono hb8.size); clear hb9')
                    | (go_at_call 25; refine (HTQ.out _ _ _ HR7.out (HRP.out _ hb7)).mono ?_; rintro e w8 ⟨rfl, hb8'⟩; have hb8 : Below wr.heap.size wr w8 := hb7.trans (hb8'.mono hb7.size); clear hb8')
                    | (go_at_call 24; refine (HKY9.out _ hb0).mono ?_; rintro e w7 ⟨v7, rfl, ho7, hb7'⟩; have hr7 := Rw.of_own ho7; obtain ⟨A7, c7, e7, -⟩ := hr7.form; rw [HKL.out] at e7; subst e7; have HR7 := Lib.hid hr7; have hb7 : Below wr.heap.size wr w7 := hb0.trans (hb7'.mono hb0.size); clear hr7 ho7 hb7'))
                all_goals
                  go_wp2_with fail
                  go_ret
                  have k1 := HBW.out.size
                  have k2 := HBJ.out.size
                  exact ⟨rfl, HBW.out.trans ((HBJ.out.mono k1).trans (hb9.mono (by omega)))⟩
  · have hbad := BS.made_bad most w hm3
    have HBD := Lib.hid hbad
    have HLV := Lib.hid (fun W => BS.lives07 W)
    have hsz : (w.alloc (.cells #[.slice none 0 0, .slice none 0 0] 53)).heap.size = w.heap.size + 1 := Array.size_push _
    have HSZ := Lib.hid hsz
    clear hbad hsz
    by_cases h3 : most < 3
    · go_enter Try.func8, Try.ntmps8
      go_wp2_with (first | (go_at_call 21; refine HBD.out.mono ?_; rintro e w1 ⟨rfl, rfl⟩) | (go_at_call 15; refine (HLV.out _).mono ?_; rintro e w3 ⟨rfl, hb3⟩))
      go_ret
      exact ⟨rfl, ((Below.refl _ _).alloc (Nat.le_refl _) _).trans (hb3.mono (by rw [HSZ.out]; omega))⟩
    · have h4 : 64 < most := by omega
      go_enter Try.func8, Try.ntmps8
      go_wp2_with (first | (go_at_call 21; refine HBD.out.mono ?_; rintro e w1 ⟨rfl, rfl⟩) | (go_at_call 15; refine (HLV.out _).mono ?_; rintro e w3 ⟨rfl, hb3⟩))
      go_ret
      exact ⟨rfl, ((Below.refl _ _).alloc (Nat.le_refl _) _).trans (hb3.mono (by rw [HSZ.out]; omega))⟩
end Go.Proofs.Ytfhonfeopkhdeaa
