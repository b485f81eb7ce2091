/-
  BtreeMixed: the walk. No premise.
-/
import Derived.Test.YtfhonfeopkhdeaaBtTw
namespace Go.Proofs.Ytfhonfeopkhdeaa
open Go.RowKit Go.Proofs.YtfhonfeopkhdeaaW.PrintWords

theorem foldl_take {α β : Type} (f : β → α → β) (b : β) (l : List α) (i : Nat) (h : i < l.length) : (l.take (i + 1)).foldl f b = f ((l.take i).foldl f b) l[i] := by
  rw [List.take_add_one, List.getElem?_eq_getElem h, List.foldl_append]
  rfl
set_option maxRecDepth 100000 in
set_option maxHeartbeats 8000000 in
theorem btreeMixed_walk (most : Int) (A1 : Option Addr) (cap1 : Nat) (ks : List ByteArray) (A2 : Option Addr) (cap2 : Nat) (ds : List ByteArray) (w : World) (hmo : (Lit.int .u64 most).wf = true) (h1 : Ns w A1 ks) (h2 : Ns w A2 ds) :
    Calls Try.prog 7 #[.int .u64 most, .slice A1 ks.length cap1, .slice A2 ds.length cap2] w fun e w' => e = .returned (.bool true) ∧ Below w.heap.size w w' := by
  have hw := wf_u7 hmo
  obtain ⟨m, hm⟩ : ∃ m : Nat, (m : Int) = 3 + most % 62 := ⟨(3 + most % 62).toNat, by omega⟩
  have hm3 : 3 ≤ m ∧ m ≤ 64 := by omega
  have htm : most.tmod 62 = most % 62 := Int.tmod_eq_emod_of_nonneg hw.1
  have HN1 := Lib.hid h1
  have HN2 := Lib.hid h2
  have HLV := Lib.hid (BS.lives07 w)
  have HMK := Lib.hid (BS.made2 m hm3 w)
  clear hmo h1 h2
  by_cases hk : 200 < ks.length
  · have g1 : (200 : Int) < (ks.length : Int) := by omega
    clear hm htm HMK HN1 HN2
    go_enter Try.func7, Try.ntmps7
    go_wp2_with (go_at_call 15; refine HLV.out.mono ?_; rintro e w3 ⟨rfl, hb3⟩)
    go_ret
    exact ⟨rfl, hb3⟩
  · by_cases hd : 200 < ds.length
    · have g1 : ¬ (200 : Int) < (ks.length : Int) := by omega
      have g2 : (200 : Int) < (ds.length : Int) := by omega
      clear hm htm HMK HN1 HN2
      go_enter Try.func7, Try.ntmps7
      go_wp2_with (go_at_call 15; refine HLV.out.mono ?_; rintro e w3 ⟨rfl, hb3⟩)
      go_ret
      exact ⟨rfl, hb3⟩
    · have g1 : ¬ (200 : Int) < (ks.length : Int) := by omega
      have g2 : ¬ (200 : Int) < (ds.length : Int) := by omega
      go_enter Try.func7, Try.ntmps7
      go_wp2_with fail
      rw [← hm]
      refine HMK.out.mono ?_
      rintro e w1 ⟨p, rfl, hb1, hc2⟩
      have HC2 := Lib.hid hc2
      clear hc2 HMK hm htm HLV g1 g2
      unfold BS.nv at *
      go_wp2_with fail
      refine HC2.out.mono ?_
      rintro e w2 ⟨q, rfl, hT⟩
      have HT := Lib.hid hT
      clear hT HC2
      unfold BS.nv at *
      go_wp2_with fail
      go_loopw [10] (fun t10 wr => ∃ i : Nat, i ≤ ks.length ∧ t10 = .int .i64 i ∧ Hid (BS.Tw w p q m ((ks.take i).foldl BS.putN []) ((ks.reverse.take i).foldl BS.putN []) wr)) (fun t10 _ => ks.length - (intOf t10).toNat)
      case atStart => exact ⟨0, Nat.zero_le _, rfl, Lib.hid (by simpa using HT.out)⟩
      case round =>
        obtain ⟨i, hi, rfl, HTI⟩ := hrel
        by_cases hc : i < ks.length
        · have s1 : (i : Int) < (ks.length : Int) := by omega
          obtain ⟨ad, rfl, hcell⟩ := HN1.out.2 (by omega)
          obtain ⟨j, hj⟩ : ∃ j, j = ks.length - 1 - i := ⟨_, rfl⟩
          have hjk : j < ks.length := by omega
          have s2 : (ks.length : Int) - 1 - (i : Int) = (j : Int) := by omega
          have c1 := pw_cell_below HTI.out.bl (hcell i hc)
          have HP1 := Lib.hid (HTI.out.put hm3 ks[i] 1 (by have := BS.putN_len (ks.take i) []; rw [List.length_take] at this; simp at this; omega))
          have HF1 := Lib.hid (foldl_take BS.putN [] ks i hc)
          have HF2 := Lib.hid (foldl_take BS.putN [] ks.reverse i (by rw [List.length_reverse]; exact hc))
          have hrev : ks.reverse[i]'(by rw [List.length_reverse]; exact hc) = ks[j] := by
            rw [List.getElem_reverse]
            congr 1
            exact hj.symm
          rw [hrev] at HF2
          have HCJ := Lib.hid (fun W (hW : Below w.heap.size w W) => pw_cell_below hW (hcell j hjk))
          generalize ks[i] = k1 at c1 HP1 HF1
          generalize ks[j] = k2 at HF2 HCJ
          have HLB := Lib.hid (show ((ks.reverse.take i).foldl BS.putN []).length < 65536 by
            have := BS.putN_len (ks.reverse.take i) []
            rw [List.length_take] at this
            simp at this
            omega)
          unfold BS.nv BS.kv at HP1
          have HJ := Lib.hid hj
          clear hcell hrev hj
          go_upto_region 11 with (go_at_call 22; refine HP1.out.mono ?_; rintro e w3 ⟨rfl, hT3⟩)
          have HT3 := Lib.hid hT3
          have c2 := HCJ.out _ hT3.bl
          have HP2 := Lib.hid (hT3.swap.put hm3 k2 1 HLB.out)
          unfold BS.nv BS.kv at HP2
          clear hT3 HP1
          go_wp2_with (go_at_call 22; refine HP2.out.mono ?_; rintro e w4 ⟨rfl, hT4⟩)
          go_roundw
          case measure => simp [intOf]; omega
          case rel => exact ⟨i + 1, by omega, by simp, Lib.hid (by rw [HF1.out, HF2.out]; exact hT4.swap)⟩
        · have s1 : decide ((i : Int) < (ks.length : Int)) = false := decide_eq_false (by omega)
          have e1 : i = ks.length := by omega
          have HTA : Hid (BS.Tw w p q m (ks.foldl BS.putN []) (ks.reverse.foldl BS.putN []) wr) := Lib.hid (by
            have := HTI.out
            rw [e1, List.take_length, List.take_of_length_le (by rw [List.length_reverse]; exact Nat.le_refl _)] at this
            exact this)
          clear e1 HTI
          obtain ⟨LA, hLA⟩ : ∃ LA, LA = ks.foldl BS.putN [] := ⟨_, rfl⟩
          obtain ⟨LB, hLB⟩ : ∃ LB, LB = ks.reverse.foldl BS.putN [] := ⟨_, rfl⟩
          have hlA : LA.length ≤ 200 := by
            have := BS.putN_len ks []
            rw [← hLA] at this
            simp at this
            omega
          have hlB : LB.length ≤ 200 := by
            have := BS.putN_len ks.reverse []
            rw [← hLB] at this
            simp at this
            omega
          have hsA : SortedL BS.kct LA := by rw [hLA]; exact BS.putN_sorted ks [] List.Pairwise.nil
          have hmix := BS.mixed_same ks ds
          rw [← hLA, ← hLB] at HTA hmix
          have HMX := Lib.hid hmix
          have HSA := Lib.hid hsA
          clear hmix hsA hLA hLB HN1 HT hb1
          go_wp2_with fail
          go_loopw [11] (fun t11 wr => ∃ i : Nat, i ≤ ds.length ∧ t11 = .int .i64 i ∧ Hid (BS.Tw w p q m ((ds.take i).foldl BS.dropN LA) ((ds.reverse.take i).foldl BS.dropN LB) wr)) (fun t11 _ => ds.length - (intOf t11).toNat)
          case atStart => exact ⟨0, Nat.zero_le _, rfl, Lib.hid (by simpa using HTA.out)⟩
          case round =>
            obtain ⟨i, hi, rfl, HTI⟩ := hrel
            by_cases hc : i < ds.length
            · have s1 : (i : Int) < (ds.length : Int) := by omega
              obtain ⟨ad, rfl, hcell⟩ := HN2.out.2 (by omega)
              obtain ⟨j, hj⟩ : ∃ j, j = ds.length - 1 - i := ⟨_, rfl⟩
              have hjk : j < ds.length := by omega
              have s2 : (ds.length : Int) - 1 - (i : Int) = (j : Int) := by omega
              have c1 := pw_cell_below HTI.out.bl (hcell i hc)
              have HP1 := Lib.hid (HTI.out.drop hm3 ds[i] (by have := BS.dropN_len (ds.take i) LA; omega))
              have HF1 := Lib.hid (foldl_take BS.dropN LA ds i hc)
              have HF2 := Lib.hid (foldl_take BS.dropN LB ds.reverse i (by rw [List.length_reverse]; exact hc))
              have hrev : ds.reverse[i]'(by rw [List.length_reverse]; exact hc) = ds[j] := by
                rw [List.getElem_reverse]
                congr 1
                exact hj.symm
              rw [hrev] at HF2
              have HCJ := Lib.hid (fun W (hW : Below w.heap.size w W) => pw_cell_below hW (hcell j hjk))
              generalize ds[i] = k1 at c1 HP1 HF1
              generalize ds[j] = k2 at HF2 HCJ
              have HLB := Lib.hid (show ((ds.reverse.take i).foldl BS.dropN LB).length ≤ 65536 by
                have := BS.dropN_len (ds.reverse.take i) LB
                omega)
              unfold BS.nv BS.kv at HP1
              have HJ := Lib.hid hj
              clear hcell hrev hj
              go_upto_region 16 with (go_at_call 23; refine HP1.out.mono ?_; rintro e w3 ⟨rfl, hT3⟩)
              have HT3 := Lib.hid hT3
              have c2 := HCJ.out _ hT3.bl
              have HP2 := Lib.hid (hT3.swap.drop hm3 k2 HLB.out)
              unfold BS.nv BS.kv at HP2
              clear hT3 HP1
              go_wp2_with (go_at_call 23; refine HP2.out.mono ?_; rintro e w4 ⟨rfl, hT4⟩)
              go_roundw
              case measure => simp [intOf]; omega
              case rel => exact ⟨i + 1, by omega, by simp, Lib.hid (by rw [HF1.out, HF2.out]; exact hT4.swap)⟩
            · have s1 : decide ((i : Int) < (ds.length : Int)) = false := decide_eq_false (by omega)
              have e1 : i = ds.length := by omega
              obtain ⟨K, hK⟩ : ∃ K, K = ds.foldl BS.dropN LA := ⟨_, rfl⟩
              have hTB : BS.Tw w p q m K K wr := by
                have := HTI.out
                rw [e1, List.take_length, List.take_of_length_le (by rw [List.length_reverse]; exact Nat.le_refl _), ← HMX.out, ← hK] at this
                exact this
              have HSK := Lib.hid (show SortedL BS.kct K by rw [hK]; exact BS.dropN_sorted _ _ HSA.out)
              have hKl : K.length ≤ 200 := by
                have := BS.dropN_len ds LA
                rw [← hK] at this
                omega
              have HK1 := Lib.hid (hTB.keys hm3 (by omega))
              have HTB := Lib.hid hTB
              unfold BS.nv at HK1
              clear e1 HTI hK hTB HTA HMX HSA HN2 hlA hlB
              go_upto_region 18 with (go_at_call 24; refine HK1.out.mono ?_; rintro e w5 ⟨v5, rfl, ho5, hb5⟩)
              have hT5 := HTB.out.below hb5
              have HT5 := Lib.hid hT5
              have HK2 := Lib.hid (hT5.swap.keys hm3 (by omega))
              unfold BS.nv at HK2
              have HR5 := Lib.hid (Rw.of_own ho5)
              have hkl : (BS.ksR (K.map (·.1))).length = (K.map (·.1)).length := List.length_map _
              have hkm : (K.map (·.1)).length = K.length := List.length_map _
              obtain ⟨A5, c5, e5, -⟩ := HR5.out.form
              rw [hkl, hkm] at e5
              subst e5
              have HKL := Lib.hid hkl
              have HKM := Lib.hid hkm
              clear hT5 ho5 hb5 HK1 HTB hkl hkm
              go_wp2_with fail
              refine HK2.out.mono ?_
              rintro e w6 ⟨v6, rfl, ho6, hb6⟩
              have HT6 := Lib.hid (HT5.out.below hb6)
              have HR6 := Lib.hid (Rw.of_own ho6)
              obtain ⟨A6, c6, e6, -⟩ := HR6.out.form
              rw [HKL.out, HKM.out] at e6
              subst e6
              have hr5 := HR5.out.keep fun g _ hl => hb6.block g hl
              have hr6 := HR6.out
              have HS5 := Lib.hid hr5
              rw [← HKM.out] at hr5 hr6
              have htx := BS.texts_same A5 A6 c5 c6 (K.map (·.1)) w6 (by rw [HKM.out]; omega) hr5 hr6
              rw [HKM.out] at htx
              have HTX := Lib.hid htx
              have HLN := Lib.hid (fun n => (HT6.out.below (BS.below_drewN w6 n)).len)
              unfold BS.nv at HLN
              clear ho6 hb6 hr5 hr6 htx HK2 HT5
              go_wp2_with (first
                | (go_at_call 25; refine HTX.out.mono ?_; rintro e w7 ⟨rfl, m7, rfl⟩)
                | (go_at_call 20; refine (HLN.out _).mono ?_; rintro e w8 ⟨rfl, rfl⟩))
              go_loopw [13] (fun t13 wr => ∃ i : Nat, 1 ≤ i ∧ i ≤ K.length + 1 ∧ t13 = .int .i64 i ∧ Hid (∃ mm, wr = w6.drewN mm)) (fun t13 _ => K.length + 1 - (intOf t13).toNat)
              case atStart => exact ⟨1, Nat.le_refl _, by omega, rfl, Lib.hid ⟨_, rfl⟩⟩
              case round =>
                obtain ⟨i, hi1, hi2, rfl, HWI⟩ := hrel
                obtain ⟨mi, rfl⟩ := HWI.out
                by_cases hc : i < K.length
                · have s1 : (i : Int) < (K.length : Int) := by omega
                  obtain ⟨j, hj⟩ : ∃ j, i = j + 1 := ⟨i - 1, by omega⟩
                  have hjl : j < K.length := by omega
                  obtain ⟨g, rfl, hcell⟩ := HS5.out.cells (by rw [HKL.out, HKM.out]; omega)
                  have hce : ∀ a (ha : a < K.length), w6.cell? ⟨g, a, none⟩ = some (.string K[a].1) := fun a ha => hcell a _ (by rw [BS.ksR, List.getElem?_map, List.getElem?_map, List.getElem?_eq_getElem ha]; rfl)
                  have c1 := hce i hc
                  have c2 := hce j hjl
                  have hlt : kS K[j].1 K[i].1 < 0 := List.pairwise_iff_getElem.1 HSK.out j i hjl hc (by omega)
                  have HCM := Lib.hid (fun W => cmpNames_any K[j].1 K[i].1 W)
                  generalize kS K[j].1 K[i].1 = cc at hlt HCM
                  generalize K[i].1 = k1 at c1 HCM
                  generalize K[j].1 = k2 at c2 HCM
                  have s2 : (i : Int) - 1 = (j : Int) := by omega
                  have s2w : IntKind.i64.wrap ((i : Int) - 1) = (j : Int) := by rw [IntKind.wrap_i64]; omega
                  have s3 : (j : Int) < (K.length : Int) := by omega
                  have t4 : decide (0 ≤ cc) = false := decide_eq_false (by omega)
                  have t5 : ¬ 0 ≤ cc := by omega
                  have HJ := Lib.hid hj
                  clear hj hcell hce hlt
                  go_wp2_with fail
                  go_big_quiet ((go_at_call 11; refine (HCM.out _).mono ?_; rintro _ _ ⟨h1, h2⟩; exact ⟨h1, _, h2⟩))
                  go_wp2_with fail
                  go_roundw
                  case measure => simp [intOf]; omega
                  case rel => exact ⟨i + 1, by omega, by omega, by simp, Lib.hid (by first | exact ⟨_, rfl⟩ | exact ⟨_, World.drewN_drewN _ _ _⟩)⟩
                · have s1 : decide ((i : Int) < (K.length : Int)) = false := decide_eq_false (by omega)
                  have s2 : ¬ (i : Int) < (K.length : Int) := by omega
                  have HLV2 := Lib.hid (BS.lives07 (w6.drewN mi))
                  go_wp2_with (go_at_call 15; refine HLV2.out.mono ?_; rintro e w3 ⟨rfl, hb3⟩)
                  go_ret
                  have hz := HT6.out.bl
                  have hd : Below w6.heap.size w6 (w6.drewN mi) := BS.below_drewN w6 mi
                  exact ⟨rfl, hz.trans ((hd.mono hz.size).trans (hb3.mono hz.size))⟩
end Go.Proofs.Ytfhonfeopkhdeaa
