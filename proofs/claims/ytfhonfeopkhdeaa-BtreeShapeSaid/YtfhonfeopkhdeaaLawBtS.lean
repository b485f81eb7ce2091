/-
  BtreeShape: the walk. No premise.
-/
import Derived.Test.YtfhonfeopkhdeaaBtPl
namespace Go.Proofs.Ytfhonfeopkhdeaa
open Go.RowKit Go.Proofs.YtfhonfeopkhdeaaW.PrintWords

theorem sumK_succ (N : List BS.Nt) (i : Nat) (hi : i < N.length) : ((N.take (i + 1)).map fun x => x.ks.length).sum = ((N.take i).map fun x => x.ks.length).sum + N[i].ks.length := by
  rw [List.take_add_one, List.getElem?_eq_getElem hi, List.map_append, List.sum_append]
  simp
theorem sumK_le (N : List BS.Nt) (i : Nat) : ((N.take i).map fun x => x.ks.length).sum ≤ (N.map fun x => x.ks.length).sum := by
  conv => rhs; rw [← List.take_append_drop i N]
  rw [List.map_append, List.sum_append]
  omega
theorem sh_lv {m h : Nat} {L : List (BS.Ky × Int)} {N : List BS.Nt} (H : BS.ShOk m h L N) : ∀ (i : Nat) (hi : i < N.length), N[i].lv ≤ i
  | 0, hi => Nat.le_of_eq ((H.lv0 0 hi).1 rfl)
  | i + 1, hi => by
    have h1 := H.stp i hi
    have h2 := sh_lv H i (by omega)
    omega
set_option maxRecDepth 100000 in
set_option maxHeartbeats 8000000 in
theorem btreeShape_walk (most : Int) (A : Option Addr) (cap : Nat) (l : List A7) (w : World) (hmo : (Lit.int .u64 most).wf = true) (hr : Acs7 w A l) :
    Calls Try.prog 5 #[.int .u64 most, .slice A l.length cap] w fun e w' => e = .returned (.bool true) ∧ Below w.heap.size w w' := by
  have hw := wf_u7 hmo
  obtain ⟨m, hm⟩ : ∃ m : Nat, (m : Int) = 3 + most % 62 := ⟨(3 + most % 62).toNat, by omega⟩
  have hm3 : 3 ≤ m ∧ m ≤ 64 := by omega
  have HPL := Lib.hid (BS.played_any m hm3 A cap l w hr)
  have htm : most.tmod 62 = most % 62 := Int.tmod_eq_emod_of_nonneg hw.1
  clear hmo hr
  go_enter Try.func5, Try.ntmps5
  go_wp2_with fail
  rw [← hm]
  refine HPL.out.mono ?_
  rintro e w1 ⟨p, o1, rfl, hn1, hu1⟩
  have hlen := BS.playL_len l 300
  have hbel := BS.UpB.bel hu1 (fun _ _ => rfl)
  generalize BS.playL (l.take 300) = L at hn1 hlen
  obtain ⟨h, t, M, b, ht⟩ := hn1
  have HB1 := Lib.hid hbel
  have hn2 : BS.NT w.heap.size w1 o1 p m L := ⟨h, t, M, b, ht⟩
  have HND := Lib.hid (BS.Nodes_any _ p m h t w1 o1 M b hm3 (by rw [ht]; omega))
  have hsh := BS.nodesT_ok hm3.1 b.tm.ok b.tm.ss
  rw [ht] at hsh
  have HSH := Lib.hid hsh
  have HNT := Lib.hid hn2
  clear hu1 hbel b hn2 HPL hsh htm hw hm
  unfold BS.nv at *
  go_wp2_with fail
  refine HND.out.mono ?_
  rintro e w2 ⟨v2, l2, rfl, hN2, hm2, hB2⟩
  have hm2' : l2.map (·.1) = BS.nodesT h t := by rw [hm2]; rfl
  have hsh := HSH.out
  rw [← hm2'] at hsh
  have hks := hN2.ks
  obtain ⟨A2, c2, rfl, -, hcell⟩ := hN2.cells
  have hnt2 : BS.NT w.heap.size w2 o1 p m L := by
    obtain ⟨h', t', M', b', ht'⟩ := HNT.out
    have hu2 : BS.Up (fun _ => False) o1 o1 w1 w2 := BS.Up.quiet b'.fb hB2
    exact ⟨h', t', M', ⟨b'.at_.up hu2 id, hu2.fb, b'.tm.up (b'.tm.gm.up hB2 (fun _ _ => rfl)), b'.nd, b'.bp, b'.bn⟩, ht'⟩
  have HNT2 := Lib.hid hnt2
  have HLC := Lib.hid (fun n => (hnt2.drewN n).len)
  have HGET := Lib.hid (fun n (key : ByteArray) => (hnt2.drewN n).get hm3 key)
  unfold BS.kv at HGET
  have HCE := Lib.hid hcell
  have HKS := Lib.hid hks
  have HS := Lib.hid hsh
  have HB2 := Lib.hid (HB1.out.trans (hB2.mono HB1.out.size))
  have hl2 : l2.length ≤ 100000 := by
    have h1 := hsh.tot
    have h2 : ∀ N : List BS.Nt, (∀ i (hi : i < N.length), 1 ≤ N[i].ks.length) → N.length ≤ (N.map fun x => x.ks.length).sum := fun N => by
      induction N with
      | nil => intro _; exact Nat.le_refl _
      | cons a N ih =>
        intro h
        have h3 := h 0 (by simp)
        have h4 := ih (fun i hi => h (i + 1) (by simpa using hi))
        simp at h3 ⊢
        omega
    have h3 := h2 _ (fun i hi => (hsh.cnt i hi).1)
    rw [List.length_map] at h3
    omega
  obtain ⟨q, hq⟩ : ∃ q, q = m / 2 := ⟨_, rfl⟩
  have hq1 : 1 ≤ q ∧ q ≤ 32 := by omega
  have hqt : (m : Int).tdiv 2 = (q : Int) := by rw [Int.tdiv_eq_ediv_of_nonneg (by omega)]; omega
  have HQ := Lib.hid hq
  clear hN2 hm2 hm2' hB2 hcell hnt2 hks hsh hq HNT HSH HND
  unfold BS.nv at *
  go_wp2_with fail
  go_loopw [8, 9, 10] (fun t8 t9 t10 wr => ∃ i s : Nat, ∃ lf : Int, i ≤ l2.length ∧ s ≤ 300 ∧ -1 ≤ lf ∧ lf ≤ 100000 ∧ t8 = .int .i64 s ∧ t9 = .int .i64 lf ∧ t10 = .int .i64 i ∧ Hid (s = (((l2.map (·.1)).take i).map fun x => x.ks.length).sum) ∧ Hid (lf = -1 ∨ lf = h) ∧ Hid (∃ mm, wr = w2.drewN mm)) (fun _ _ t10 _ => l2.length - (intOf t10).toNat)
  case atStart => exact ⟨0, 0, -1, Nat.zero_le _, by omega, by omega, by omega, rfl, rfl, rfl, Lib.hid rfl, Lib.hid (.inl rfl), Lib.hid ⟨0, rfl⟩⟩
  case round =>
    obtain ⟨i, s, lf, hi, hs, hlf1, hlf2, rfl, rfl, rfl, HSU, HLF, HW⟩ := hrel
    obtain ⟨mm, rfl⟩ := HW.out
    by_cases hc : i < l2.length
    · have g1 : (i : Int) < (l2.length : Int) := by omega
      obtain ⟨g, rfl, -, -, hcc⟩ := HCE.out (by omega)
      obtain ⟨d1, d2, d3⟩ := hcc i hc
      obtain ⟨hrw, -⟩ := HKS.out l2[i] (List.getElem_mem hc)
      obtain ⟨A3, c3, e3, -⟩ := hrw.form
      have hN : i < (l2.map (·.1)).length := by rw [List.length_map]; exact hc
      have hNi : (l2.map (·.1))[i] = l2[i].1 := List.getElem_map _
      obtain ⟨k1, k2, k3⟩ := HS.out.cnt i hN
      have kl := HS.out.lv0 i hN
      have kf := HS.out.leaf i hN
      have HKY := Lib.hid (HS.out.keys i hN)
      have HRI := Lib.hid (HS.out.rise i hN)
      have hlvb := sh_lv HS.out i hN
      have hsu := sumK_succ _ i hN
      have hle := sumK_le (l2.map (·.1)) (i + 1)
      rw [HS.out.tot] at hle
      rw [← HSU.out] at hsu
      rw [hNi] at k1 k2 k3 kl kf HKY HRI hsu hlvb
      have hkl : (BS.ksR l2[i].1.ks).length = l2[i].1.ks.length := List.length_map _
      rw [hkl] at e3
      rw [e3] at hrw d3
      have hlv : ∀ j, i = j + 1 → ∃ (hj : j < l2.length), w2.cell? ⟨g, j * 3, none⟩ = some (.int .i64 l2[j].1.lv) ∧ l2[i].1.lv ≤ l2[j].1.lv + 1 ∧ l2[j].1.lv ≤ 1000000 := fun j hj => by
        subst hj
        have h1 := HS.out.stp j (by rw [List.length_map]; exact hc)
        rw [List.getElem_map, List.getElem_map] at h1
        have h2 := sh_lv HS.out j (by rw [List.length_map]; omega)
        rw [List.getElem_map] at h2
        exact ⟨by omega, (hcc j (by omega)).1, h1, by omega⟩
      generalize l2[i].1.lv = lv at *
      generalize l2[i].1.lf = fl at *
      generalize l2[i].1.ks = KS at *
      obtain ⟨n, hn⟩ : ∃ n, n = KS.length := ⟨_, rfl⟩
      rw [← hn] at k1 k2 k3 e3 hrw d3 hsu
      have HNE := Lib.hid hn
      have HHR := Lib.hid hrw
      have HSU2 := Lib.hid hsu
      have k3' := k3
      rw [← HQ.out] at k3'
      have HLV3 := Lib.hid hlv
      have HKF := Lib.hid kf
      have HKL := Lib.hid kl
      have HLE := Lib.hid hle
      clear hcc hkl e3 hNi hN hn hrw k3 HCE HKS hlv kf kl hle hsu
      go_upto_region 12 with (fail)
      go_cut [87] from 26 to 163 (fun c wc => c = .bool false ∧ Hid (∃ m', wc = w2.drewN m'))
      case first =>
        have r1 : decide ((m : Int) < (n : Int)) = false := decide_eq_false (by omega)
        have r1' : ¬ m < n := by omega
        have r1n : decide (m < n) = false := decide_eq_false r1'
        have r2 : decide ((n : Int) < 1) = false := decide_eq_false (by omega)
        have r2' : ¬ (n : Int) < 1 := by omega
        by_cases hi0 : i = 0
        · have hl0 : lv = 0 := HKL.out.1 hi0
          subst hi0 hl0
          clear HLV3 HKL
          go_wp2_with fail
          go_big_quiet (fail)
          go_wp2_with fail
          go_meet
          exact ⟨rfl, Lib.hid ⟨_, World.drewN_drewN _ _ _⟩⟩
        · obtain ⟨j, hj⟩ : ∃ j, i = j + 1 := ⟨i - 1, by omega⟩
          obtain ⟨hj2, d4, hst, hlwb⟩ := HLV3.out j hj
          generalize l2[j].1.lv = lw at d4 hst hlwb
          have r3 : (0 : Int) < (i : Int) := by omega
          have r3n : 0 < i := by omega
          have r4 : decide ((n : Int) < (q : Int)) = false := decide_eq_false (by omega)
          have r4n : ¬ n < q := by omega
          have r4m : decide (n < q) = false := decide_eq_false r4n
          have r5 : ((i : Int) == 0) = false := beq_eq_false_iff_ne.2 (by omega)
          have hlv0 : ¬ lv = 0 := fun e => hi0 (HKL.out.2 e)
          have r6 : ((lv : Int) == 0) = false := beq_eq_false_iff_ne.2 (by omega)
          have r7 : (i : Int) - 1 = (j : Int) := by omega
          have r7w : IntKind.i64.wrap ((i : Int) - 1) = (j : Int) := by rw [IntKind.wrap_i64]; omega
          have r8 : decide ((lw : Int) + 1 < (lv : Int)) = false := decide_eq_false (by omega)
          have r8n : ¬ (lw : Int) + 1 < (lv : Int) := by omega
          have r9 : (j : Int) < (l2.length : Int) := by omega
          have HJ := Lib.hid hj
          clear hj HLV3 HKL
          go_wp2_with fail
          go_big_quiet (fail)
          go_wp2_with fail
          go_meet
          exact ⟨rfl, Lib.hid ⟨_, World.drewN_drewN _ _ _⟩⟩
      case rest =>
        obtain ⟨rfl, HW3⟩ := hcut
        obtain ⟨m3, rfl⟩ := HW3.out
        have hn64 : n ≤ 64 := by omega
        clear HLV3 HKL HW3 k1 k2 k3'
        obtain ⟨bq, hbq⟩ : ∃ bq, bq = (fl && decide (lf < 0)) := ⟨_, rfl⟩
        go_upto_region 14 with (fail)
        go_cut [96] from 26 to 163 (fun c wc => c = .bool bq ∧ Hid (∃ m', wc = w2.drewN m'))
        case first =>
          cases fl with
          | false =>
            have hb2 : bq = false := hbq
            subst hb2
            clear hbq
            go_wp2_with fail
            go_meet
            exact ⟨rfl, Lib.hid ⟨_, rfl⟩⟩
          | true =>
            have hb2 : bq = decide (lf < 0) := hbq
            subst hb2
            clear hbq
            go_wp2_with fail
            go_meet
            exact ⟨rfl, Lib.hid ⟨_, rfl⟩⟩
        case rest =>
          obtain ⟨rfl, HW4⟩ := hcut
          obtain ⟨m4, rfl⟩ := HW4.out
          clear HW4
          go_upto_if 96 with (fail)
          go_cut [9] from 26 to 163 (fun c wc => Hid (∃ m', wc = w2.drewN m') ∧ ∃ lg : Int, c = .int .i64 lg ∧ Hid (-1 ≤ lg ∧ lg ≤ 100000 ∧ fl = decide ((lv : Int) = lg) ∧ (lg = -1 ∨ lg = h)))
          case first =>
            have HG : Hid ((bq = true → fl = decide ((lv : Int) = (lv : Int)) ∧ ((lv : Int) = -1 ∨ (lv : Int) = h)) ∧ (bq = false → fl = decide ((lv : Int) = lf))) := Lib.hid (by
              have h1 := HKF.out
              have h2 := HLF.out
              refine ⟨fun e => ?_, fun e => ?_⟩
              · rw [e] at hbq
                have h3 : fl = true := by
                  cases fl with
                  | false => cases hbq
                  | true => rfl
                rw [h3] at h1 ⊢
                have h4 := of_decide_eq_true h1.symm
                exact ⟨by simp, .inr (by omega)⟩
              · rw [e] at hbq
                cases fl with
                | true =>
                  have h4 := of_decide_eq_true h1.symm
                  have h5 : decide (lf < 0) = false := hbq.symm
                  have h6 := of_decide_eq_false h5
                  exact (decide_eq_true (by omega)).symm
                | false =>
                  have h4 := of_decide_eq_false h1.symm
                  exact (decide_eq_false (by omega)).symm)
            have hlvi : lv ≤ 100000 := by omega
            clear hbq
            cases bq with
            | true =>
              have HG1 := Lib.hid (HG.out.1 rfl)
              clear HG
              go_wp2_with fail
              go_meet
              exact ⟨Lib.hid ⟨_, rfl⟩, _, rfl, Lib.hid ⟨by omega, by omega, by simpa using HG1.out.1, HG1.out.2⟩⟩
            | false =>
              have HG1 := Lib.hid (HG.out.2 rfl)
              clear HG
              go_wp2_with fail
              go_meet
              exact ⟨Lib.hid ⟨_, rfl⟩, _, rfl, Lib.hid ⟨by omega, by omega, HG1.out, HLF.out⟩⟩
          case rest =>
            obtain ⟨HW5, lg, rfl, HLG⟩ := hcut
            obtain ⟨m5, rfl⟩ := HW5.out
            clear HW5 hbq hlf1 hlf2 HLF
            go_upto_region 16 with (fail)
            go_cut [118] from 26 to 163 (fun c wc => c = .bool false ∧ Hid (∃ m', wc = w2.drewN m'))
            case first =>
              have h1 := HLG.out.2.2.1
              cases fl with
              | true =>
                have r1 : ((lv : Int) == lg) = true := beq_iff_eq.2 (of_decide_eq_true h1.symm)
                clear h1
                go_wp2_with fail
                go_big_quiet (fail)
                go_wp2_with fail
                go_meet
                exact ⟨rfl, Lib.hid ⟨_, World.drewN_drewN _ _ _⟩⟩
              | false =>
                have r1 : ((lv : Int) == lg) = false := beq_eq_false_iff_ne.2 (of_decide_eq_false h1.symm)
                clear h1
                go_wp2_with fail
                go_big_quiet (fail)
                go_wp2_with fail
                go_meet
                exact ⟨rfl, Lib.hid ⟨_, World.drewN_drewN _ _ _⟩⟩
            case rest =>
              obtain ⟨rfl, HW6⟩ := hcut
              obtain ⟨m6, rfl⟩ := HW6.out
              clear HW6
              go_wp2_with fail
              go_loopw [12] (fun t12 wr => ∃ k : Nat, k ≤ n ∧ t12 = .int .i64 k ∧ Hid (∃ mm, wr = w2.drewN mm)) (fun t12 _ => n - (intOf t12).toNat)
              case atStart => exact ⟨0, Nat.zero_le _, rfl, Lib.hid ⟨_, rfl⟩⟩
              case round =>
                obtain ⟨k, hk, rfl, HWK⟩ := hrel
                obtain ⟨mk, rfl⟩ := HWK.out
                by_cases hkn : k < n
                · have s1 : (k : Int) < (n : Int) := by omega
                  have hkk : k < KS.length := by have := HNE.out; omega
                  obtain ⟨g3, rfl, hkc⟩ := HHR.out.cells (by rw [BS.ksR, List.length_map]; omega)
                  have hce : ∀ j (hj : j < KS.length), w2.cell? ⟨g3, j, none⟩ = some (.string KS[j]) := fun j hj => hkc j _ (by rw [BS.ksR, List.getElem?_map, List.getElem?_eq_getElem hj]; rfl)
                  have c1 := hce k hkk
                  have HKE := Lib.hid (HKY.out KS[k] (List.getElem_mem hkk))
                  have HLT := Lib.hid (fun j (hj : k = j + 1) => (show ∃ hj2 : j < KS.length, w2.cell? ⟨g3, j, none⟩ = some (.string KS[j]) ∧ kS KS[j] KS[k] < 0 from ⟨by omega, hce j (by omega), List.pairwise_iff_getElem.1 HRI.out j k (by omega) hkk (by omega)⟩))
                  generalize KS[k] = key at c1 HKE HLT
                  have hgt := HGET.out mk key
                  unfold BS.GetP at hgt
                  rw [HKE.out] at hgt
                  have HGT := Lib.hid hgt
                  clear hkc hce hgt
                  generalize (getL BS.kct key L).getD 0 = got at HGT
                  go_wp2_with (go_at_call 19; refine HGT.out.mono ?_; rintro e w3 ⟨rfl, m7, rfl⟩)
                  clear HGT
                  go_cut [163] from 119 to 163 (fun c wc => c = .bool false ∧ Hid (∃ m', wc = w2.drewN m'))
                  case first =>
                    by_cases hk0 : k = 0
                    · subst hk0
                      go_big_quiet (fail)
                      go_wp2_with fail
                      go_meet
                      exact ⟨rfl, Lib.hid ⟨_, World.drewN_drewN _ _ _⟩⟩
                    · obtain ⟨j, hj⟩ : ∃ j, k = j + 1 := ⟨k - 1, by omega⟩
                      obtain ⟨hj2, c2, hlt⟩ := HLT.out j hj
                      generalize KS[j] = key2 at c2 hlt
                      have t1 : (0 : Int) < (k : Int) := by omega
                      have t1n : 0 < k := by omega
                      have t2 : (k : Int) - 1 = (j : Int) := by omega
                      have t2w : IntKind.i64.wrap ((k : Int) - 1) = (j : Int) := by rw [IntKind.wrap_i64]; omega
                      have t3 : (j : Int) < (n : Int) := by omega
                      have HJ := Lib.hid hj
                      have HCM := Lib.hid (fun W => cmpNames_any key2 key W)
                      generalize kS key2 key = cc at hlt HCM
                      have t4 : decide (0 ≤ cc) = false := decide_eq_false (by omega)
                      have t5 : ¬ 0 ≤ cc := by omega
                      clear hj hlt HLT HKE HRI HKY
                      go_big_quiet ((go_at_call 11; refine (HCM.out _).mono ?_; rintro _ _ ⟨h1, h2⟩; exact ⟨h1, _, h2⟩))
                      go_wp2_with fail
                      go_meet
                      exact ⟨rfl, Lib.hid ⟨_, rfl⟩⟩
                  case rest =>
                    obtain ⟨rfl, HW8⟩ := hcut
                    obtain ⟨m8, rfl⟩ := HW8.out
                    clear HW8
                    go_wp2_with fail
                    go_roundw
                    case measure => simp [intOf]; omega
                    case rel => exact ⟨k + 1, by omega, by simp, Lib.hid ⟨_, rfl⟩⟩
                · have s1 : decide ((k : Int) < (n : Int)) = false := decide_eq_false (by omega)
                  have s2 : ¬ (k : Int) < (n : Int) := by omega
                  go_wp2_with fail
                  go_roundw
                  case measure => simp [intOf]; omega
                  case rel => exact ⟨i + 1, s + n, lg, by omega, by have := HSU2.out; have := HLE.out; omega, HLG.out.1, HLG.out.2.1, by simp, rfl, by simp, Lib.hid HSU2.out.symm, Lib.hid HLG.out.2.2.2, Lib.hid ⟨_, rfl⟩⟩
    · have g1 : ¬ (i : Int) < (l2.length : Int) := by omega
      have e1 : i = l2.length := by omega
      have hsum : s = L.length := by
        rw [HSU.out, ← HS.out.tot, e1, List.take_of_length_le (by rw [List.length_map]; exact Nat.le_refl _)]
      have hhas := HS.out.has
      rw [List.length_map, ← hsum] at hhas
      have HLV := Lib.hid (BS.lives07 (w2.drewN mm))
      have HL2 := Lib.hid (HLC.out mm)
      rw [← hsum] at HL2
      clear hsum e1
      go_wp2_with (first | (go_at_call 20; refine HL2.out.mono ?_; rintro e w3 ⟨rfl, e3⟩; rw [e3]; clear e3 w3) | (go_at_call 15; refine HLV.out.mono ?_; rintro e w3 ⟨rfl, hb3⟩))
      go_ret
      exact ⟨rfl, (below_drewN HB2.out mm).trans (hb3.mono (by have := HB2.out.size; show w.heap.size ≤ w2.heap.size; exact this))⟩
end Go.Proofs.Ytfhonfeopkhdeaa
