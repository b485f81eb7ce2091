/-
  BtreeBetween: the walk. No premise.
-/
import Derived.Test.YtfhonfeopkhdeaaBtCh
namespace Go.Proofs.Ytfhonfeopkhdeaa
open Go.RowKit Go.Proofs.YtfhonfeopkhdeaaW.PrintWords

theorem sh_lv {m h : Nat} {L : List (BS.Ky × Int)} {N : List BS.Nt} (H : BS.ShOk m h L N) : ∀ (i : Nat) (hi : i < N.length), N[i].lv ≤ i
  | 0, hi => Nat.le_of_eq ((H.lv0 0 hi).1 rfl)
  | i + 1, hi => by
    have h1 := H.stp i hi
    have h2 := sh_lv H i (by omega)
    omega
set_option maxRecDepth 100000 in
set_option maxHeartbeats 8000000 in
theorem btreeBetween_walk (most : Int) (A : Option Addr) (cap : Nat) (l : List A7) (w : World) (hmo : (Lit.int .u64 most).wf = true) (hr : Acs7 w A l) :
    Calls Try.prog 4 #[.int .u64 most, .slice A l.length cap] w fun e w' => e = .returned (.bool true) ∧ Below w.heap.size w w' := by
  have hw := wf_u7 hmo
  obtain ⟨m, hm⟩ : ∃ m : Nat, (m : Int) = 3 + most % 62 := ⟨(3 + most % 62).toNat, by omega⟩
  have hm3 : 3 ≤ m ∧ m ≤ 64 := by omega
  have HPL := Lib.hid (BS.played_any m hm3 A cap l w hr)
  have htm : most.tmod 62 = most % 62 := Int.tmod_eq_emod_of_nonneg hw.1
  clear hmo hr
  go_enter Try.func4, Try.ntmps4
  go_wp2_with fail
  rw [← hm]
  refine HPL.out.mono ?_
  rintro e w1 ⟨p, o1, rfl, hn1, hu1⟩
  have hlen := BS.playL_len l 300
  have hbel := BS.UpB.bel hu1 (fun _ _ => rfl)
  generalize BS.playL (l.take 300) = L at hn1 hlen
  obtain ⟨h, t, M, b, ht⟩ := hn1
  have HB1 := Lib.hid hbel
  have hn2 : BS.NT w.heap.size w1 o1 p m L := ⟨h, t, M, b, ht⟩
  have HND := Lib.hid (BS.Nodes_any _ p m h t w1 o1 M b hm3 (by rw [ht]; omega))
  have hsh := BS.nodesT_ok hm3.1 b.tm.ok b.tm.ss
  have hbw := BS.between_ok hm3.1 b.tm.ok b.tm.ss
  have HBW0 := Lib.hid hbw
  clear hbw
  rw [ht] at hsh
  have HSH := Lib.hid hsh
  have HNT := Lib.hid hn2
  clear hu1 hbel b hn2 HPL hsh htm hw hm
  unfold BS.nv at *
  go_wp2_with fail
  refine HND.out.mono ?_
  rintro e w2 ⟨v2, l2, rfl, hN2, hm2, hB2⟩
  have hm2' : l2.map (·.1) = BS.nodesT h t := by rw [hm2]; rfl
  have hsh := HSH.out
  rw [← hm2'] at hsh
  have hbw := HBW0.out
  rw [← hm2'] at hbw
  have HBW := Lib.hid hbw
  clear hbw HBW0
  have hks := hN2.ks
  obtain ⟨A2, c2, rfl, -, hcell⟩ := hN2.cells
  have HCE := Lib.hid hcell
  have HKS := Lib.hid hks
  have HS := Lib.hid hsh
  have HB2 := Lib.hid (HB1.out.trans (hB2.mono HB1.out.size))
  have hl2 : l2.length ≤ 100000 := by
    have h1 := hsh.tot
    have h2 : ∀ N : List BS.Nt, (∀ i (hi : i < N.length), 1 ≤ N[i].ks.length) → N.length ≤ (N.map fun x => x.ks.length).sum := fun N => by
      induction N with
      | nil => intro _; exact Nat.le_refl _
      | cons a N ih =>
        intro h
        have h3 := h 0 (by simp)
        have h4 := ih (fun i hi => h (i + 1) (by simpa using hi))
        simp at h3 ⊢
        omega
    have h3 := h2 _ (fun i hi => (hsh.cnt i hi).1)
    rw [List.length_map] at h3
    omega
  have HCE2 := Lib.hid (show ∀ W, Below w2.heap.size w2 W → 0 < l2.length → ∃ g, A2 = some ⟨g, 0, none⟩ ∧ ∀ i (hi : i < l2.length), W.cell? ⟨g, i * 3, none⟩ = some (.int .i64 l2[i].1.lv) ∧ W.cell? ⟨g, i * 3 + 1, none⟩ = some (.bool l2[i].1.lf) ∧ W.cell? ⟨g, i * 3 + 2, none⟩ = some l2[i].2 from fun W hW h0 => by
    obtain ⟨g, e, -, -, h1⟩ := HCE.out h0
    refine ⟨g, e, fun i hi => ?_⟩
    obtain ⟨h2, h3, h4⟩ := h1 i hi
    have hh : ∀ {a : Addr} {v : Value}, w2.cell? a = some v → W.cell? a = some v := fun hc => (hW.cell (World.block_lt_of_cell? w2 _ hc)).trans hc
    exact ⟨hh h2, hh h3, hh h4⟩)
  have HKS2 := Lib.hid (show ∀ W, Below w2.heap.size w2 W → ∀ x ∈ l2, Rw W 9 x.2 (BS.ksR x.1.ks) from fun W hW x hx => (HKS.out x hx).1.keep fun g _ hl => hW.block g hl)
  clear hN2 hm2 hm2' hB2 hcell hks hsh HNT HSH HND HCE HKS
  unfold BS.nv at *
  go_wp2_with fail
  go_loopw [6] (fun t6 wr => ∃ i : Nat, i ≤ l2.length ∧ t6 = .int .i64 i ∧ Hid (Below w2.heap.size w2 wr)) (fun t6 _ => l2.length - (intOf t6).toNat)
  case atStart => exact ⟨0, Nat.zero_le _, rfl, Lib.hid (Below.refl _ _)⟩
  case round =>
    obtain ⟨i, hi, rfl, HW⟩ := hrel
    by_cases hc : i < l2.length
    · have g1 : (i : Int) < (l2.length : Int) := by omega
      obtain ⟨g, rfl, hcc⟩ := HCE2.out wr HW.out (by omega)
      have hN : i < (l2.map (·.1)).length := by rw [List.length_map]; exact hc
      have hNl : (l2.map (·.1)).length = l2.length := List.length_map _
      have hNi : (l2.map (·.1))[i] = l2[i].1 := List.getElem_map _
      have hch := children_any g c2 (l2.map (·.1)) i l2[i].1.lv hN (by rw [hNi]) (by rw [hNl]; exact hl2) (by have := sh_lv HS.out i hN; rw [hNi] at this; omega) wr (fun j hj => by rw [List.getElem_map]; exact (hcc j (by omega)).1)
      rw [hNl] at hch
      have hbw := HBW.out i hN
      rw [hNi] at hbw
      obtain ⟨C, hC⟩ : ∃ C, C = BS.chF l2[i].1.lv (i + 1) ((l2.map (·.1)).drop (i + 1)) := ⟨_, rfl⟩
      rw [← hC] at hch hbw
      have HCH := Lib.hid hch
      have HBI := Lib.hid hbw
      have k2 := (HS.out.cnt i hN).2.1
      have k1 := (HS.out.cnt i hN).1
      rw [hNi] at k1 k2
      clear hch hbw hcc hC hNi
      go_upto_region 6 with (go_at_call 18; refine HCH.out.mono ?_; rintro e w3 ⟨v3, rfl, ho3, hb3⟩)
      have hW3 : Below w2.heap.size w2 w3 := HW.out.trans (hb3.mono HW.out.size)
      have HRC := Lib.hid (Rw.of_own ho3)
      obtain ⟨A5, c5, e5, -⟩ := HRC.out.form
      subst e5
      have hcl : (chR C).length = C.length := List.length_map _
      have hcl0 := hcl
      rw [hcl] at HRC ⊢
      obtain ⟨g', e1, hcc⟩ := HCE2.out w3 hW3 (by omega)
      have hgg : g' = g := by cases e1; rfl
      subst hgg
      obtain ⟨d1, d2, d3⟩ := hcc i hc
      have hrw := HKS2.out w3 hW3 l2[i] (List.getElem_mem hc)
      obtain ⟨A3, c3, e3, -⟩ := hrw.form
      have hkl : (BS.ksR l2[i].1.ks).length = l2[i].1.ks.length := List.length_map _
      rw [hkl] at e3
      rw [e3] at hrw d3
      have hfl := HBI.out.leaf
      have hin := HBI.out.inner
      have HDJ := Lib.hid (show ∀ k (hk : k < C.length), ∃ j, C[k].1 = j ∧ j < l2.length ∧ C[k].2.ks.length ≤ 64 ∧ ∃ (A4 : Option Addr) (c4 : Nat), w3.cell? ⟨g', j * 3 + 2, none⟩ = some (.slice A4 C[k].2.ks.length c4) ∧ Rw w3 9 (.slice A4 C[k].2.ks.length c4) (BS.ksR C[k].2.ks) from fun k hk => by
        have h1 := HBI.out.fit k hk
        have h2 : C[k].1 < (l2.map (·.1)).length := by
          apply Decidable.byContradiction
          intro h3
          rw [List.getElem?_eq_none (by omega)] at h1
          cases h1
        have h3 : C[k].1 < l2.length := by rw [hNl] at h2; exact h2
        rw [List.getElem?_eq_getElem h2, List.getElem_map] at h1
        have h4 := Option.some.inj h1
        have hcnt := (HS.out.cnt _ h2).2.1
        rw [List.getElem_map, h4] at hcnt
        refine ⟨_, rfl, h3, by omega, ?_⟩
        have hr := HKS2.out w3 hW3 l2[C[k].1] (List.getElem_mem h3)
        obtain ⟨A4, c4, e4, -⟩ := hr.form
        rw [h4] at hr e4
        rw [show (BS.ksR C[k].2.ks).length = C[k].2.ks.length from List.length_map _] at e4
        have h5 := (hcc _ h3).2.2
        rw [e4] at h5 hr
        exact ⟨A4, c4, h5, hr⟩)
      have HHR := Lib.hid hrw
      have HW3 := Lib.hid hW3
      obtain ⟨KS, hKS⟩ : ∃ KS, KS = l2[i].1.ks := ⟨_, rfl⟩
      have HLO := Lib.hid (show ∀ k (hk : k < C.length) j (hj : j < KS.length), k = j + 1 → ∀ x ∈ C[k].2.ks, kS KS[j] x < 0 from by subst hKS; exact HBI.out.low)
      have HHI := Lib.hid (show ∀ k (hk : k < C.length) (hj : k < KS.length), ∀ x ∈ C[k].2.ks, kS x KS[k] < 0 from by subst hKS; exact HBI.out.high)
      have HSO := Lib.hid HBI.out.some
      rw [← hKS] at HHR d3 hin k1 k2
      obtain ⟨fl, hfle⟩ : ∃ fl, fl = l2[i].1.lf := ⟨_, rfl⟩
      rw [← hfle] at d2 hfl hin
      obtain ⟨n, hn⟩ : ∃ n, n = KS.length := ⟨_, rfl⟩
      obtain ⟨cl, hcl2⟩ : ∃ cl, cl = C.length := ⟨_, rfl⟩
      rw [← hcl2] at hfl hin HRC ⊢
      rw [← hn] at HHR d3 hin k1 k2
      have HNE := Lib.hid hn
      have HCL := Lib.hid hcl2
      have HIN := Lib.hid hin
      have HFL := Lib.hid hfl
      clear hn hcl2 hin hfl hrw hW3 hcc hcl e3 hkl hKS hfle HBI HCH hb3 ho3 d1 e1 HKS2 HCE2 HS HBW
      have hn64 : n ≤ 64 := by omega
      go_cut [55] from 17 to 120 (fun c wc => c = .bool false ∧ w3 = wc)
      case first =>
        cases fl with
        | true =>
          have z : cl = 0 := HFL.out rfl
          have z1 : decide ((0 : Int) < (cl : Int)) = false := decide_eq_false (by omega)
          have z2 : ¬ 0 < cl := by omega
          clear z HFL HIN HRC
          go_wp2_with fail
          go_meet
          exact ⟨rfl, rfl⟩
        | false =>
          have z := HIN.out rfl
          have z1 : ((cl : Int) == (n : Int) + 1) = true := beq_iff_eq.2 (by omega)
          have z2 : (cl : Int) = (n : Int) + 1 := by omega
          clear z HFL HIN HRC
          go_wp2_with fail
          go_meet
          exact ⟨rfl, rfl⟩
      case rest =>
        obtain ⟨rfl, rfl⟩ := hcut
        have hcle : 0 < cl → cl = n + 1 := fun h0 => by
          cases fl with
          | true => have := HFL.out rfl; omega
          | false => exact HIN.out rfl
        clear HFL HIN
        have HCLE := Lib.hid hcle
        clear hcle
        go_wp2_with fail
        go_loopw [8] (fun t8 wr2 => ∃ k : Nat, k ≤ cl ∧ t8 = .int .i64 k ∧ Hid (∃ m', wr2 = w3.drewN m')) (fun t8 _ => cl - (intOf t8).toNat)
        case atStart => exact ⟨0, Nat.zero_le _, rfl, Lib.hid ⟨0, rfl⟩⟩
        case round =>
          obtain ⟨k, hk, rfl, HWK⟩ := hrel
          obtain ⟨mk, rfl⟩ := HWK.out
          by_cases hkc : k < cl
          · have hkC : k < C.length := by rw [← HCL.out]; exact hkc
            have hcln := HCLE.out (by omega)
            have hkn1 : k ≤ n := by omega
            clear hcln
            have s1 : (k : Int) < (cl : Int) := by omega
            obtain ⟨j, hj, hjl, hx64, A4, c4, x2, HRX⟩ := HDJ.out k hkC
            obtain ⟨g5, rfl, h5⟩ := HRC.out.cells (by rw [hcl0]; omega)
            have x1 : w3.cell? ⟨g5, k, none⟩ = some (.int .i64 j) := h5 k _ (by rw [chR, List.getElem?_map, List.getElem?_eq_getElem hkC, ← hj]; rfl)
            have hs := HSO.out k hkC
            obtain ⟨g4, rfl, h4⟩ := HRX.cells (by rw [BS.ksR, List.length_map]; exact hs)
            have hx0 : w3.cell? ⟨g4, 0, none⟩ = some (.string (C[k].2.ks[0])) := h4 0 _ (by rw [BS.ksR, List.getElem?_map, List.getElem?_eq_getElem hs]; rfl)
            have hxl : w3.cell? ⟨g4, C[k].2.ks.length - 1, none⟩ = some (.string (C[k].2.ks[C[k].2.ks.length - 1]'(by omega))) := h4 _ _ (by rw [BS.ksR, List.getElem?_map, List.getElem?_eq_getElem (by omega)]; rfl)
            have hlo := fun a (ha : a < KS.length) e => HLO.out k hkC a ha e _ (List.getElem_mem hs)
            have hhi := fun (ha : k < KS.length) => HHI.out k hkC ha _ (List.getElem_mem (l := C[k].2.ks) (n := C[k].2.ks.length - 1) (by omega))
            generalize C[k].2.ks[0] = first at hx0 hlo
            generalize (C[k].2.ks[C[k].2.ks.length - 1]'(by omega)) = last at hxl hhi
            generalize C[k].2.ks.length = nx at *
            obtain ⟨nz, rfl⟩ : ∃ nz, nx = nz + 1 := ⟨nx - 1, by omega⟩
            rw [Nat.add_sub_cancel] at hxl
            have hjl2 : (j : Int) < (l2.length : Int) := by omega
            have u1 : (((nz + 1 : Nat) : Int) == 0) = false := beq_eq_false_iff_ne.2 (by omega)
            have u1b : ((nz : Int) + 1 == 0) = false := beq_eq_false_iff_ne.2 (by omega)
            have u2 : IntKind.i64.wrap (((nz + 1 : Nat) : Int) - 1) = (nz : Int) := by rw [IntKind.wrap_i64]; omega
            have u3 : ((nz + 1 : Nat) : Int) - 1 = (nz : Int) := by omega
            have u4 : (nz : Int) < ((nz + 1 : Nat) : Int) := by omega
            obtain ⟨g3, rfl, h3⟩ := HHR.out.cells (by rw [BS.ksR, List.length_map, ← HNE.out]; omega)
            have hKc : ∀ a (ha : a < KS.length), w3.cell? ⟨g3, a, none⟩ = some (.string KS[a]) := fun a ha => h3 a _ (by rw [BS.ksR, List.getElem?_map, List.getElem?_eq_getElem ha]; rfl)
            have HJ := Lib.hid hj
            clear h3 h4 h5 hj hs
            go_wp2_with fail
            go_cut [120] from 56 to 120 (fun c wc => c = .bool false ∧ Hid (∃ m', wc = w3.drewN m'))
            case first =>
              by_cases hk0 : k = 0
              · have hn0 : k < KS.length := by have := HNE.out; omega
                have e1 := hKc k hn0
                have l1 := hhi hn0
                generalize KS[k] = kb at e1 l1
                have w1 : decide ((0 : Int) < (k : Int)) = false := decide_eq_false (by omega)
                have w1n : ¬ 0 < k := by omega
                have w1m : decide (0 < k) = false := decide_eq_false w1n
                have HC2 := Lib.hid (fun W => cmpNames_any last kb W)
                generalize kS last kb = cc at l1 HC2
                have v1 : (k : Int) < (n : Int) := by omega
                have v1n : k < n := by omega
                have HK0 := Lib.hid hk0
                clear hk0
                have v2 : decide (0 ≤ cc) = false := decide_eq_false (by omega)
                have v3 : ¬ 0 ≤ cc := by omega
                clear hKc hlo hhi l1 HLO HHI HSO HDJ
                go_big_quiet ((go_at_call 11; first | (refine (HC2.out _).mono ?_; rintro _ _ ⟨h1, h2⟩; exact ⟨h1, _, h2⟩)))
                go_wp2_with fail
                go_meet
                first | exact ⟨rfl, Lib.hid ⟨_, rfl⟩⟩ | exact ⟨rfl, Lib.hid ⟨_, World.drewN_drewN _ _ _⟩⟩
              · obtain ⟨a, ha⟩ : ∃ a, k = a + 1 := ⟨k - 1, by omega⟩
                have ha1 : a < KS.length := by have := HNE.out; omega
                have e1 := hKc a ha1
                have l1 := hlo a ha1 ha
                generalize KS[a] = ka at e1 l1
                have HC1 := Lib.hid (fun W => cmpNames_any ka first W)
                have w1 : (0 : Int) < (k : Int) := by omega
                have w1n : 0 < k := by omega
                have w2 : (k : Int) - 1 = (a : Int) := by omega
                have w3' : IntKind.i64.wrap ((k : Int) - 1) = (a : Int) := by rw [IntKind.wrap_i64]; omega
                have w4 : (a : Int) < (n : Int) := by omega
                generalize kS ka first = cd at l1 HC1
                have v4 : decide (0 ≤ cd) = false := decide_eq_false (by omega)
                have v5 : ¬ 0 ≤ cd := by omega
                have HA := Lib.hid ha
                by_cases hkn : k < n
                · have hkn2 : k < KS.length := by have := HNE.out; omega
                  have e2 := hKc k hkn2
                  have l2' := hhi hkn2
                  generalize KS[k] = kb at e2 l2'
                  have HC2 := Lib.hid (fun W => cmpNames_any last kb W)
                  generalize kS last kb = cc at l2' HC2
                  have v1 : (k : Int) < (n : Int) := by omega
                  have v2 : decide (0 ≤ cc) = false := decide_eq_false (by omega)
                  have v3 : ¬ 0 ≤ cc := by omega
                  clear hKc hlo hhi l1 l2' ha HLO HHI HSO HDJ
                  go_big_quiet ((go_at_call 11; first | (refine (HC1.out _).mono ?_; rintro _ _ ⟨h1, h2⟩; exact ⟨h1, _, h2⟩) | (refine (HC2.out _).mono ?_; rintro _ _ ⟨h1, h2⟩; exact ⟨h1, _, h2⟩)))
                  go_wp2_with fail
                  go_meet
                  first | exact ⟨rfl, Lib.hid ⟨_, rfl⟩⟩ | exact ⟨rfl, Lib.hid ⟨_, World.drewN_drewN _ _ _⟩⟩
                · have v1 : decide ((k : Int) < (n : Int)) = false := decide_eq_false (by omega)
                  have v2 : decide (k < n) = false := decide_eq_false hkn
                  clear hKc hlo hhi l1 ha HLO HHI HSO HDJ
                  go_big_quiet ((go_at_call 11; first | (refine (HC1.out _).mono ?_; rintro _ _ ⟨h1, h2⟩; exact ⟨h1, _, h2⟩)))
                  go_wp2_with fail
                  go_meet
                  first | exact ⟨rfl, Lib.hid ⟨_, rfl⟩⟩ | exact ⟨rfl, Lib.hid ⟨_, World.drewN_drewN _ _ _⟩⟩
            case rest =>
              obtain ⟨rfl, HW8⟩ := hcut
              obtain ⟨m8, rfl⟩ := HW8.out
              clear HW8 hKc hlo hhi
              go_wp2_with fail
              go_roundw
              case measure => simp [intOf]; omega
              case rel => exact ⟨k + 1, by omega, by simp, Lib.hid ⟨_, rfl⟩⟩
          · have s1 : decide ((k : Int) < (cl : Int)) = false := decide_eq_false (by omega)
            have s2 : ¬ (k : Int) < (cl : Int) := by omega
            go_wp2_with fail
            go_roundw
            case measure => simp [intOf]; omega
            case rel => exact ⟨i + 1, by omega, by simp, Lib.hid (HW3.out.trans ⟨rfl, rfl, rfl, Nat.le_refl _, fun _ _ => rfl⟩)⟩
    · have g1 : decide ((i : Int) < (l2.length : Int)) = false := decide_eq_false (by omega)
      have g2 : ¬ (i : Int) < (l2.length : Int) := by omega
      have HLV := Lib.hid (BS.lives07 wr)
      go_wp2_with (go_at_call 15; refine HLV.out.mono ?_; rintro e w3 ⟨rfl, hb3⟩)
      go_ret
      have hs2 : w.heap.size ≤ w2.heap.size := HB2.out.size
      have hs3 := HW.out.size
      exact ⟨rfl, HB2.out.trans ((HW.out.mono hs2).trans (hb3.mono (by omega)))⟩
end Go.Proofs.Ytfhonfeopkhdeaa
