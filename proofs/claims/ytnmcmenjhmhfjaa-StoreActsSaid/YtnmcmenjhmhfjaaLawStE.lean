/-
  StoreReplays: the walk. No premise.
-/
import Derived.Test.YtnmcmenjhmhfjaaLawStD
import Derived.Test.YtnmcmenjhmhfjaaLawStB
import Derived.Test.YtnmcmenjhmhfjaaAcR
import Derived.Test.YtnmcmenjhmhfjaaRpP
namespace Go.Proofs.Ytnmcmenjhmhfjaa
open Go.RowKit Go.Shelf Go.Proofs.YtnmcmenjhmhfjaaW.PrintWords

/-- A field's cell. -/
theorem fld_cell {w : World} {a : Addr} {j k : Nat} {v : Value} (hk : k ≠ 0) (h : w.cell? (a.add (j + k)) = some v) : w.cell? ((a.add j).add k) = some v ∧ w.cell? ⟨(a.add j).block, (a.add j).off + k, none⟩ = some v := by
  have e : (a.add j).add k = a.add (j + k) := Go.Proofs.YtnmcmenjhmhfjaaW.PrintWords.add_add a j k
  have e2 : (⟨(a.add j).block, (a.add j).off + k, none⟩ : Addr) = (a.add j).add k := by simp [Addr.add, hk]
  rw [e2, e]
  exact ⟨h, h⟩
theorem rws_get {L : List Rw} {R : List (Int × List Int)} (h : rws L = R) (i : Nat) (hi : i < L.length) : ∃ hi' : i < R.length, R[i] = (L[i].pl, L[i].b) := by
  subst h
  exact ⟨by rw [rws_length]; exact hi, by simp [rws]⟩
theorem refLay_m (A : Option Addr) (m c : Nat) (b : List Int) (hm : m = b.length) (a : Nat) (X : Option Addr) (n cx : Nat) (x : List Int) (hn : n = x.length) (w : World) (hr : Rd w A b) (hx : Rd w X x) (ha : a ≤ b.length) (hb : b.length ≤ 100000000) (hxl : x.length ≤ 100000000) (hbx : Bts x) :
    Calls Try.prog 15 #[.slice A m c, .int .i64 a, .slice X n cx] w fun e w' => ∃ v, e = .returned v ∧ Own w' w.heap.size v (layL b a x) ∧ Below w.heap.size w w' := by
  subst hm hn
  exact refLay_any A c b a X cx x w hr hx ha hb hxl hbx
set_option maxRecDepth 100000 in
set_option maxHeartbeats 3200000 in
theorem storeReplays_walk (B : Option Addr) (cb : Nat) (b : List Int) (A : Option Addr) (ca : Nat) (l : List Ac) (w : World) (hrb : ReadsInt w .u8 B b.length b) (hwb : ∀ x ∈ b, (Lit.int .u8 x).wf = true) (hcb : b.length ≤ cb) (hyb : b.length * 1 ≤ 140737488351232) (hra : Acs w A l) :
    Calls Try.prog 3 #[.slice B b.length cb, .slice A l.length ca] w fun e w' => e = .returned (.bool true) ∧ Below w.heap.size w w' := by
  have HRB := Lib.hid (show Rd w B b from hrb)
  have HRA := Lib.hid hra
  have HBB := Lib.hid (wf_bts' hwb)
  have hll := hra.1
  clear hrb hwb hra
  by_cases hbig : 4194304 < b.length
  · have hof : ofB b (4194304 : Int) := by unfold ofB; omega
    go_enter Try.func3, Try.ntmps3
    go_wp2_with (first | (go_at_call 10; refine (of_bad B cb b _ w hof).mono ?_; rintro e w1 ⟨rfl, rfl⟩) | (go_at_call 11; refine (lives03 _).mono ?_; rintro e w1 ⟨rfl, hb1⟩))
    go_ret
    exact ⟨rfl, hb1⟩
  obtain ⟨F0, hF0⟩ : ∃ F0, F0 = mkF b (4194304 : Int) := ⟨_, rfl⟩
  have hofb : ¬ ofB b (4194304 : Int) := by unfold ofB; omega
  have hok : FOk F0 := by rw [hF0]; exact mkF_ok HBB.out hofb
  have hrp : Rp b F0.raws F0.b := by rw [hF0]; exact Rp.nil b
  have hrl : F0.raws.length = 0 := by rw [hF0]; rfl
  have HF0 := Lib.hid hF0
  have HOK := Lib.hid hok
  have HRP := Lib.hid hrp
  have HRL := Lib.hid hrl
  have HOF := Lib.hid hofb
  have HFR0 := Lib.hid (show Fr (fun _ => 0) w from fun _ _ => rfl)
  clear hF0 hok hrp hrl hofb
  go_enter Try.func3, Try.ntmps3
  go_wp2_with fail
  refine (of_any (fun _ => 0) 1 B cb b (4194304 : Int) w HFR0.out HRB.out HOF.out).mono ?_
  rintro e w1 ⟨p, o1, rfl, hf1, hu1, _, _⟩
  rw [← HF0.out] at hf1
  have HFI1 := Lib.hid hf1
  have HU1 := Lib.hid hu1
  clear hf1 hu1
  go_wp2_with fail
  go_loopw [6] (fun t wr => ∃ i : Nat, i ≤ l.length ∧ i ≤ 40 ∧ t = .int .i64 i ∧ ∃ (o : Nat → Nat) (F : FM), Hid (FileA wr o 1 p F) ∧ Hid (Upd (fun _ => 0) o 1 w wr) ∧ Hid (FOk F) ∧ Hid (Rp b F.raws F.b) ∧ Hid (F.raws.length ≤ i * 400)) (fun t _ => l.length - (intOf t).toNat)
  case atStart => exact ⟨0, Nat.zero_le _, by omega, rfl, o1, F0, HFI1.out, HU1.out, HOK.out, HRP.out, by have := HRL.out; show F0.raws.length ≤ _; omega⟩
  case round =>
    obtain ⟨i, hi, hi4, rfl, o, F, HFI, HU, HFOK, HFRP, HFRL⟩ := hrel
    by_cases hgo : i < l.length ∧ i < 40
    · obtain ⟨hlt, hlt4⟩ := hgo
      have HB := Lib.hid (HU.out.below (by decide) (Nat.le_refl _) (fun _ _ => rfl))
      have HAC := Lib.hid (HRA.out.below HB.out)
      obtain ⟨ad, rfl, hc⟩ := HAC.out.2.2 (by omega)
      obtain ⟨hc0, hc1, hc2, hc3⟩ := hc i hlt
      obtain ⟨r, hr⟩ : ∃ r, r = l[i] := ⟨_, rfl⟩
      have hrk0 := HRA.out.2.1 r (by rw [hr]; exact List.getElem_mem hlt)
      have hrk := hrk0.below HB.out
      rw [← hr] at hc0 hc1 hc2 hc3
      have hr2 := hr
      clear hr hc
      obtain ⟨kd, pl, n, RA, x, rc⟩ := r
      simp only at hc0 hc1 hc2 hc3
      obtain ⟨hd1, he1⟩ := fld_cell (by decide) hc1
      obtain ⟨hd2, he2⟩ := fld_cell (by decide) hc2
      obtain ⟨hd3, he3⟩ := fld_cell (by decide) hc3
      have HRK0 := Lib.hid hrk0
      have hcs : ∀ W', Below w.heap.size w W' → W'.cell? ⟨(ad.add (i * 4)).block, (ad.add (i * 4)).off + 1, none⟩ = some (.int .i64 pl) ∧ W'.cell? ⟨(ad.add (i * 4)).block, (ad.add (i * 4)).off + 3, none⟩ = some (.slice RA x.length rc) := fun W' hb' => by
        obtain ⟨ad2, e2, hc2⟩ := (HRA.out.below hb').2.2 (by omega)
        injection e2 with e2
        subst e2
        obtain ⟨_, k1, _, k3⟩ := hc2 i hlt
        rw [← hr2] at k1 k3
        exact ⟨(fld_cell (by decide) k1).2, (fld_cell (by decide) k3).2⟩
      have HCS := Lib.hid hcs
      clear hcs hr2
      have hxl := hrk.rd.2.1
      have hxc : x.length ≤ rc := hrk.cap
      have hpl : i64B pl := hrk.pl
      have hn : i64B n := hrk.n
      unfold i64B at hpl hn
      clear hrk hrk0
      by_cases hk2 : kd = 2
      · subst hk2
        have HCF := Lib.hid (HFRP.out.ctF n)
        have HCO := Lib.hid (HFOK.out.ctF n (by omega))
        have HCR := Lib.hid (show (ctF F n).raws.length ≤ i * 400 by rw [ctF_raws]; exact HFRL.out)
        go_wp2_with fail
        refine (cut_any o 1 (by decide) (by decide) p F n wr HFI.out HU.out.fr).mono ?_
        rintro e w2 ⟨rfl, hu2, hf2⟩
        have HFI2 := Lib.hid hf2
        have HU2 := Lib.hid (HU.out.trans hu2)
        clear hu2 hf2 hc0 hc1 hc2 hc3 hd1 he1 hd2 he2 hd3 he3
        go_wp2_with fail
        go_roundw
        case rel => exact ⟨i + 1, by omega, by omega, by go_num, o, ctF F n, HFI2.out, HU2.out, HCO.out, HCF.out, by have := HCR.out; show (ctF F n).raws.length ≤ _; omega⟩
        case measure => simp [intOf]; omega
      · have hk2b : (kd == 2) = false := by rw [beq_eq_false_iff_ne]; exact hk2
        by_cases hxs : x.length ≤ 5000
        · have HWR := Lib.hid (HFRP.out.wF HFOK.out pl x)
          have HWO := Lib.hid (HFOK.out.wF HRK0.out.bts pl)
          have HWL := Lib.hid (show (wF F pl x).raws.length ≤ i * 400 + 400 by
            have h1 := wF_raws F pl x
            have h2 : chN x.length 16 ≤ 400 := by unfold chN; omega
            have h3 := HFRL.out
            omega)
          have HRL2 := Lib.hid (show F.raws.length ≤ 900000000 by have := HFRL.out; omega)
          go_wp2_with fail
          obtain ⟨s1, s2⟩ := HCS.out wr.drew HB.out.drew
          have hb0 : Below w.heap.size w wr.drew := HB.out.drew
          have hb9 : Below wr.heap.size wr wr.drew := (Below.refl _ _).drew
          go_region_held3 (fun W' => W'.cell? ⟨(ad.add (i * 4)).block, (ad.add (i * 4)).off + 1, none⟩ = some (.int .i64 pl) ∧ W'.cell? ⟨(ad.add (i * 4)).block, (ad.add (i * 4)).off + 3, none⟩ = some (.slice RA x.length rc)) (first | exact HCS.out _ hb2 | exact HCS.out _ hb0)
            (first | (go_at_call 13; refine (write_any o 1 (by decide) (by decide) p F pl RA rc x _ (HFI.out.below hb9) (HU.out.below' hb9).fr HFOK.out (by omega) (by omega) (HRK0.out.rd.below hb0) (HU.out.arg (by decide) HRK0.out.rd) (by omega) hxc HRL2.out).mono ?_; rintro e w2 ⟨o2, rfl, hu2, hf2⟩; have HFI2 := Lib.hid hf2; have HU2 := Lib.hid ((HU.out.below' hb9).trans hu2); have hb2 := HU2.out.below (by decide) (Nat.le_refl _) (fun _ _ => rfl); clear hu2 hf2))
          clear hc0 hc1 hc2 hc3 hd1 he1 hd2 he2 hd3 he3
          all_goals
            go_wp2_with fail
            go_roundw
            case rel => exact ⟨i + 1, by omega, by omega, by go_num, o2, wF F pl x, HFI2.out, HU2.out, HWO.out, HWR.out, by have := HWL.out; show (wF F pl x).raws.length ≤ _; omega⟩
            case measure => simp [intOf]; omega
        · go_wp2_with fail
          clear hc0 hc1 hc2 hc3 hd1 he1 hd2 he2 hd3 he3
          go_roundw
          case rel => exact ⟨i + 1, by omega, by omega, by go_num, o, F, HFI.out, HU.out, HFOK.out, HFRP.out, by have := HFRL.out; show F.raws.length ≤ _; omega⟩
          case measure => simp [intOf]; omega
    · have HB := Lib.hid (HU.out.below (by decide) (Nat.le_refl _) (fun _ _ => rfl))
      have HOE := Lib.hid (own_empty wr wr.heap.size (Nat.le_refl _))
      have HBA := Lib.hid ((Below.refl wr.heap.size wr).alloc (Nat.le_refl _) (.cells #[] 5))
      have HEA := Lib.hid (show ∀ r ∈ F.raws, r.2.length ≤ 1000000000 from fun r hr => by
        obtain ⟨j, hj, rfl⟩ := List.getElem_of_mem hr
        have := HFRP.out.each j hj
        omega)
      have HLF := Lib.hid (show F.b.length ≤ 4194304 by have h1 := HFOK.out.len; have h2 := HFOK.out.most; omega)
      have HRN := Lib.hid (show F.raws.length ≤ 16000 by have := HFRL.out; omega)
      by_cases hlt : i < l.length
      have h40 : ¬ i < 40 := fun h => hgo ⟨hlt, h⟩
      all_goals
        clear hgo
        go_wp2_with (first | ((with_reducible refine gate_builtin (b := .append) (xs := #[.tmp 64, .tmp 65]) rfl ?_); refine app wr.heap.size rfl _ _ rfl (.slice (some ⟨wr.heap.size, 0, none⟩) 0 0) [] b B cb rfl rfl HOE.out ((HRB.out.below HB.out).below HBA.out) (by simp) (by simp; omega) ?_; intro v1 w2 h1 h2; rw [List.nil_append] at h1; have HB2 := Lib.hid (HBA.out.grown h2 (by simp) (by simp [Value.ownBlock])); obtain ⟨A1, m1, c1, rfl, HM1, h1'⟩ := own_splitM h1; have H1 := Lib.hid h1'; clear h1 h1' h2))
        refine (raws_any o 1 p F w2 (HFI.out.below HB2.out) (by have := HRN.out; omega) HEA.out).mono ?_
        rintro e w3 ⟨vl, L, rfl, hl3, hrs3, hb3⟩
        obtain ⟨Al, cl, rfl, hrow3⟩ := row_split hl3.own
        obtain ⟨nl, hnl⟩ : ∃ nl, nl = L.length := ⟨_, rfl⟩
        have hnl2 : nl = F.raws.length := by rw [hnl, ← hrs3, rws_length]
        have hnl3 : nl ≤ 16000 := by have := HRN.out; omega
        rw [← hnl] at hrow3 ⊢
        have HROW := Lib.hid hrow3
        have HL3 := Lib.hid hl3
        have HNL := Lib.hid hnl
        have HNL2 := Lib.hid hnl2
        have HRS := Lib.hid hrs3
        have HB3 := Lib.hid (HB2.out.trans (hb3.mono HB2.out.size))
        have HO3 := Lib.hid (own_step H1.out hb3)
        have hm1 : m1 ≤ 4194304 := by have := HM1.out; omega
        have hs2 := HB2.out.size
        have hs3 := hb3.size
        clear hl3 hb3 hrow3 hnl hnl2 hrs3
        go_wp2_with fail
        go_loopw [7, 9] (fun t7 t9 ws => ∃ (j : Nat) (Ai : Option Addr) (mi ci : Nat), j ≤ nl ∧ t9 = .int .i64 j ∧ t7 = .slice Ai mi ci ∧ mi ≤ 4194304 ∧ Hid (mi = (rep b (F.raws.take j)).length) ∧ Hid (Own ws wr.heap.size (.slice Ai mi ci) (rep b (F.raws.take j))) ∧ Hid (Below w3.heap.size w3 ws)) (fun _ t9 _ => nl - (intOf t9).toNat)
        case atStart => exact ⟨0, A1, m1, c1, Nat.zero_le _, rfl, rfl, hm1, HM1.out, HO3.out, Below.refl _ _⟩
        case round =>
          obtain ⟨j, Ai, mi, ci, hj, rfl, rfl, hmi, HMI, HOI, HBW⟩ := hrel
          by_cases hltj : j < nl
          · have hlj : j < L.length := by have := HNL.out; omega
            obtain ⟨gr, cpr, er, _, _⟩ : ∃ g cap, Value.slice Al nl cl = .slice (some ⟨g, 0, none⟩) nl cap ∧ w2.heap.size ≤ g ∧ g < w3.heap.size := by
              rcases row_cases HROW.out with ⟨_, h2⟩ | h
              · omega
              · exact h
            injection er with er1 _ er3
            subst er1 er3
            obtain ⟨hi', hget⟩ := rws_get HRS.out j hlj
            have hea := HFRP.out.each j hi'
            have HSUC := Lib.hid (rep_succ b F.raws j hi')
            rw [hget] at hea HSUC
            obtain ⟨r, hr⟩ : ∃ r, r = L[j] := ⟨_, rfl⟩
            have hmem : r ∈ L := by rw [hr]; exact List.getElem_mem hlj
            rw [← hr] at hea HSUC
            have hcell : ∀ ws', Below w3.heap.size w3 ws' → ws'.cell? ⟨gr, j * 2, none⟩ = some (.int .i64 r.pl) ∧ ws'.cell? ⟨gr, j * 2 + 1, none⟩ = some (.slice r.A r.b.length r.c) := fun ws' hb' => by
              have := row_cells (L := L) (by rw [← HNL.out]; exact ownsRow_keep HROW.out (fun g _ hg => hb'.block g hg)) j hlj
              rw [← hr] at this
              exact this
            have HRD := Lib.hid (own_rdv (HL3.out.each r hmem)).1
            have HBT := Lib.hid (show Bts r.b from HFOK.out.rbts (r.pl, r.b) (by rw [hr, ← hget]; exact List.getElem_mem hi'))
            obtain ⟨rpl, rA, rc, rb⟩ := r
            simp only at hcell hea HSUC
            obtain ⟨e1, e2, e3, e4, e5⟩ := hea
            obtain ⟨k, rfl⟩ := Int.eq_ofNat_of_zero_le e3
            rw [← HMI.out] at e4
            rw [Int.toNat_natCast] at HSUC
            obtain ⟨nr, hnr⟩ : ∃ nr, nr = rb.length := ⟨_, rfl⟩
            rw [← hnr] at hcell e1 e2 e5
            have HNR := Lib.hid hnr
            have HCELL := Lib.hid hcell
            obtain ⟨s1, s2⟩ := hcell wr HBW.out
            clear hr hnr hget hmem hcell
            go_wp2_with fail
            obtain ⟨s3, s4⟩ := HCELL.out wr.drew HBW.out.drew
            have hb0 : Below w3.heap.size w3 wr.drew := HBW.out.drew
            go_region_held3 (fun W' => W'.cell? ⟨gr, j * 2, none⟩ = some (.int .i64 (k : Int)) ∧ W'.cell? ⟨gr, j * 2 + 1, none⟩ = some (.slice rA nr rc)) (first | exact HCELL.out _ hb5 | exact HCELL.out _ hb0)
              (first | (go_at_call 15; refine (refLay_m Ai mi ci (rep b (F.raws.take j)) HMI.out k rA nr rc rb HNR.out _ (own_rdv (own_step HOI.out (Below.refl _ _).drew)).1 (HRD.out.below hb0) (by have := HMI.out; omega) (by have := HMI.out; omega) (by have := HNR.out; omega) HBT.out).mono ?_; rintro e w5 ⟨v5, rfl, ho5, h5⟩; have hb5 : Below w3.heap.size w3 w5 := hb0.trans (h5.mono hb0.size); obtain ⟨A5, m5, c5, rfl, HM5, ho5'⟩ := own_splitM ho5; have HO5 := Lib.hid ho5'; clear ho5 ho5' h5))
            clear s1 s2 s3 s4
            all_goals
              have hm5 : m5 ≤ 4194304 := by
                have h1 := HM5.out
                rw [layL_length _ _ _ (by have := HMI.out; omega)] at h1
                have h2 := HMI.out
                have h3 := HNR.out
                omega
              rw [← HSUC.out] at HM5 HO5
              go_wp2_with fail
              go_roundw
              case rel => exact ⟨j + 1, A5, m5, c5, by omega, by go_num, rfl, hm5, HM5.out, own_weaken HO5.out (Nat.le_trans HB3.out.size HBW.out.size), hb5⟩
              case measure => simp [intOf]; omega
          · have hjn : j = nl := by omega
            subst hjn
            have hrep : rep b (F.raws.take j) = F.b := by rw [HNL2.out, List.take_length]; exact HFRP.out.eq
            rw [hrep] at HOI HMI
            have HBS := Lib.hid (HB3.out.trans (HBW.out.mono HB3.out.size))
            have hcv : ∀ W', Below wr.heap.size wr W' → (convert 22 9 (.slice Ai mi ci)).run Try.prog W' = .ok (.string (strOfNums F.b)) W' := fun W' h => own_str (own_step HOI.out h)
            clear hrep
            go_wp2_with fail
            have hb0 : Below wr.heap.size wr wr.drew := (Below.refl _ _).drew
            refine wp_region_held_drew (S := fun W' => Below wr.heap.size wr W') (by kernel_rfl) hb0 (fun hHeld => ?_)
            refine wpAnyH_take (i := 0) (oi := { dst := some 121, op := Op.move (Operand.tmp 7), type := 22, pos := "outright.go:33", after := #[], guard := none }) (v := ?_) rfl (by kernel_rfl) (by kernel_rfl) (by kernel_rfl) (fun _ _ _ h => h) (Or.inl ⟨by rfl, ?_⟩) (by assumption) ?_
            rotate_left
            · (intro wS hSw; (try dsimp only at hSw); go_simp; (try (with_reducible rfl)))
            try simp only [Act.put, List.setIfInBounds_toArray, List.set_cons_zero, List.set_cons_succ]
            refine wpAnyH_take (i := 1) (oi := { dst := some 122, op := Op.convert 22 9 (Operand.tmp 121), type := 9, pos := "outright.go:33", after := #[{ on := 0, ground := Ground.data }], guard := none }) (v := ?_) rfl (by kernel_rfl) (by kernel_rfl) (by kernel_rfl) (fun _ _ _ h => h) (Or.inl ⟨by rfl, ?_⟩) (by assumption) ?_
            rotate_left
            · (intro wS hSw; (try dsimp only at hSw); go_simp; (try (with_reducible rfl)))
            try simp only [Act.put, List.setIfInBounds_toArray, List.set_cons_zero, List.set_cons_succ]
            refine wpAnyH_take (i := 2) (oi := { dst := some 123, op := Op.move (Operand.tmp 5), type := 24, pos := "outright.go:33", after := #[], guard := none }) (v := ?_) rfl (by kernel_rfl) (by kernel_rfl) (by kernel_rfl) (fun _ _ _ h => h) (Or.inl ⟨by rfl, ?_⟩) (by assumption) ?_
            rotate_left
            · (intro wS hSw; (try dsimp only at hSw); go_simp; (try (with_reducible rfl)))
            try simp only [Act.put, List.setIfInBounds_toArray, List.set_cons_zero, List.set_cons_succ]
            refine wpAnyH_ready (rs := [3]) (by kernel_rfl) (by simp) ?_
            refine AllReadyH.cons (o := { dst := some 124, op := Op.call { callee := Callee.value (Operand.func 16), args := #[Operand.tmp 123], argTypes := #[24] }, type := 22, pos := "outright.go:33", after := #[{ on := 2, ground := Ground.data }], guard := none }) rfl (fun K hK => ?_) AllReadyH.nil
            go_simp
            refine (bytes_any o 1 p F _ (((HFI.out.below HB3.out).below HBW.out).below hb0) (by have := HLF.out; omega)).mono ?_
            rintro e w4 ⟨v4, rfl, ho4, hb4⟩
            have hb24 : Below wr.heap.size wr w4 := hb0.trans (hb4.mono hb0.size)
            refine hK.out _ _ ?_ (fun hHeld => ?_)
            · exact hb24
            refine wpAnyH_mono (S2 := fun W' => Below w4.heap.size w4 W') (fun W' h => hb24.trans (h.mono hb24.size)) _ _ _ _ ?_
            have hs4 : Below w4.heap.size w4 w4 := Below.refl _ _
            have hcv4 : ∀ W', Below w4.heap.size w4 W' → (convert 22 9 v4).run Try.prog W' = .ok (.string (strOfNums F.b)) W' := fun W' h => own_str (own_step ho4 h)
            clear hK K
            try simp only [Act.put, List.setIfInBounds_toArray, List.set_cons_zero, List.set_cons_succ]
            refine wpAnyH_take (i := 4) (oi := { dst := some 125, op := Op.convert 22 9 (Operand.tmp 124), type := 9, pos := "outright.go:33", after := #[{ on := 3, ground := Ground.data }], guard := none }) (v := ?_) rfl (by kernel_rfl) (by kernel_rfl) (by kernel_rfl) (fun _ _ _ h => h) (Or.inl ⟨by rfl, ?_⟩) (by assumption) ?_
            rotate_left
            · (intro wS hSw; (try dsimp only at hSw); go_simp; (try (with_reducible rfl)))
            try simp only [Act.put, List.setIfInBounds_toArray, List.set_cons_zero, List.set_cons_succ]
            refine wpAnyH_take (i := 5) (oi := { dst := some 126, op := Op.binOp BinOp.eql 9 (Operand.tmp 122) (Operand.tmp 125) 9, type := 4, pos := "outright.go:33", after := #[{ on := 1, ground := Ground.data }, { on := 4, ground := Ground.data }], guard := none }) (v := ?_) rfl (by kernel_rfl) (by kernel_rfl) (by kernel_rfl) (fun _ _ _ h => h) (Or.inl ⟨by rfl, ?_⟩) (by assumption) ?_
            rotate_left
            · (intro wS hSw; (try dsimp only at hSw); go_simp; (try (with_reducible rfl)))
            try simp only [Act.put, List.setIfInBounds_toArray, List.set_cons_zero, List.set_cons_succ]
            refine wpAnyH_take (i := 6) (oi := { dst := some 127, op := Op.move (Operand.tmp 126), type := 4, pos := "outright.go:33", after := #[{ on := 5, ground := Ground.data }, { on := 3, ground := Ground.chain }], guard := none }) (v := ?_) rfl (by kernel_rfl) (by kernel_rfl) (by kernel_rfl) (fun _ _ _ h => h) (Or.inl ⟨by rfl, ?_⟩) (by assumption) ?_
            rotate_left
            · (intro wS hSw; (try dsimp only at hSw); go_simp; (try (with_reducible rfl)))
            try simp only [Act.put, List.setIfInBounds_toArray, List.set_cons_zero, List.set_cons_succ]
            refine wpAnyH_ready (rs := [7]) (by kernel_rfl) (by simp) ?_
            refine AllReadyH.cons (o := { dst := some 128, op := Op.call { callee := Callee.value (Operand.func 11), args := #[], argTypes := #[] }, type := 4, pos := "outright.go:33", after := #[{ on := 6, ground := Ground.chain }, { on := 6, ground := Ground.guard }], guard := some (6, true) }) rfl (fun K hK => ?_) AllReadyH.nil
            go_simp
            refine (lives03 _).mono ?_
            rintro e w5 ⟨rfl, hb5⟩
            have hb23 : Below wr.heap.size wr w5 := hb24.trans (hb5.mono hb24.size)
            refine hK.out _ _ ?_ (fun hHeld => ?_)
            · exact hb5
            clear hK K
            try simp only [Act.put, List.setIfInBounds_toArray, List.set_cons_zero, List.set_cons_succ]
            refine wpAnyH_take (i := 8) (oi := { dst := some 129, op := Op.pick (Operand.tmp 127) (Operand.tmp 128) (Operand.const (Value.bool false)), type := 4, pos := "outright.go:33", after := #[{ on := 6, ground := Ground.data }, { on := 7, ground := Ground.data }], guard := none }) (v := ?_) rfl (by kernel_rfl) (by kernel_rfl) (by kernel_rfl) (fun _ _ _ h => h) (Or.inl ⟨by rfl, ?_⟩) (by assumption) ?_
            rotate_left
            · (intro wS hSw; (try dsimp only at hSw); go_simp; (try (with_reducible rfl)))
            try simp only [Act.put, List.setIfInBounds_toArray, List.set_cons_zero, List.set_cons_succ]
            refine wpAnyH_take (i := 9) (oi := { dst := some 4, op := Op.assign (Operand.tmp 129), type := 4, pos := "outright.go:33", after := #[{ on := 8, ground := Ground.data }, { on := 7, ground := Ground.chain }, { on := 0, ground := Ground.phase }, { on := 1, ground := Ground.phase }, { on := 2, ground := Ground.phase }, { on := 3, ground := Ground.phase }, { on := 4, ground := Ground.phase }, { on := 5, ground := Ground.phase }, { on := 6, ground := Ground.phase }, { on := 7, ground := Ground.phase }, { on := 8, ground := Ground.phase }], guard := none }) (v := ?_) rfl (by kernel_rfl) (by kernel_rfl) (by kernel_rfl) (fun _ _ _ h => h) (Or.inl ⟨by rfl, ?_⟩) (by assumption) ?_
            rotate_left
            · (intro wS hSw; (try dsimp only at hSw); go_simp; (try (with_reducible rfl)))
            try simp only [Act.put, List.setIfInBounds_toArray, List.set_cons_zero, List.set_cons_succ]
            refine wpAnyH_done (by kernel_rfl) ?_ _
            go_wp2_with fail
            go_ret
            exact ⟨rfl, HB.out.trans ((HBS.out.trans (hb23.mono HBS.out.size)).mono HB.out.size)⟩
end Go.Proofs.Ytnmcmenjhmhfjaa
