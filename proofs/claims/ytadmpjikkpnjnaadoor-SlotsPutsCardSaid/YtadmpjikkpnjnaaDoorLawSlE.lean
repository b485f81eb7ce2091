/-
  SlotsPuts: the walk. No premise.
-/
import Derived.Test.YtadmpjikkpnjnaaDoorSl6
import Derived.Test.YtadmpjikkpnjnaaDoorSl7
import Derived.Test.YtadmpjikkpnjnaaDoorSR5
import Derived.Test.YtadmpjikkpnjnaaDoorLawSlD
import Derived.Deep.RegionHeld3
namespace Go.Proofs.YtadmpjikkpnjnaaDoor
open Go.RowKit Go.Shelf Go.Proofs.YtadmpjikkpnjnaaDoorW.PrintWords

theorem wpAnyH_mono {P : Program} {ops : Array Oper} {Q : Exit → Act → World → Prop} {md : Region.Mode} {S S2 : World → Prop} (hS : ∀ w, S2 w → S w) : ∀ (fuel : Nat) (listed : Array Bool) (a : Act) (w : World), wpAnyH P md ops Q S2 fuel listed a w → wpAnyH P md ops Q S fuel listed a w
  | 0, _, _, _, h => h
  | fuel + 1, _, _, _, h => ⟨h.1, fun i hi => wpOp_mono (fun a' w' h' => ⟨hS _ h'.1, wpAnyH_mono hS fuel _ a' w' h'.2⟩) (h.2 i hi)⟩
theorem spF_raws {F : FM} (h : FOk F) (r : Rt) (hb : ∀ x ∈ F.raws, x.2.length ≤ 1000000000) (hl : F.raws.length ≤ 800000000) : (spF F r).raws.length ≤ 900000000 ∧ ∀ x ∈ (spF F r).raws, x.2.length ≤ 1000000000 := by
  unfold Go.Proofs.YtadmpjikkpnjnaaDoor.spF
  split
  · have h1 := h.wF (spX_bts F.b.length r) (spA F.b.length r)
    have hx : (spX F.b.length r).length ≤ 64 := by
      have := byL_le r
      unfold spX
      rw [List.length_append, List.length_replicate]
      omega
    unfold Go.Proofs.YtadmpjikkpnjnaaDoor.wF
    split
    · exact ⟨by omega, hb⟩
    · split
      · exact ⟨by omega, hb⟩
      · split
        · exact ⟨by omega, hb⟩
        · have h2 := wrF_raws F (spA F.b.length r : Int).toNat (spX F.b.length r)
          have h3 : chN (spX F.b.length r).length 16 ≤ 5 := by unfold chN; omega
          refine ⟨by omega, ?_⟩
          intro y hy
          have hpc : ∀ (a : Nat) (x : List Int) (k : Nat), ∀ z ∈ pcs a x k, z.2.length ≤ 1000000000 := fun a x k z hz => by
            unfold pcs at hz
            obtain ⟨j, _, rfl⟩ := List.mem_map.1 hz
            show (pc x j).length ≤ _
            unfold pc
            rw [List.length_take]
            omega
          unfold wrF at hy
          split at hy
          · rcases List.mem_append.1 (show y ∈ F.raws ++ pcs _ _ _ from hy) with h | h
            · exact hb y h
            · exact hpc _ _ _ y h
          · rcases List.mem_append.1 (show y ∈ F.raws ++ pcs _ _ _ from hy) with h | h
            · exact hb y h
            · exact hpc _ _ _ y h
  · exact ⟨by omega, hb⟩
set_option maxRecDepth 100000 in
set_option maxHeartbeats 3200000 in
theorem slotsPuts_walk (B : Option Addr) (c : Nat) (b : List Int) (most : Int) (r : Rt) (w : World) (hT : TabAt w) (hr : ReadsInt w .u8 B b.length b) (hw : ∀ x ∈ b, (Lit.int .u8 x).wf = true) (hc : b.length ≤ c) (_hy : b.length * 1 ≤ 140737488351232) (hwm : (Lit.int .i64 most).wf = true) (hk : RtK r) :
    Calls Tryd.prog 7 #[.slice B b.length c, .int .i64 most, r.v] w fun e w' => e = .returned (.bool true) ∧ Below w.heap.size w w' := by
  have HT := Lib.hid hT
  have HRB := Lib.hid (show Rd w B b from hr)
  have HBB := Lib.hid (wf_bts' hw)
  have HG := Lib.hid hk.g
  have HRV := Lib.hid (show r.v = .agg #[.int .u64 r.g, .int .i64 r.pl, .int .i64 r.sz] from rfl)
  have hrv : r.v = .agg #[.int .u64 r.g, .int .i64 r.pl, .int .i64 r.sz] := rfl
  rw [hrv]
  obtain ⟨hm1, hm2⟩ := wf_i64' hwm
  clear hT hr hw hk hwm hrv
  have HX0 := Lib.hid (heap_alloc_new w (.cells #[.int .u64 r.g, .int .i64 r.pl, .int .i64 r.sz] 24))
  have HB0 := Lib.hid ((Below.refl w.heap.size w).alloc (Nat.le_refl _) (.cells #[.int .u64 r.g, .int .i64 r.pl, .int .i64 r.sz] 24))
  by_cases hbig : 1000 < b.length
  · go_enter Tryd.func7, Tryd.ntmps7
    go_wp2_with (go_at_call 12; refine (lives04 _ (HT.out.below HB0.out (Nat.le_refl _))).mono ?_; rintro e w1 ⟨rfl, hb1⟩)
    go_ret
    exact ⟨rfl, HB0.out.trans (hb1.mono HB0.out.size)⟩
  by_cases hbig2 : 1000 < most
  · go_enter Tryd.func7, Tryd.ntmps7
    go_wp2_with (go_at_call 12; refine (lives04 _ (HT.out.below HB0.out (Nat.le_refl _))).mono ?_; rintro e w1 ⟨rfl, hb1⟩)
    go_ret
    exact ⟨rfl, HB0.out.trans (hb1.mono HB0.out.size)⟩
  by_cases hof : ofB b most
  · have HOF := Lib.hid hof
    clear hof
    go_enter Tryd.func7, Tryd.ntmps7
    go_wp2_with fail
    refine (of_bad B c b most _ HOF.out).mono ?_
    rintro e w1 ⟨rfl, rfl⟩
    go_wp2_with fail
    refine (refOf_bad B c b most _ HOF.out).mono ?_
    rintro e w1 ⟨rfl, rfl⟩
    go_wp2_with fail
    rw [← HRV.out]
    refine (slPut_nil r _).mono ?_
    rintro e w1 ⟨rfl, hb1⟩
    have HB1 := Lib.hid (HB0.out.trans (hb1.mono HB0.out.size))
    clear hb1
    go_wp2_with (go_at_call 12; refine (lives04 _ (HT.out.below HB1.out (Nat.le_refl _))).mono ?_; rintro e w2 ⟨rfl, hb2⟩; have HB2 := Lib.hid (HB1.out.trans (hb2.mono HB1.out.size)); clear hb2)
    go_ret
    exact ⟨rfl, HB2.out⟩
  obtain ⟨F0, hF0⟩ : ∃ F0, F0 = mkF b most := ⟨_, rfl⟩
  have hk0 : FOk F0 := by rw [hF0]; exact mkF_ok HBB.out hof
  have e0 : F0.b = b := by rw [hF0]; rfl
  have e1 : F0.raws = [] := by rw [hF0]; rfl
  have HF0 := Lib.hid hF0
  have HK0 := Lib.hid hk0
  have HE0 := Lib.hid e0
  have HE1 := Lib.hid (show F0.raws.length ≤ 900000000 by rw [e1]; simp)
  have HSR := Lib.hid (spF_raws hk0 r (by rw [e1]; simp) (by rw [e1]; simp))
  have HK1 := Lib.hid (hk0.spF r)
  have HOF := Lib.hid hof
  have HFR0 := Lib.hid (show Fr (fun _ => 0) (w.alloc (.cells #[.int .u64 r.g, .int .i64 r.pl, .int .i64 r.sz] 24)) from fun _ _ => rfl)
  have hbl : b.length ≤ 1000 := by omega
  clear hF0 hk0 e0 e1 hof hbig
  go_enter Tryd.func7, Tryd.ntmps7
  go_wp2_with fail
  have HRB0 := Lib.hid (HRB.out.below HB0.out)
  generalize w.alloc (.cells #[.int .u64 r.g, .int .i64 r.pl, .int .i64 r.sz] 24) = w0 at HX0 HB0 HFR0 HRB0 ⊢
  refine (of_any (fun _ => 0) 1 B c b most w0 HFR0.out HRB0.out HOF.out).mono ?_
  rintro e w1 ⟨p, o1, rfl, hf1, hu1, hb1, _⟩
  rw [← HF0.out] at hf1
  have HFI1 := Lib.hid hf1
  have HU1 := Lib.hid hu1
  have HX1 := Lib.hid ((hb1.block _ (Array.getElem?_eq_some_iff.1 HX0.out).1).trans HX0.out)
  have HRB1 := Lib.hid (HRB0.out.below hb1)
  have HB1 := Lib.hid (HB0.out.trans (hb1.mono HB0.out.size))
  clear hf1 hu1 hb1
  go_wp2_with fail
  refine (refOf_any o1 2 B c b most w1 HU1.out.fr HRB1.out HOF.out).mono ?_
  rintro e w2 ⟨q, o2, rfl, hr2, hu2, hb2, _⟩
  rw [← HF0.out] at hr2
  have HFI2 := Lib.hid (HFI1.out.upd hu2 (by decide) (by decide))
  have HRI2 := Lib.hid hr2
  have HX2 := Lib.hid ((hb2.block _ (Array.getElem?_eq_some_iff.1 HX1.out).1).trans HX1.out)
  have HB2 := Lib.hid (HB1.out.trans (hb2.mono HB1.out.size))
  have HFR2 := Lib.hid hu2.fr
  have HLO2 := Lib.hid (show ∀ k, k < w.heap.size → o2 k = 0 from fun k hk => by
    have h1 : k < w0.heap.size := Nat.lt_of_lt_of_le hk HB0.out.size
    have h2 : k < w1.heap.size := Nat.lt_of_lt_of_le h1 HU1.out.size
    rw [hu2.old k h2, HU1.out.old k h1])
  have HOX := Lib.hid (show o2 w.heap.size = 0 by
    have h1 : w.heap.size < w0.heap.size := (Array.getElem?_eq_some_iff.1 HX0.out).1
    have h2 : w.heap.size < w1.heap.size := Nat.lt_of_lt_of_le h1 HU1.out.size
    rw [hu2.old _ h2, HU1.out.old _ h1])
  obtain ⟨⟨x0, x1, x2⟩, _⟩ := rt_cells HX2.out
  clear hr2 hu2 hb2
  go_wp2_with fail
  rw [← HRV.out]
  have HOB2 := Lib.hid HLO2.out
  refine (plain_any r w2).mono ?_
  rintro e w3 ⟨rfl, hb3⟩
  have HFI3 := Lib.hid (HFI2.out.below hb3)
  have HRI3 := Lib.hid (HRI2.out.below hb3)
  have HX3 := Lib.hid ((hb3.block _ (Array.getElem?_eq_some_iff.1 HX2.out).1).trans HX2.out)
  have HB3 := Lib.hid (HB2.out.trans (hb3.mono HB2.out.size))
  have HFR3 := Lib.hid (HFR2.out.mono hb3.size)
  clear hb3 x0 x1 x2
  go_wp2_with fail
  refine (refPlace_any b.length r w3 (by omega) HG.out).mono ?_
  rintro e w4 ⟨v4, rfl, ho4, hb4⟩
  have HFI4 := Lib.hid (HFI3.out.below hb4)
  have HRI4 := Lib.hid (HRI3.out.below hb4)
  have HX4 := Lib.hid ((hb4.block _ (Array.getElem?_eq_some_iff.1 HX3.out).1).trans HX3.out)
  have HB4 := Lib.hid (HB3.out.trans (hb4.mono HB3.out.size))
  have HFR4 := Lib.hid (HFR3.out.mono hb4.size)
  clear hb4
  by_cases hok : rtOk r
  · have HOK := Lib.hid hok
    have hsl : (spX b.length r).length ≤ 64 := spX_le _ HG.out
    have hsa : (spA b.length r : Int) ≤ 32 := by
      have : (r.g % 2).toNat ≤ 1 := by omega
      unfold spA; omega
    rw [if_pos hok] at ho4
    rw [if_pos hok, show byE r = 0 from by unfold byE; rw [if_pos hok]]
    have hpe : spE F0 r = wE F0 (spA b.length r) (spX b.length r) := by unfold spE; rw [if_pos hok, HE0.out]
    have hpf : spF F0 r = wF F0 (spA b.length r) (spX b.length r) := by unfold spF; rw [if_pos hok, HE0.out]
    have HPE := Lib.hid hpe
    have HPF := Lib.hid hpf
    have HXB := Lib.hid (spX_bts b.length r)
    obtain ⟨a4, ha4⟩ : ∃ a4, a4 = (spA b.length r : Int) := ⟨_, rfl⟩
    obtain ⟨xs, hxs⟩ : ∃ xs, xs = spX b.length r := ⟨_, rfl⟩
    have ha0 : 0 ≤ a4 := by omega
    rw [← ha4] at HPE HPF hsa ⊢
    rw [← hxs] at HPE HPF HXB hsl ho4
    obtain ⟨A4, c4, rfl, ho4', hr4, hc4⟩ := own_split ho4
    have HO4 := Lib.hid ho4'
    have HR4 := Lib.hid hr4
    have HA4 := Lib.hid (fresh_row HFR3.out (show 2 ≠ 0 by decide) ho4')
    clear hok hpe hpf ho4 ho4' hr4 ha4 hxs
    go_wp2_with fail
    refine (refWrite_any o2 2 (by decide) (by decide) q F0 a4 A4 c4 xs w4 HRI4.out HFR4.out HK0.out (by omega) (by omega) HR4.out HA4.out (by omega) hc4 HXB.out HE1.out).mono ?_
    rintro e w5 ⟨o5, rfl, hu5, hr5⟩
    rw [← HPE.out]
    rw [← HPF.out] at hr5
    have HFI5 := Lib.hid (HFI4.out.upd hu5 (by decide) (by decide))
    have HRI5 := Lib.hid hr5
    have HX5 := Lib.hid (hu5.keep0 (by decide) (HOX.out) HX4.out)
    have HB5 := Lib.hid (HB4.out.trans (hu5.below (by decide) HB4.out.size HOB2.out))
    have HLO5 := Lib.hid (show ∀ k, k < w.heap.size → o5 k = 0 from fun k hk => (hu5.old k (Nat.lt_of_lt_of_le hk HB4.out.size)).trans (HOB2.out k hk))
    have HFR5 := Lib.hid hu5.fr
    obtain ⟨⟨x0, x1, x2⟩, _⟩ := rt_cells HX5.out
    clear hu5 hr5
    go_wp2_with fail
    rw [← HRV.out]
    refine (slPut_any o5 1 (by decide) (by decide) p F0 r w5 HFI5.out HFR5.out HK0.out HE1.out HG.out (HT.out.below HB5.out (Nat.le_refl _))).mono ?_
    rintro e w6 ⟨o6, rfl, hu6, hf6⟩
    have HFI6 := Lib.hid hf6
    have HRI6 := Lib.hid (HRI5.out.upd hu6 (by decide) (by decide))
    have HB6 := Lib.hid (HB5.out.trans (hu6.below (by decide) HB5.out.size HLO5.out))
    clear hu6 hf6 x0 x1 x2
    go_wp2_with fail
    obtain ⟨E, hE⟩ : ∃ E, E = spE F0 r := ⟨_, rfl⟩
    obtain ⟨R, hR⟩ : ∃ R, R = spF F0 r := ⟨_, rfl⟩
    try rw [← hE]
    rw [← hR] at HFI6 HRI6
    have HSR2 := HSR.out
    have HK2 := HK1.out
    rw [← hR] at HSR2 HK2
    have hRl : R.b.length ≤ 4200000 := by have := HK2.len; have := HK2.most; omega
    have HSR3 := Lib.hid HSR2
    have HRL := Lib.hid hRl
    obtain ⟨vb, vr, lf, L, hra⟩ := HRI6.out
    obtain ⟨Ab, cb, hvb, hob, _, _⟩ := own_split hra.ob
    obtain ⟨Ar, cr, hvr, _⟩ := row_split hra.rw.own
    obtain ⟨d0, _, _, _, _, d5⟩ := hra.cells
    have hln : L.length = R.raws.length := by rw [← hra.raws, rws_length]
    rw [hvb] at d0
    rw [hvr, hln] at d5
    have HOB := Lib.hid hob
    obtain ⟨nl, hnl⟩ : ∃ nl, nl = R.raws.length := ⟨_, rfl⟩
    obtain ⟨nb, hnb⟩ : ∃ nb, nb = R.b.length := ⟨_, rfl⟩
    rw [← hnl] at d5
    rw [← hnb] at d0
    have HNL := Lib.hid hnl
    have HNB := Lib.hid hnb
    have hq0 : ∀ W', Below w6.heap.size w6 W' → W'.cell? ⟨q, 0, none⟩ = some (.slice Ab nb cb) := fun W' h => pw_cell_below h d0
    have HQ5 := Lib.hid (show ∀ W', Below w6.heap.size w6 W' → W'.cell? ⟨q, 5, none⟩ = some (.slice Ar nl cr) from fun W' h => pw_cell_below h d5)
    obtain ⟨sb, hsb⟩ : ∃ sb, sb = strOfNums R.b := ⟨_, rfl⟩
    have hqc : ∀ W', Below w6.heap.size w6 W' → (convert 25 9 (.slice Ab nb cb)).run Tryd.prog W' = .ok (.string sb) W' := fun W' h => by
      rw [hsb, hnb]
      exact own_str (own_step HOB.out h)
    have hz1 : sb.size ≤ 9223372036854775807 := by rw [hsb, strOfNums_size]; omega
    have HSB := Lib.hid hsb
    clear hE hR HSR2 HK2 hRl hvb hob hvr d0 d5 hln hra hnl hnb hsb
    have hb0 : Below w6.heap.size w6 w6.drew := (Below.refl _ _).drew
    refine wp_region_held_drew (S := fun W' => Below w6.heap.size w6 W') (by kernel_rfl) hb0 (fun hHeld => ?_)
    refine wpAnyH_take (i := 0) (oi := { dst := some 54, op := Op.move (Operand.tmp 12), type := 26, pos := "law.go:77", after := #[], guard := none }) (v := ?_) rfl (by kernel_rfl) (by kernel_rfl) (by kernel_rfl) (fun _ _ _ h => h) (Or.inl ⟨by rfl, ?_⟩) (by assumption) ?_
    rotate_left
    · (intro wS hSw; (try dsimp only at hSw); go_simp; (try (with_reducible rfl)))
    try simp only [Act.put, List.setIfInBounds_toArray, List.set_cons_zero, List.set_cons_succ]
    refine wpAnyH_take (i := 1) (oi := { dst := some 55, op := Op.move (Operand.tmp 11), type := 3, pos := "law.go:77", after := #[], guard := none }) (v := ?_) rfl (by kernel_rfl) (by kernel_rfl) (by kernel_rfl) (fun _ _ _ h => h) (Or.inl ⟨by rfl, ?_⟩) (by assumption) ?_
    rotate_left
    · (intro wS hSw; (try dsimp only at hSw); go_simp; (try (with_reducible rfl)))
    try simp only [Act.put, List.setIfInBounds_toArray, List.set_cons_zero, List.set_cons_succ]
    refine wpAnyH_take (i := 2) (oi := { dst := some 56, op := Op.binOp BinOp.eql 3 (Operand.tmp 54) (Operand.tmp 55) 3, type := 4, pos := "law.go:77", after := #[{ on := 0, ground := Ground.data }, { on := 1, ground := Ground.data }], guard := none }) (v := ?_) rfl (by kernel_rfl) (by kernel_rfl) (by kernel_rfl) (fun _ _ _ h => h) (Or.inl ⟨by rfl, ?_⟩) (by assumption) ?_
    rotate_left
    · (intro wS hSw; (try dsimp only at hSw); go_simp; (try (with_reducible rfl)))
    try simp only [Act.put, List.setIfInBounds_toArray, List.set_cons_zero, List.set_cons_succ]
    refine wpAnyH_take (i := 3) (oi := { dst := some 57, op := Op.move (Operand.tmp 56), type := 4, pos := "law.go:77", after := #[{ on := 2, ground := Ground.data }], guard := none }) (v := ?_) rfl (by kernel_rfl) (by kernel_rfl) (by kernel_rfl) (fun _ _ _ h => h) (Or.inl ⟨by rfl, ?_⟩) (by assumption) ?_
    rotate_left
    · (intro wS hSw; (try dsimp only at hSw); go_simp; (try (with_reducible rfl)))
    try simp only [Act.put, List.setIfInBounds_toArray, List.set_cons_zero, List.set_cons_succ]
    refine wpAnyH_take (i := 4) (oi := { dst := some 58, op := Op.move (Operand.tmp 7), type := 42, pos := "law.go:77", after := #[{ on := 3, ground := Ground.guard }], guard := some (3, true) }) (v := ?_) rfl (by kernel_rfl) (by kernel_rfl) (by kernel_rfl) (fun _ _ _ h => h) (Or.inl ⟨by rfl, ?_⟩) (by assumption) ?_
    rotate_left
    · (intro wS hSw; (try dsimp only at hSw); go_simp; (try (with_reducible rfl)))
    try simp only [Act.put, List.setIfInBounds_toArray, List.set_cons_zero, List.set_cons_succ]
    refine wpAnyH_take (i := 7) (oi := { dst := some 61, op := Op.move (Operand.tmp 8), type := 50, pos := "law.go:77", after := #[{ on := 3, ground := Ground.guard }], guard := some (3, true) }) (v := ?_) rfl (by kernel_rfl) (by kernel_rfl) (by kernel_rfl) (fun _ _ _ h => h) (Or.inl ⟨by rfl, ?_⟩) (by assumption) ?_
    rotate_left
    · (intro wS hSw; (try dsimp only at hSw); go_simp; (try (with_reducible rfl)))
    try simp only [Act.put, List.setIfInBounds_toArray, List.set_cons_zero, List.set_cons_succ]
    refine wpAnyH_take (i := 8) (oi := { dst := some 62, op := Op.nilCheck (Operand.tmp 61), type := 0, pos := "law.go:77", after := #[{ on := 7, ground := Ground.data }, { on := 3, ground := Ground.guard }], guard := some (3, true) }) (v := ?_) rfl (by kernel_rfl) (by kernel_rfl) (by kernel_rfl) (fun _ _ _ h => h) (Or.inl ⟨by rfl, ?_⟩) (by assumption) ?_
    rotate_left
    · (intro wS hSw; (try dsimp only at hSw); go_simp; (try (with_reducible rfl)))
    try simp only [Act.put, List.setIfInBounds_toArray, List.set_cons_zero, List.set_cons_succ]
    refine wpAnyH_take (i := 9) (oi := { dst := some 63, op := Op.fieldAddr 59 (Operand.tmp 62) 0, type := 0, pos := "law.go:77", after := #[{ on := 8, ground := Ground.data }, { on := 3, ground := Ground.guard }], guard := some (3, true) }) (v := ?_) rfl (by kernel_rfl) (by kernel_rfl) (by kernel_rfl) (fun _ _ _ h => h) (Or.inl ⟨by rfl, ?_⟩) (by assumption) ?_
    rotate_left
    · (intro wS hSw; (try dsimp only at hSw); go_simp; (try (with_reducible rfl)))
    try simp only [Act.put, List.setIfInBounds_toArray, List.set_cons_zero, List.set_cons_succ]
    refine wpAnyH_take (i := 10) (oi := { dst := some 64, op := Op.load 25 (Operand.tmp 63), type := 25, pos := "law.go:77", after := #[{ on := 9, ground := Ground.data }, { on := 3, ground := Ground.guard }], guard := some (3, true) }) (v := ?_) rfl (by kernel_rfl) (by kernel_rfl) (by kernel_rfl) (fun _ _ _ h => h) (Or.inl ⟨by rfl, ?_⟩) (by assumption) ?_
    rotate_left
    · (intro wS hSw; (try dsimp only at hSw); go_simp; (try (with_reducible rfl)))
    try simp only [Act.put, List.setIfInBounds_toArray, List.set_cons_zero, List.set_cons_succ]
    refine wpAnyH_take (i := 11) (oi := { dst := some 65, op := Op.convert 25 9 (Operand.tmp 64), type := 9, pos := "law.go:77", after := #[{ on := 10, ground := Ground.data }, { on := 3, ground := Ground.guard }], guard := some (3, true) }) (v := ?_) rfl (by kernel_rfl) (by kernel_rfl) (by kernel_rfl) (fun _ _ _ h => h) (Or.inl ⟨by rfl, ?_⟩) (by assumption) ?_
    rotate_left
    · (intro wS hSw; (try dsimp only at hSw); go_simp; (try (with_reducible rfl)))
    try simp only [Act.put, List.setIfInBounds_toArray, List.set_cons_zero, List.set_cons_succ]
    refine wpAnyH_ready (rs := [5]) (by kernel_rfl) (by simp) ?_
    refine AllReadyH.cons (o := { dst := some 59, op := Op.call { callee := Callee.value (Operand.func 24), args := #[Operand.tmp 58], argTypes := #[42] }, type := 25, pos := "law.go:77", after := #[{ on := 4, ground := Ground.data }, { on := 3, ground := Ground.chain }, { on := 3, ground := Ground.guard }], guard := some (3, true) }) rfl (fun K hK => ?_) AllReadyH.nil
    go_simp
    refine (bytes_any o6 1 p R _ (HFI6.out.below hb0) HRL.out).mono ?_
    rintro e w7 ⟨v7, rfl, ho7, hb7⟩
    have hb67 : Below w6.heap.size w6 w7 := hb0.trans (hb7.mono hb0.size)
    refine hK.out _ _ ?_ (fun hHeld => ?_)
    · exact hb67
    refine wpAnyH_mono (S2 := fun W' => Below w7.heap.size w7 W') (fun W' h => hb67.trans (h.mono hb67.size)) _ _ _ _ ?_
    have hs7 : Below w7.heap.size w7 w7 := Below.refl _ _
    have hcv7 : ∀ W', Below w7.heap.size w7 W' → (convert 25 9 v7).run Tryd.prog W' = .ok (.string sb) W' := fun W' h => by
      rw [HSB.out]
      exact own_str (own_step ho7 h)
    have hq5 : ∀ W', Below w7.heap.size w7 W' → W'.cell? ⟨q, 5, none⟩ = some (.slice Ar nl cr) := fun W' h => HQ5.out W' (hb67.trans (h.mono hb67.size))
    clear hK K
    try simp only [Act.put, List.setIfInBounds_toArray, List.set_cons_zero, List.set_cons_succ]
    refine wpAnyH_take (i := 6) (oi := { dst := some 60, op := Op.convert 25 9 (Operand.tmp 59), type := 9, pos := "law.go:77", after := #[{ on := 5, ground := Ground.data }, { on := 3, ground := Ground.guard }], guard := some (3, true) }) (v := ?_) rfl (by kernel_rfl) (by kernel_rfl) (by kernel_rfl) (fun _ _ _ h => h) (Or.inl ⟨by rfl, ?_⟩) (by assumption) ?_
    rotate_left
    · (intro wS hSw; (try dsimp only at hSw); go_simp; (try (with_reducible rfl)))
    try simp only [Act.put, List.setIfInBounds_toArray, List.set_cons_zero, List.set_cons_succ]
    refine wpAnyH_take (i := 12) (oi := { dst := some 66, op := Op.binOp BinOp.eql 9 (Operand.tmp 60) (Operand.tmp 65) 9, type := 4, pos := "law.go:77", after := #[{ on := 6, ground := Ground.data }, { on := 11, ground := Ground.data }, { on := 3, ground := Ground.guard }], guard := some (3, true) }) (v := ?_) rfl (by kernel_rfl) (by kernel_rfl) (by kernel_rfl) (fun _ _ _ h => h) (Or.inl ⟨by rfl, ?_⟩) (by assumption) ?_
    rotate_left
    · (intro wS hSw; (try dsimp only at hSw); go_simp; (try (with_reducible rfl)))
    try simp only [Act.put, List.setIfInBounds_toArray, List.set_cons_zero, List.set_cons_succ]
    refine wpAnyH_take (i := 13) (oi := { dst := some 67, op := Op.pick (Operand.tmp 57) (Operand.tmp 66) (Operand.const (Value.bool false)), type := 4, pos := "law.go:77", after := #[{ on := 3, ground := Ground.data }, { on := 12, ground := Ground.data }], guard := none }) (v := ?_) rfl (by kernel_rfl) (by kernel_rfl) (by kernel_rfl) (fun _ _ _ h => h) (Or.inl ⟨by rfl, ?_⟩) (by assumption) ?_
    rotate_left
    · (intro wS hSw; (try dsimp only at hSw); go_simp; (try (with_reducible rfl)))
    try simp only [Act.put, List.setIfInBounds_toArray, List.set_cons_zero, List.set_cons_succ]
    refine wpAnyH_take (i := 14) (oi := { dst := some 68, op := Op.move (Operand.tmp 67), type := 4, pos := "law.go:77", after := #[{ on := 13, ground := Ground.data }, { on := 5, ground := Ground.chain }], guard := none }) (v := ?_) rfl (by kernel_rfl) (by kernel_rfl) (by kernel_rfl) (fun _ _ _ h => h) (Or.inl ⟨by rfl, ?_⟩) (by assumption) ?_
    rotate_left
    · (intro wS hSw; (try dsimp only at hSw); go_simp; (try (with_reducible rfl)))
    try simp only [Act.put, List.setIfInBounds_toArray, List.set_cons_zero, List.set_cons_succ]
    refine wpAnyH_take (i := 15) (oi := { dst := some 69, op := Op.move (Operand.tmp 7), type := 42, pos := "law.go:77", after := #[{ on := 14, ground := Ground.guard }], guard := some (14, true) }) (v := ?_) rfl (by kernel_rfl) (by kernel_rfl) (by kernel_rfl) (fun _ _ _ h => h) (Or.inl ⟨by rfl, ?_⟩) (by assumption) ?_
    rotate_left
    · (intro wS hSw; (try dsimp only at hSw); go_simp; (try (with_reducible rfl)))
    try simp only [Act.put, List.setIfInBounds_toArray, List.set_cons_zero, List.set_cons_succ]
    refine wpAnyH_take (i := 18) (oi := { dst := some 72, op := Op.move (Operand.tmp 8), type := 50, pos := "law.go:77", after := #[{ on := 14, ground := Ground.guard }], guard := some (14, true) }) (v := ?_) rfl (by kernel_rfl) (by kernel_rfl) (by kernel_rfl) (fun _ _ _ h => h) (Or.inl ⟨by rfl, ?_⟩) (by assumption) ?_
    rotate_left
    · (intro wS hSw; (try dsimp only at hSw); go_simp; (try (with_reducible rfl)))
    try simp only [Act.put, List.setIfInBounds_toArray, List.set_cons_zero, List.set_cons_succ]
    refine wpAnyH_take (i := 19) (oi := { dst := some 73, op := Op.nilCheck (Operand.tmp 72), type := 0, pos := "law.go:77", after := #[{ on := 18, ground := Ground.data }, { on := 14, ground := Ground.guard }], guard := some (14, true) }) (v := ?_) rfl (by kernel_rfl) (by kernel_rfl) (by kernel_rfl) (fun _ _ _ h => h) (Or.inl ⟨by rfl, ?_⟩) (by assumption) ?_
    rotate_left
    · (intro wS hSw; (try dsimp only at hSw); go_simp; (try (with_reducible rfl)))
    try simp only [Act.put, List.setIfInBounds_toArray, List.set_cons_zero, List.set_cons_succ]
    refine wpAnyH_take (i := 20) (oi := { dst := some 74, op := Op.fieldAddr 59 (Operand.tmp 73) 5, type := 0, pos := "law.go:77", after := #[{ on := 19, ground := Ground.data }, { on := 14, ground := Ground.guard }], guard := some (14, true) }) (v := ?_) rfl (by kernel_rfl) (by kernel_rfl) (by kernel_rfl) (fun _ _ _ h => h) (Or.inl ⟨by rfl, ?_⟩) (by assumption) ?_
    rotate_left
    · (intro wS hSw; (try dsimp only at hSw); go_simp; (try (with_reducible rfl)))
    try simp only [Act.put, List.setIfInBounds_toArray, List.set_cons_zero, List.set_cons_succ]
    refine wpAnyH_take (i := 21) (oi := { dst := some 75, op := Op.load 57 (Operand.tmp 74), type := 57, pos := "law.go:77", after := #[{ on := 20, ground := Ground.data }, { on := 14, ground := Ground.guard }], guard := some (14, true) }) (v := ?_) rfl (by kernel_rfl) (by kernel_rfl) (by kernel_rfl) (fun _ _ _ h => h) (Or.inl ⟨by rfl, ?_⟩) (by assumption) ?_
    rotate_left
    · (intro wS hSw; (try dsimp only at hSw); go_simp; (try (with_reducible rfl)))
    try simp only [Act.put, List.setIfInBounds_toArray, List.set_cons_zero, List.set_cons_succ]
    refine wpAnyH_take (i := 22) (oi := { dst := some 76, op := Op.call { callee := Callee.builtin Builtin.len, args := #[Operand.tmp 75], argTypes := #[57] }, type := 3, pos := "law.go:77", after := #[{ on := 21, ground := Ground.data }, { on := 14, ground := Ground.guard }], guard := some (14, true) }) (v := ?_) rfl (by kernel_rfl) (by kernel_rfl) (by kernel_rfl) (fun _ _ _ h => h) (Or.inl ⟨by rfl, ?_⟩) (by assumption) ?_
    rotate_left
    · (intro wS hSw; (try dsimp only at hSw); go_simp; (try (with_reducible rfl)))
    try simp only [Act.put, List.setIfInBounds_toArray, List.set_cons_zero, List.set_cons_succ]
    refine wpAnyH_ready (rs := [16]) (by kernel_rfl) (by simp) ?_
    refine AllReadyH.cons (o := { dst := some 70, op := Op.call { callee := Callee.value (Operand.func 25), args := #[Operand.tmp 69], argTypes := #[42] }, type := 60, pos := "law.go:77", after := #[{ on := 15, ground := Ground.data }, { on := 14, ground := Ground.chain }, { on := 14, ground := Ground.guard }], guard := some (14, true) }) rfl (fun K hK => ?_) AllReadyH.nil
    go_simp
    refine (raws_any o6 1 p R w7 (HFI6.out.below hb67) (by have := HSR3.out.1; omega) HSR3.out.2).mono ?_
    rintro e w8 ⟨v8, L8, rfl, hr8, hrs8, hb8⟩
    obtain ⟨A8, c8, rfl, _⟩ := row_split hr8.own
    have hl8 : L8.length = nl := by rw [HNL.out, ← hrs8, rws_length]
    rw [hl8]
    refine hK.out _ _ ?_ (fun hHeld => ?_)
    · exact hb8
    refine wpAnyH_mono (S2 := fun W' => Below w8.heap.size w8 W') (fun W' h => hb8.trans (h.mono hb8.size)) _ _ _ _ ?_
    have hs8 : Below w8.heap.size w8 w8 := Below.refl _ _
    have HB8 := Lib.hid (HB6.out.trans ((hb67.trans (hb8.mono hb67.size)).mono HB6.out.size))
    clear hr8 hrs8
    clear hK K
    try simp only [Act.put, List.setIfInBounds_toArray, List.set_cons_zero, List.set_cons_succ]
    refine wpAnyH_take (i := 17) (oi := { dst := some 71, op := Op.call { callee := Callee.builtin Builtin.len, args := #[Operand.tmp 70], argTypes := #[60] }, type := 3, pos := "law.go:77", after := #[{ on := 16, ground := Ground.data }, { on := 14, ground := Ground.guard }], guard := some (14, true) }) (v := ?_) rfl (by kernel_rfl) (by kernel_rfl) (by kernel_rfl) (fun _ _ _ h => h) (Or.inl ⟨by rfl, ?_⟩) (by assumption) ?_
    rotate_left
    · (intro wS hSw; (try dsimp only at hSw); go_simp; (try (with_reducible rfl)))
    try simp only [Act.put, List.setIfInBounds_toArray, List.set_cons_zero, List.set_cons_succ]
    refine wpAnyH_take (i := 23) (oi := { dst := some 77, op := Op.binOp BinOp.eql 3 (Operand.tmp 71) (Operand.tmp 76) 3, type := 4, pos := "law.go:77", after := #[{ on := 17, ground := Ground.data }, { on := 22, ground := Ground.data }, { on := 14, ground := Ground.guard }], guard := some (14, true) }) (v := ?_) rfl (by kernel_rfl) (by kernel_rfl) (by kernel_rfl) (fun _ _ _ h => h) (Or.inl ⟨by rfl, ?_⟩) (by assumption) ?_
    rotate_left
    · (intro wS hSw; (try dsimp only at hSw); go_simp; (try (with_reducible rfl)))
    try simp only [Act.put, List.setIfInBounds_toArray, List.set_cons_zero, List.set_cons_succ]
    refine wpAnyH_take (i := 24) (oi := { dst := some 78, op := Op.pick (Operand.tmp 68) (Operand.tmp 77) (Operand.const (Value.bool false)), type := 4, pos := "law.go:77", after := #[{ on := 14, ground := Ground.data }, { on := 23, ground := Ground.data }], guard := none }) (v := ?_) rfl (by kernel_rfl) (by kernel_rfl) (by kernel_rfl) (fun _ _ _ h => h) (Or.inl ⟨by rfl, ?_⟩) (by assumption) ?_
    rotate_left
    · (intro wS hSw; (try dsimp only at hSw); go_simp; (try (with_reducible rfl)))
    try simp only [Act.put, List.setIfInBounds_toArray, List.set_cons_zero, List.set_cons_succ]
    refine wpAnyH_take (i := 25) (oi := { dst := some 79, op := Op.move (Operand.tmp 78), type := 4, pos := "law.go:77", after := #[{ on := 24, ground := Ground.data }, { on := 16, ground := Ground.chain }], guard := none }) (v := ?_) rfl (by kernel_rfl) (by kernel_rfl) (by kernel_rfl) (fun _ _ _ h => h) (Or.inl ⟨by rfl, ?_⟩) (by assumption) ?_
    rotate_left
    · (intro wS hSw; (try dsimp only at hSw); go_simp; (try (with_reducible rfl)))
    try simp only [Act.put, List.setIfInBounds_toArray, List.set_cons_zero, List.set_cons_succ]
    refine wpAnyH_ready (rs := [26]) (by kernel_rfl) (by simp) ?_
    refine AllReadyH.cons (o := { dst := some 80, op := Op.call { callee := Callee.value (Operand.func 12), args := #[], argTypes := #[] }, type := 4, pos := "law.go:77", after := #[{ on := 25, ground := Ground.chain }, { on := 25, ground := Ground.guard }], guard := some (25, true) }) rfl (fun K hK => ?_) AllReadyH.nil
    go_simp
    refine (lives04 w8 (HT.out.below HB8.out (Nat.le_refl _))).mono ?_
    rintro e w9 ⟨rfl, hb9⟩
    refine hK.out _ _ ?_ (fun hHeld => ?_)
    · exact hb9
    clear hK K
    try simp only [Act.put, List.setIfInBounds_toArray, List.set_cons_zero, List.set_cons_succ]
    refine wpAnyH_take (i := 27) (oi := { dst := some 81, op := Op.pick (Operand.tmp 79) (Operand.tmp 80) (Operand.const (Value.bool false)), type := 4, pos := "law.go:77", after := #[{ on := 25, ground := Ground.data }, { on := 26, ground := Ground.data }], guard := none }) (v := ?_) rfl (by kernel_rfl) (by kernel_rfl) (by kernel_rfl) (fun _ _ _ h => h) (Or.inl ⟨by rfl, ?_⟩) (by assumption) ?_
    rotate_left
    · (intro wS hSw; (try dsimp only at hSw); go_simp; (try (with_reducible rfl)))
    try simp only [Act.put, List.setIfInBounds_toArray, List.set_cons_zero, List.set_cons_succ]
    refine wpAnyH_take (i := 28) (oi := { dst := some 6, op := Op.assign (Operand.tmp 81), type := 4, pos := "law.go:77", after := #[{ on := 27, ground := Ground.data }, { on := 26, ground := Ground.chain }, { on := 0, ground := Ground.phase }, { on := 1, ground := Ground.phase }, { on := 2, ground := Ground.phase }, { on := 3, ground := Ground.phase }, { on := 4, ground := Ground.phase }, { on := 5, ground := Ground.phase }, { on := 6, ground := Ground.phase }, { on := 7, ground := Ground.phase }, { on := 8, ground := Ground.phase }, { on := 9, ground := Ground.phase }, { on := 10, ground := Ground.phase }, { on := 11, ground := Ground.phase }, { on := 12, ground := Ground.phase }, { on := 13, ground := Ground.phase }, { on := 14, ground := Ground.phase }, { on := 15, ground := Ground.phase }, { on := 16, ground := Ground.phase }, { on := 17, ground := Ground.phase }, { on := 18, ground := Ground.phase }, { on := 19, ground := Ground.phase }, { on := 20, ground := Ground.phase }, { on := 21, ground := Ground.phase }, { on := 22, ground := Ground.phase }, { on := 23, ground := Ground.phase }, { on := 24, ground := Ground.phase }, { on := 25, ground := Ground.phase }, { on := 26, ground := Ground.phase }, { on := 27, ground := Ground.phase }], guard := none }) (v := ?_) rfl (by kernel_rfl) (by kernel_rfl) (by kernel_rfl) (fun _ _ _ h => h) (Or.inl ⟨by rfl, ?_⟩) (by assumption) ?_
    rotate_left
    · (intro wS hSw; (try dsimp only at hSw); go_simp; (try (with_reducible rfl)))
    try simp only [Act.put, List.setIfInBounds_toArray, List.set_cons_zero, List.set_cons_succ]
    refine wpAnyH_done (by kernel_rfl) ?_ _
    go_wp2_with fail
    go_ret
    exact ⟨rfl, HB8.out.trans (hb9.mono HB8.out.size)⟩
  · rw [if_neg hok] at ho4
    rw [if_neg hok, show byE r = 2 from by unfold byE; rw [if_neg hok]]
    have hpe : spE F0 r = 2 := by unfold spE; rw [if_neg hok]
    have hpf : spF F0 r = F0 := by unfold spF; rw [if_neg hok]
    have HPE := Lib.hid hpe
    have HPF := Lib.hid hpf
    have HRIF := Lib.hid (show RefA w4 o2 2 q (spF F0 r) by rw [hpf]; exact HRI4.out)
    obtain ⟨A4, c4, rfl, _, _, _⟩ := own_split ho4
    obtain ⟨⟨x0, x1, x2⟩, _⟩ := rt_cells HX4.out
    have HLO4 := HOB2
    clear hok hpe hpf ho4
    go_wp2_with fail
    rw [← HPE.out]
    rw [← HRV.out]
    refine (slPut_any o2 1 (by decide) (by decide) p F0 r w4 HFI4.out HFR4.out HK0.out HE1.out HG.out (HT.out.below HB4.out (Nat.le_refl _))).mono ?_
    rintro e w6 ⟨o6, rfl, hu6, hf6⟩
    have HFI6 := Lib.hid hf6
    have HRI6 := Lib.hid (HRIF.out.upd hu6 (by decide) (by decide))
    have HB6 := Lib.hid (HB4.out.trans (hu6.below (by decide) HB4.out.size HLO4.out))
    clear hu6 hf6 x0 x1 x2
    go_wp2_with fail
    obtain ⟨E, hE⟩ : ∃ E, E = spE F0 r := ⟨_, rfl⟩
    obtain ⟨R, hR⟩ : ∃ R, R = spF F0 r := ⟨_, rfl⟩
    try rw [← hE]
    rw [← hR] at HFI6 HRI6
    have HSR2 := HSR.out
    have HK2 := HK1.out
    rw [← hR] at HSR2 HK2
    have hRl : R.b.length ≤ 4200000 := by have := HK2.len; have := HK2.most; omega
    have HSR3 := Lib.hid HSR2
    have HRL := Lib.hid hRl
    obtain ⟨vb, vr, lf, L, hra⟩ := HRI6.out
    obtain ⟨Ab, cb, hvb, hob, _, _⟩ := own_split hra.ob
    obtain ⟨Ar, cr, hvr, _⟩ := row_split hra.rw.own
    obtain ⟨d0, _, _, _, _, d5⟩ := hra.cells
    have hln : L.length = R.raws.length := by rw [← hra.raws, rws_length]
    rw [hvb] at d0
    rw [hvr, hln] at d5
    have HOB := Lib.hid hob
    obtain ⟨nl, hnl⟩ : ∃ nl, nl = R.raws.length := ⟨_, rfl⟩
    obtain ⟨nb, hnb⟩ : ∃ nb, nb = R.b.length := ⟨_, rfl⟩
    rw [← hnl] at d5
    rw [← hnb] at d0
    have HNL := Lib.hid hnl
    have HNB := Lib.hid hnb
    have hq0 : ∀ W', Below w6.heap.size w6 W' → W'.cell? ⟨q, 0, none⟩ = some (.slice Ab nb cb) := fun W' h => pw_cell_below h d0
    have HQ5 := Lib.hid (show ∀ W', Below w6.heap.size w6 W' → W'.cell? ⟨q, 5, none⟩ = some (.slice Ar nl cr) from fun W' h => pw_cell_below h d5)
    obtain ⟨sb, hsb⟩ : ∃ sb, sb = strOfNums R.b := ⟨_, rfl⟩
    have hqc : ∀ W', Below w6.heap.size w6 W' → (convert 25 9 (.slice Ab nb cb)).run Tryd.prog W' = .ok (.string sb) W' := fun W' h => by
      rw [hsb, hnb]
      exact own_str (own_step HOB.out h)
    have hz1 : sb.size ≤ 9223372036854775807 := by rw [hsb, strOfNums_size]; omega
    have HSB := Lib.hid hsb
    clear hE hR HSR2 HK2 hRl hvb hob hvr d0 d5 hln hra hnl hnb hsb
    have hb0 : Below w6.heap.size w6 w6.drew := (Below.refl _ _).drew
    refine wp_region_held_drew (S := fun W' => Below w6.heap.size w6 W') (by kernel_rfl) hb0 (fun hHeld => ?_)
    refine wpAnyH_take (i := 0) (oi := { dst := some 54, op := Op.move (Operand.tmp 12), type := 26, pos := "law.go:77", after := #[], guard := none }) (v := ?_) rfl (by kernel_rfl) (by kernel_rfl) (by kernel_rfl) (fun _ _ _ h => h) (Or.inl ⟨by rfl, ?_⟩) (by assumption) ?_
    rotate_left
    · (intro wS hSw; (try dsimp only at hSw); go_simp; (try (with_reducible rfl)))
    try simp only [Act.put, List.setIfInBounds_toArray, List.set_cons_zero, List.set_cons_succ]
    refine wpAnyH_take (i := 1) (oi := { dst := some 55, op := Op.move (Operand.tmp 11), type := 3, pos := "law.go:77", after := #[], guard := none }) (v := ?_) rfl (by kernel_rfl) (by kernel_rfl) (by kernel_rfl) (fun _ _ _ h => h) (Or.inl ⟨by rfl, ?_⟩) (by assumption) ?_
    rotate_left
    · (intro wS hSw; (try dsimp only at hSw); go_simp; (try (with_reducible rfl)))
    try simp only [Act.put, List.setIfInBounds_toArray, List.set_cons_zero, List.set_cons_succ]
    refine wpAnyH_take (i := 2) (oi := { dst := some 56, op := Op.binOp BinOp.eql 3 (Operand.tmp 54) (Operand.tmp 55) 3, type := 4, pos := "law.go:77", after := #[{ on := 0, ground := Ground.data }, { on := 1, ground := Ground.data }], guard := none }) (v := ?_) rfl (by kernel_rfl) (by kernel_rfl) (by kernel_rfl) (fun _ _ _ h => h) (Or.inl ⟨by rfl, ?_⟩) (by assumption) ?_
    rotate_left
    · (intro wS hSw; (try dsimp only at hSw); go_simp; (try (with_reducible rfl)))
    try simp only [Act.put, List.setIfInBounds_toArray, List.set_cons_zero, List.set_cons_succ]
    refine wpAnyH_take (i := 3) (oi := { dst := some 57, op := Op.move (Operand.tmp 56), type := 4, pos := "law.go:77", after := #[{ on := 2, ground := Ground.data }], guard := none }) (v := ?_) rfl (by kernel_rfl) (by kernel_rfl) (by kernel_rfl) (fun _ _ _ h => h) (Or.inl ⟨by rfl, ?_⟩) (by assumption) ?_
    rotate_left
    · (intro wS hSw; (try dsimp only at hSw); go_simp; (try (with_reducible rfl)))
    try simp only [Act.put, List.setIfInBounds_toArray, List.set_cons_zero, List.set_cons_succ]
    refine wpAnyH_take (i := 4) (oi := { dst := some 58, op := Op.move (Operand.tmp 7), type := 42, pos := "law.go:77", after := #[{ on := 3, ground := Ground.guard }], guard := some (3, true) }) (v := ?_) rfl (by kernel_rfl) (by kernel_rfl) (by kernel_rfl) (fun _ _ _ h => h) (Or.inl ⟨by rfl, ?_⟩) (by assumption) ?_
    rotate_left
    · (intro wS hSw; (try dsimp only at hSw); go_simp; (try (with_reducible rfl)))
    try simp only [Act.put, List.setIfInBounds_toArray, List.set_cons_zero, List.set_cons_succ]
    refine wpAnyH_take (i := 7) (oi := { dst := some 61, op := Op.move (Operand.tmp 8), type := 50, pos := "law.go:77", after := #[{ on := 3, ground := Ground.guard }], guard := some (3, true) }) (v := ?_) rfl (by kernel_rfl) (by kernel_rfl) (by kernel_rfl) (fun _ _ _ h => h) (Or.inl ⟨by rfl, ?_⟩) (by assumption) ?_
    rotate_left
    · (intro wS hSw; (try dsimp only at hSw); go_simp; (try (with_reducible rfl)))
    try simp only [Act.put, List.setIfInBounds_toArray, List.set_cons_zero, List.set_cons_succ]
    refine wpAnyH_take (i := 8) (oi := { dst := some 62, op := Op.nilCheck (Operand.tmp 61), type := 0, pos := "law.go:77", after := #[{ on := 7, ground := Ground.data }, { on := 3, ground := Ground.guard }], guard := some (3, true) }) (v := ?_) rfl (by kernel_rfl) (by kernel_rfl) (by kernel_rfl) (fun _ _ _ h => h) (Or.inl ⟨by rfl, ?_⟩) (by assumption) ?_
    rotate_left
    · (intro wS hSw; (try dsimp only at hSw); go_simp; (try (with_reducible rfl)))
    try simp only [Act.put, List.setIfInBounds_toArray, List.set_cons_zero, List.set_cons_succ]
    refine wpAnyH_take (i := 9) (oi := { dst := some 63, op := Op.fieldAddr 59 (Operand.tmp 62) 0, type := 0, pos := "law.go:77", after := #[{ on := 8, ground := Ground.data }, { on := 3, ground := Ground.guard }], guard := some (3, true) }) (v := ?_) rfl (by kernel_rfl) (by kernel_rfl) (by kernel_rfl) (fun _ _ _ h => h) (Or.inl ⟨by rfl, ?_⟩) (by assumption) ?_
    rotate_left
    · (intro wS hSw; (try dsimp only at hSw); go_simp; (try (with_reducible rfl)))
    try simp only [Act.put, List.setIfInBounds_toArray, List.set_cons_zero, List.set_cons_succ]
    refine wpAnyH_take (i := 10) (oi := { dst := some 64, op := Op.load 25 (Operand.tmp 63), type := 25, pos := "law.go:77", after := #[{ on := 9, ground := Ground.data }, { on := 3, ground := Ground.guard }], guard := some (3, true) }) (v := ?_) rfl (by kernel_rfl) (by kernel_rfl) (by kernel_rfl) (fun _ _ _ h => h) (Or.inl ⟨by rfl, ?_⟩) (by assumption) ?_
    rotate_left
    · (intro wS hSw; (try dsimp only at hSw); go_simp; (try (with_reducible rfl)))
    try simp only [Act.put, List.setIfInBounds_toArray, List.set_cons_zero, List.set_cons_succ]
    refine wpAnyH_take (i := 11) (oi := { dst := some 65, op := Op.convert 25 9 (Operand.tmp 64), type := 9, pos := "law.go:77", after := #[{ on := 10, ground := Ground.data }, { on := 3, ground := Ground.guard }], guard := some (3, true) }) (v := ?_) rfl (by kernel_rfl) (by kernel_rfl) (by kernel_rfl) (fun _ _ _ h => h) (Or.inl ⟨by rfl, ?_⟩) (by assumption) ?_
    rotate_left
    · (intro wS hSw; (try dsimp only at hSw); go_simp; (try (with_reducible rfl)))
    try simp only [Act.put, List.setIfInBounds_toArray, List.set_cons_zero, List.set_cons_succ]
    refine wpAnyH_ready (rs := [5]) (by kernel_rfl) (by simp) ?_
    refine AllReadyH.cons (o := { dst := some 59, op := Op.call { callee := Callee.value (Operand.func 24), args := #[Operand.tmp 58], argTypes := #[42] }, type := 25, pos := "law.go:77", after := #[{ on := 4, ground := Ground.data }, { on := 3, ground := Ground.chain }, { on := 3, ground := Ground.guard }], guard := some (3, true) }) rfl (fun K hK => ?_) AllReadyH.nil
    go_simp
    refine (bytes_any o6 1 p R _ (HFI6.out.below hb0) HRL.out).mono ?_
    rintro e w7 ⟨v7, rfl, ho7, hb7⟩
    have hb67 : Below w6.heap.size w6 w7 := hb0.trans (hb7.mono hb0.size)
    refine hK.out _ _ ?_ (fun hHeld => ?_)
    · exact hb67
    refine wpAnyH_mono (S2 := fun W' => Below w7.heap.size w7 W') (fun W' h => hb67.trans (h.mono hb67.size)) _ _ _ _ ?_
    have hs7 : Below w7.heap.size w7 w7 := Below.refl _ _
    have hcv7 : ∀ W', Below w7.heap.size w7 W' → (convert 25 9 v7).run Tryd.prog W' = .ok (.string sb) W' := fun W' h => by
      rw [HSB.out]
      exact own_str (own_step ho7 h)
    have hq5 : ∀ W', Below w7.heap.size w7 W' → W'.cell? ⟨q, 5, none⟩ = some (.slice Ar nl cr) := fun W' h => HQ5.out W' (hb67.trans (h.mono hb67.size))
    clear hK K
    try simp only [Act.put, List.setIfInBounds_toArray, List.set_cons_zero, List.set_cons_succ]
    refine wpAnyH_take (i := 6) (oi := { dst := some 60, op := Op.convert 25 9 (Operand.tmp 59), type := 9, pos := "law.go:77", after := #[{ on := 5, ground := Ground.data }, { on := 3, ground := Ground.guard }], guard := some (3, true) }) (v := ?_) rfl (by kernel_rfl) (by kernel_rfl) (by kernel_rfl) (fun _ _ _ h => h) (Or.inl ⟨by rfl, ?_⟩) (by assumption) ?_
    rotate_left
    · (intro wS hSw; (try dsimp only at hSw); go_simp; (try (with_reducible rfl)))
    try simp only [Act.put, List.setIfInBounds_toArray, List.set_cons_zero, List.set_cons_succ]
    refine wpAnyH_take (i := 12) (oi := { dst := some 66, op := Op.binOp BinOp.eql 9 (Operand.tmp 60) (Operand.tmp 65) 9, type := 4, pos := "law.go:77", after := #[{ on := 6, ground := Ground.data }, { on := 11, ground := Ground.data }, { on := 3, ground := Ground.guard }], guard := some (3, true) }) (v := ?_) rfl (by kernel_rfl) (by kernel_rfl) (by kernel_rfl) (fun _ _ _ h => h) (Or.inl ⟨by rfl, ?_⟩) (by assumption) ?_
    rotate_left
    · (intro wS hSw; (try dsimp only at hSw); go_simp; (try (with_reducible rfl)))
    try simp only [Act.put, List.setIfInBounds_toArray, List.set_cons_zero, List.set_cons_succ]
    refine wpAnyH_take (i := 13) (oi := { dst := some 67, op := Op.pick (Operand.tmp 57) (Operand.tmp 66) (Operand.const (Value.bool false)), type := 4, pos := "law.go:77", after := #[{ on := 3, ground := Ground.data }, { on := 12, ground := Ground.data }], guard := none }) (v := ?_) rfl (by kernel_rfl) (by kernel_rfl) (by kernel_rfl) (fun _ _ _ h => h) (Or.inl ⟨by rfl, ?_⟩) (by assumption) ?_
    rotate_left
    · (intro wS hSw; (try dsimp only at hSw); go_simp; (try (with_reducible rfl)))
    try simp only [Act.put, List.setIfInBounds_toArray, List.set_cons_zero, List.set_cons_succ]
    refine wpAnyH_take (i := 14) (oi := { dst := some 68, op := Op.move (Operand.tmp 67), type := 4, pos := "law.go:77", after := #[{ on := 13, ground := Ground.data }, { on := 5, ground := Ground.chain }], guard := none }) (v := ?_) rfl (by kernel_rfl) (by kernel_rfl) (by kernel_rfl) (fun _ _ _ h => h) (Or.inl ⟨by rfl, ?_⟩) (by assumption) ?_
    rotate_left
    · (intro wS hSw; (try dsimp only at hSw); go_simp; (try (with_reducible rfl)))
    try simp only [Act.put, List.setIfInBounds_toArray, List.set_cons_zero, List.set_cons_succ]
    refine wpAnyH_take (i := 15) (oi := { dst := some 69, op := Op.move (Operand.tmp 7), type := 42, pos := "law.go:77", after := #[{ on := 14, ground := Ground.guard }], guard := some (14, true) }) (v := ?_) rfl (by kernel_rfl) (by kernel_rfl) (by kernel_rfl) (fun _ _ _ h => h) (Or.inl ⟨by rfl, ?_⟩) (by assumption) ?_
    rotate_left
    · (intro wS hSw; (try dsimp only at hSw); go_simp; (try (with_reducible rfl)))
    try simp only [Act.put, List.setIfInBounds_toArray, List.set_cons_zero, List.set_cons_succ]
    refine wpAnyH_take (i := 18) (oi := { dst := some 72, op := Op.move (Operand.tmp 8), type := 50, pos := "law.go:77", after := #[{ on := 14, ground := Ground.guard }], guard := some (14, true) }) (v := ?_) rfl (by kernel_rfl) (by kernel_rfl) (by kernel_rfl) (fun _ _ _ h => h) (Or.inl ⟨by rfl, ?_⟩) (by assumption) ?_
    rotate_left
    · (intro wS hSw; (try dsimp only at hSw); go_simp; (try (with_reducible rfl)))
    try simp only [Act.put, List.setIfInBounds_toArray, List.set_cons_zero, List.set_cons_succ]
    refine wpAnyH_take (i := 19) (oi := { dst := some 73, op := Op.nilCheck (Operand.tmp 72), type := 0, pos := "law.go:77", after := #[{ on := 18, ground := Ground.data }, { on := 14, ground := Ground.guard }], guard := some (14, true) }) (v := ?_) rfl (by kernel_rfl) (by kernel_rfl) (by kernel_rfl) (fun _ _ _ h => h) (Or.inl ⟨by rfl, ?_⟩) (by assumption) ?_
    rotate_left
    · (intro wS hSw; (try dsimp only at hSw); go_simp; (try (with_reducible rfl)))
    try simp only [Act.put, List.setIfInBounds_toArray, List.set_cons_zero, List.set_cons_succ]
    refine wpAnyH_take (i := 20) (oi := { dst := some 74, op := Op.fieldAddr 59 (Operand.tmp 73) 5, type := 0, pos := "law.go:77", after := #[{ on := 19, ground := Ground.data }, { on := 14, ground := Ground.guard }], guard := some (14, true) }) (v := ?_) rfl (by kernel_rfl) (by kernel_rfl) (by kernel_rfl) (fun _ _ _ h => h) (Or.inl ⟨by rfl, ?_⟩) (by assumption) ?_
    rotate_left
    · (intro wS hSw; (try dsimp only at hSw); go_simp; (try (with_reducible rfl)))
    try simp only [Act.put, List.setIfInBounds_toArray, List.set_cons_zero, List.set_cons_succ]
    refine wpAnyH_take (i := 21) (oi := { dst := some 75, op := Op.load 57 (Operand.tmp 74), type := 57, pos := "law.go:77", after := #[{ on := 20, ground := Ground.data }, { on := 14, ground := Ground.guard }], guard := some (14, true) }) (v := ?_) rfl (by kernel_rfl) (by kernel_rfl) (by kernel_rfl) (fun _ _ _ h => h) (Or.inl ⟨by rfl, ?_⟩) (by assumption) ?_
    rotate_left
    · (intro wS hSw; (try dsimp only at hSw); go_simp; (try (with_reducible rfl)))
    try simp only [Act.put, List.setIfInBounds_toArray, List.set_cons_zero, List.set_cons_succ]
    refine wpAnyH_take (i := 22) (oi := { dst := some 76, op := Op.call { callee := Callee.builtin Builtin.len, args := #[Operand.tmp 75], argTypes := #[57] }, type := 3, pos := "law.go:77", after := #[{ on := 21, ground := Ground.data }, { on := 14, ground := Ground.guard }], guard := some (14, true) }) (v := ?_) rfl (by kernel_rfl) (by kernel_rfl) (by kernel_rfl) (fun _ _ _ h => h) (Or.inl ⟨by rfl, ?_⟩) (by assumption) ?_
    rotate_left
    · (intro wS hSw; (try dsimp only at hSw); go_simp; (try (with_reducible rfl)))
    try simp only [Act.put, List.setIfInBounds_toArray, List.set_cons_zero, List.set_cons_succ]
    refine wpAnyH_ready (rs := [16]) (by kernel_rfl) (by simp) ?_
    refine AllReadyH.cons (o := { dst := some 70, op := Op.call { callee := Callee.value (Operand.func 25), args := #[Operand.tmp 69], argTypes := #[42] }, type := 60, pos := "law.go:77", after := #[{ on := 15, ground := Ground.data }, { on := 14, ground := Ground.chain }, { on := 14, ground := Ground.guard }], guard := some (14, true) }) rfl (fun K hK => ?_) AllReadyH.nil
    go_simp
    refine (raws_any o6 1 p R w7 (HFI6.out.below hb67) (by have := HSR3.out.1; omega) HSR3.out.2).mono ?_
    rintro e w8 ⟨v8, L8, rfl, hr8, hrs8, hb8⟩
    obtain ⟨A8, c8, rfl, _⟩ := row_split hr8.own
    have hl8 : L8.length = nl := by rw [HNL.out, ← hrs8, rws_length]
    rw [hl8]
    refine hK.out _ _ ?_ (fun hHeld => ?_)
    · exact hb8
    refine wpAnyH_mono (S2 := fun W' => Below w8.heap.size w8 W') (fun W' h => hb8.trans (h.mono hb8.size)) _ _ _ _ ?_
    have hs8 : Below w8.heap.size w8 w8 := Below.refl _ _
    have HB8 := Lib.hid (HB6.out.trans ((hb67.trans (hb8.mono hb67.size)).mono HB6.out.size))
    clear hr8 hrs8
    clear hK K
    try simp only [Act.put, List.setIfInBounds_toArray, List.set_cons_zero, List.set_cons_succ]
    refine wpAnyH_take (i := 17) (oi := { dst := some 71, op := Op.call { callee := Callee.builtin Builtin.len, args := #[Operand.tmp 70], argTypes := #[60] }, type := 3, pos := "law.go:77", after := #[{ on := 16, ground := Ground.data }, { on := 14, ground := Ground.guard }], guard := some (14, true) }) (v := ?_) rfl (by kernel_rfl) (by kernel_rfl) (by kernel_rfl) (fun _ _ _ h => h) (Or.inl ⟨by rfl, ?_⟩) (by assumption) ?_
    rotate_left
    · (intro wS hSw; (try dsimp only at hSw); go_simp; (try (with_reducible rfl)))
    try simp only [Act.put, List.setIfInBounds_toArray, List.set_cons_zero, List.set_cons_succ]
    refine wpAnyH_take (i := 23) (oi := { dst := some 77, op := Op.binOp BinOp.eql 3 (Operand.tmp 71) (Operand.tmp 76) 3, type := 4, pos := "law.go:77", after := #[{ on := 17, ground := Ground.data }, { on := 22, ground := Ground.data }, { on := 14, ground := Ground.guard }], guard := some (14, true) }) (v := ?_) rfl (by kernel_rfl) (by kernel_rfl) (by kernel_rfl) (fun _ _ _ h => h) (Or.inl ⟨by rfl, ?_⟩) (by assumption) ?_
    rotate_left
    · (intro wS hSw; (try dsimp only at hSw); go_simp; (try (with_reducible rfl)))
    try simp only [Act.put, List.setIfInBounds_toArray, List.set_cons_zero, List.set_cons_succ]
    refine wpAnyH_take (i := 24) (oi := { dst := some 78, op := Op.pick (Operand.tmp 68) (Operand.tmp 77) (Operand.const (Value.bool false)), type := 4, pos := "law.go:77", after := #[{ on := 14, ground := Ground.data }, { on := 23, ground := Ground.data }], guard := none }) (v := ?_) rfl (by kernel_rfl) (by kernel_rfl) (by kernel_rfl) (fun _ _ _ h => h) (Or.inl ⟨by rfl, ?_⟩) (by assumption) ?_
    rotate_left
    · (intro wS hSw; (try dsimp only at hSw); go_simp; (try (with_reducible rfl)))
    try simp only [Act.put, List.setIfInBounds_toArray, List.set_cons_zero, List.set_cons_succ]
    refine wpAnyH_take (i := 25) (oi := { dst := some 79, op := Op.move (Operand.tmp 78), type := 4, pos := "law.go:77", after := #[{ on := 24, ground := Ground.data }, { on := 16, ground := Ground.chain }], guard := none }) (v := ?_) rfl (by kernel_rfl) (by kernel_rfl) (by kernel_rfl) (fun _ _ _ h => h) (Or.inl ⟨by rfl, ?_⟩) (by assumption) ?_
    rotate_left
    · (intro wS hSw; (try dsimp only at hSw); go_simp; (try (with_reducible rfl)))
    try simp only [Act.put, List.setIfInBounds_toArray, List.set_cons_zero, List.set_cons_succ]
    refine wpAnyH_ready (rs := [26]) (by kernel_rfl) (by simp) ?_
    refine AllReadyH.cons (o := { dst := some 80, op := Op.call { callee := Callee.value (Operand.func 12), args := #[], argTypes := #[] }, type := 4, pos := "law.go:77", after := #[{ on := 25, ground := Ground.chain }, { on := 25, ground := Ground.guard }], guard := some (25, true) }) rfl (fun K hK => ?_) AllReadyH.nil
    go_simp
    refine (lives04 w8 (HT.out.below HB8.out (Nat.le_refl _))).mono ?_
    rintro e w9 ⟨rfl, hb9⟩
    refine hK.out _ _ ?_ (fun hHeld => ?_)
    · exact hb9
    clear hK K
    try simp only [Act.put, List.setIfInBounds_toArray, List.set_cons_zero, List.set_cons_succ]
    refine wpAnyH_take (i := 27) (oi := { dst := some 81, op := Op.pick (Operand.tmp 79) (Operand.tmp 80) (Operand.const (Value.bool false)), type := 4, pos := "law.go:77", after := #[{ on := 25, ground := Ground.data }, { on := 26, ground := Ground.data }], guard := none }) (v := ?_) rfl (by kernel_rfl) (by kernel_rfl) (by kernel_rfl) (fun _ _ _ h => h) (Or.inl ⟨by rfl, ?_⟩) (by assumption) ?_
    rotate_left
    · (intro wS hSw; (try dsimp only at hSw); go_simp; (try (with_reducible rfl)))
    try simp only [Act.put, List.setIfInBounds_toArray, List.set_cons_zero, List.set_cons_succ]
    refine wpAnyH_take (i := 28) (oi := { dst := some 6, op := Op.assign (Operand.tmp 81), type := 4, pos := "law.go:77", after := #[{ on := 27, ground := Ground.data }, { on := 26, ground := Ground.chain }, { on := 0, ground := Ground.phase }, { on := 1, ground := Ground.phase }, { on := 2, ground := Ground.phase }, { on := 3, ground := Ground.phase }, { on := 4, ground := Ground.phase }, { on := 5, ground := Ground.phase }, { on := 6, ground := Ground.phase }, { on := 7, ground := Ground.phase }, { on := 8, ground := Ground.phase }, { on := 9, ground := Ground.phase }, { on := 10, ground := Ground.phase }, { on := 11, ground := Ground.phase }, { on := 12, ground := Ground.phase }, { on := 13, ground := Ground.phase }, { on := 14, ground := Ground.phase }, { on := 15, ground := Ground.phase }, { on := 16, ground := Ground.phase }, { on := 17, ground := Ground.phase }, { on := 18, ground := Ground.phase }, { on := 19, ground := Ground.phase }, { on := 20, ground := Ground.phase }, { on := 21, ground := Ground.phase }, { on := 22, ground := Ground.phase }, { on := 23, ground := Ground.phase }, { on := 24, ground := Ground.phase }, { on := 25, ground := Ground.phase }, { on := 26, ground := Ground.phase }, { on := 27, ground := Ground.phase }], guard := none }) (v := ?_) rfl (by kernel_rfl) (by kernel_rfl) (by kernel_rfl) (fun _ _ _ h => h) (Or.inl ⟨by rfl, ?_⟩) (by assumption) ?_
    rotate_left
    · (intro wS hSw; (try dsimp only at hSw); go_simp; (try (with_reducible rfl)))
    try simp only [Act.put, List.setIfInBounds_toArray, List.set_cons_zero, List.set_cons_succ]
    refine wpAnyH_done (by kernel_rfl) ?_ _
    go_wp2_with fail
    go_ret
    exact ⟨rfl, HB8.out.trans (hb9.mono HB8.out.size)⟩
end Go.Proofs.YtadmpjikkpnjnaaDoor
