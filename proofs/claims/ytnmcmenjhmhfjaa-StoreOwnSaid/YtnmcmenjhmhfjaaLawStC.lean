/-
  StoreOwn: the walk. No premise.
-/
import Derived.Test.YtnmcmenjhmhfjaaLawStB
namespace Go.Proofs.Ytnmcmenjhmhfjaa
open Go.RowKit Go.Shelf Go.Proofs.YtnmcmenjhmhfjaaW.PrintWords

/-- Rows of bytes, whatever they hold. -/
def SlI (w : World) (B : Nat) (L : List Rw) : Prop := ∀ r ∈ L, ∃ l', l'.length = r.b.length ∧ Own w B (.slice r.A r.b.length r.c) l' ∧ Bts l'
theorem SlI.setB {w : World} {B : Nat} {L : List Rw} (h : SlI w B L) (g q : Nat) {y : Int} (hy : 0 ≤ y ∧ y ≤ 255) : SlI (w.setCell ⟨g, q, none⟩ (.int .u8 y)) B L := fun r hr => by
  obtain ⟨l', h1, h2, h3⟩ := h r hr
  by_cases hg : Value.ownBlock (.slice r.A r.b.length r.c) = some g
  · obtain ⟨a, ha⟩ : ∃ a, r.A = some a := by
      cases e : r.A with
      | none => rw [e] at hg; cases hg
      | some a => exact ⟨a, rfl⟩
    rcases own_cases h2 with ⟨e, _⟩ | ⟨g', cap, e⟩
    · rw [ha] at e; cases e
    · rw [e] at hg h2 ⊢
      simp only [Value.ownBlock, Option.some.injEq] at hg
      subst hg
      have h4 := own_setc h2 (q : Int) y
      rw [Int.toNat_natCast] at h4
      refine ⟨l'.set q y, by rw [List.length_set]; exact h1, h4, fun z hz => ?_⟩
      rcases List.mem_or_eq_of_mem_set hz with h5 | h5
      · exact h3 z h5
      · rw [h5]; exact hy
  · exact ⟨l', h1, own_setCell h2 (fun e => hg e.symm) _, h3⟩
theorem SlI.keep {w w' : World} {B : Nat} {L : List Rw} (h : SlI w B L) (hk : ∀ g, B ≤ g → g < w.heap.size → w'.heap[g]? = w.heap[g]?) : SlI w' B L := fun r hr => by
  obtain ⟨l', h1, h2, h3⟩ := h r hr
  exact ⟨l', h1, ownsRow_keep h2 fun g hg hl => hk g (World.ownsRow.lt h2 g hg).1 hl, h3⟩
theorem SlI.setR {w : World} {B g j : Nat} {L : List Rw} {cs : Array Value} {t : TypeId} (h : SlI w B L) (hg : w.heap[g]? = some (.cells cs t (0, 0))) (ht : t ≠ 5) (u : Value) : SlI (w.setCell ⟨g, j, none⟩ u) B L := fun r hr => by
  obtain ⟨l', h1, h2, h3⟩ := h r hr
  exact ⟨l', h1, own_setR h2 hg ht u, h3⟩
theorem SlI.drew {w : World} {B : Nat} {L : List Rw} (h : SlI w B L) : SlI w.drew B L := h.keep fun _ _ _ => rfl
theorem row_drew {w : World} {base e size n : Nat} {v : Value} {xs : List Value} (h : w.ownsRow base e size v n xs) : w.drew.ownsRow base e size v n xs := ownsRow_keep h fun _ _ _ => rfl
theorem rwv_setP {L : List Rw} {k : Nat} (hk : k < L.length) (v : Int) : (rwv L).set (k * 2) (.int .i64 v) = rwv (L.set k { L[k] with pl := v }) := by
  induction L generalizing k with
  | nil => simp at hk
  | cons f L ih =>
    have e : rwv (f :: L) = .int .i64 f.pl :: .slice f.A f.b.length f.c :: rwv L := rfl
    cases k with
    | zero => rw [e]; rfl
    | succ k =>
      have := ih (k := k) (by simpa using hk)
      rw [e, show (k + 1) * 2 = k * 2 + 1 + 1 from by omega, List.set_cons_succ, List.set_cons_succ, this]
      rfl
theorem row_setP {w : World} {base e g n cap : Nat} {L : List Rw} {k : Nat} (hk : k < L.length) (h : w.ownsRow base e 2 (.slice (some ⟨g, 0, none⟩) n cap) L.length (rwv L)) (v : Int) :
    (w.setCell ⟨g, k * 2, none⟩ (.int .i64 v)).ownsRow base e 2 (.slice (some ⟨g, 0, none⟩) n cap) L.length (rwv (L.set k { L[k] with pl := v })) := by
  obtain ⟨hl, h2⟩ := h
  rcases h2 with ⟨h2, _⟩ | ⟨g', cap', cur, h2, hb, hg, hn, hm, hs, ht⟩
  · cases h2
  · injection h2 with e1 e2 e3
    injection e1 with e1
    injection e1 with e1
    subst e1 e2 e3
    refine ⟨rwv_length _ |>.trans (by rw [List.length_set]), .inr ⟨g, cap, cur.setIfInBounds (k * 2) (.int .i64 v), rfl, hb, blk_set hg _ _, hn, hm, by rw [Array.size_setIfInBounds]; exact hs, ?_⟩⟩
    rw [Array.toList_setIfInBounds, List.take_set, ht, rwv_setP hk v]
theorem SlI.setP {w : World} {B : Nat} {L : List Rw} (h : SlI w B L) (k : Nat) (hk : k < L.length) (v : Int) : SlI w B (L.set k { L[k] with pl := v }) := fun r hr => by
  rcases List.mem_or_eq_of_mem_set hr with h5 | h5
  · exact h r h5
  · subst h5
    exact h L[k] (List.getElem_mem hk)
set_option maxRecDepth 100000 in
set_option maxHeartbeats 3200000 in
theorem storeOwn_walk (B : Option Addr) (cb : Nat) (b : List Int) (X : Option Addr) (cx : Nat) (x : List Int) (w : World) (hrb : ReadsInt w .u8 B b.length b) (hwb : ∀ x ∈ b, (Lit.int .u8 x).wf = true) (hcb : b.length ≤ cb) (hyb : b.length * 1 ≤ 140737488351232)
    (hrx : ReadsInt w .u8 X x.length x) (hwx : ∀ y ∈ x, (Lit.int .u8 y).wf = true) (hcx : x.length ≤ cx) (hyx : x.length * 1 ≤ 140737488351232) :
    Calls Try.prog 7 #[.slice B b.length cb, .slice X x.length cx] w fun e w' => e = .returned (.bool true) ∧ Below w.heap.size w w' := by
  have HRB := Lib.hid (show Rd w B b from hrb)
  have HRX := Lib.hid (show Rd w X x from hrx)
  have HBB := Lib.hid (wf_bts' hwb)
  have HBX := Lib.hid (wf_bts' hwx)
  have HFR0 := Lib.hid (show Fr (fun _ => 0) w from fun _ _ => rfl)
  clear hrb hwb hrx hwx
  by_cases hbig : 4194304 < b.length + x.length
  · have hof : ofB b ((b.length : Int) + (x.length : Int)) := by unfold ofB; omega
    go_enter Try.func7, Try.ntmps7
    go_wp2_with (first | (go_at_call 10; refine (of_bad B cb b _ w hof).mono ?_; rintro e w1 ⟨rfl, rfl⟩) | (go_at_call 11; refine (lives03 _).mono ?_; rintro e w1 ⟨rfl, hb1⟩))
    go_ret
    exact ⟨rfl, hb1⟩
  obtain ⟨F0, hF0⟩ : ∃ F0, F0 = mkF b ((b.length : Int) + (x.length : Int)) := ⟨_, rfl⟩
  obtain ⟨F1, hF1⟩ : ∃ F1, F1 = wF F0 (b.length : Int) x := ⟨_, rfl⟩
  have hb0 : F0.b = b := by rw [hF0]; rfl
  have hm0 : F0.most = (b.length : Int) + (x.length : Int) := by rw [hF0]; rfl
  have hofb : ¬ ofB b ((b.length : Int) + (x.length : Int)) := by unfold ofB; omega
  have hok : FOk F0 := by rw [hF0]; exact mkF_ok HBB.out hofb
  obtain ⟨w1e, w1b, _, _, _, w1r⟩ := write_plain (F := F0) (a := b.length) (x := x) (by rw [hF0]; rfl) (by rw [hF0]; show (-1 : Int) < 0; decide) (by rw [hb0]; exact Nat.le_refl _) (by rw [hm0]; omega)
  rw [← hF1] at w1b w1r
  have hok1 : FOk F1 := by rw [hF1]; exact hok.wF HBX.out _
  have hl1 : F1.b.length ≤ 4200000 := by have := hok1.len; have := hok1.most; omega
  have hr0 : F0.raws.length ≤ 900000000 := by rw [hF0]; show (0 : Nat) ≤ _; omega
  have hr1 : F1.raws.length ≤ 1000000 := by
    rw [w1r, hF0]
    show ([] ++ pcs b.length x (chN x.length 16)).length ≤ _
    rw [List.nil_append, pcs_length]
    unfold chN
    omega
  have hr2 : ∀ r ∈ F1.raws, r.2.length ≤ 1000000000 := fun r hr => by
    rw [w1r, hF0] at hr
    have hr' : r ∈ pcs b.length x (chN x.length 16) := hr
    unfold pcs at hr'
    obtain ⟨j, _, rfl⟩ := List.mem_map.1 hr'
    show (pc x j).length ≤ _
    unfold pc
    rw [List.length_take]
    omega
  have HF0 := Lib.hid hF0
  have HF1 := Lib.hid hF1
  have HE1 := Lib.hid w1e
  have HOK := Lib.hid hok
  have HOK1 := Lib.hid hok1
  have HL1 := Lib.hid hl1
  have HR0 := Lib.hid hr0
  have HR1 := Lib.hid hr1
  have HR2 := Lib.hid hr2
  have HOF := Lib.hid hofb
  clear hF0 hF1 hb0 hm0 hok w1e w1b w1r hok1 hl1 hr0 hr1 hr2 hofb
  go_enter Try.func7, Try.ntmps7
  go_wp2_with fail
  refine (of_any (fun _ => 0) 1 B cb b ((b.length : Int) + (x.length : Int)) w HFR0.out HRB.out HOF.out).mono ?_
  rintro e w1 ⟨p, o1, rfl, hf1, hu1, _, _⟩
  rw [← HF0.out] at hf1
  have HFI1 := Lib.hid hf1
  have HU1 := Lib.hid hu1
  clear hf1 hu1
  go_wp2_with fail
  refine (write_any o1 1 (by decide) (by decide) p F0 (b.length : Int) X cx x w1 HFI1.out HU1.out.fr HOK.out (by omega) (by omega) (HU1.out.rd HRX.out (fun _ _ _ => by decide)) (HU1.out.arg (by decide) HRX.out) (by omega) hcx HR0.out).mono ?_
  rintro e w2 ⟨o2, rfl, hu2, hf2⟩
  rw [HE1.out]
  rw [← HF1.out] at hf2
  have HFI2 := Lib.hid hf2
  have HU2 := Lib.hid (HU1.out.trans hu2)
  have HB2 := Lib.hid (HU2.out.below (by decide) (Nat.le_refl _) (fun _ _ => rfl))
  clear hu2 hf2
  go_wp2_with fail
  refine (bytes_any o2 1 p F1 w2 HFI2.out HL1.out).mono ?_
  rintro e w3 ⟨va, rfl, hoa, hb3⟩
  obtain ⟨Aa, ma, ca, rfl, HMA, hoa'⟩ := own_splitM hoa
  have HOA := Lib.hid hoa'
  have HB3 := Lib.hid hb3
  have HFI3 := Lib.hid (HFI2.out.below hb3)
  clear hoa hoa' hb3
  go_wp2_with fail
  refine (raws_any o2 1 p F1 w3 HFI3.out (by have := HR1.out; omega) HR2.out).mono ?_
  rintro e w4 ⟨vl, L, rfl, hl4, hrs4, hb4⟩
  obtain ⟨Al, cl, rfl, hrow4⟩ := row_split hl4.own
  obtain ⟨nl, hnl⟩ : ∃ nl, nl = L.length := ⟨_, rfl⟩
  have hsl : SlI w4 w3.heap.size L := fun r hr => ⟨r.b, rfl, hl4.each r hr, HOK1.out.rbts (r.pl, r.b) (by rw [← hrs4]; exact List.mem_map_of_mem hr)⟩
  have HBL := Lib.hid (show ∀ r ∈ L, r.b.length ≤ 1000000000 from fun r hr => HR2.out (r.pl, r.b) (by rw [← hrs4]; exact List.mem_map_of_mem hr))
  have hnb : L.length ≤ 1000000 := by have := rws_length L; rw [hrs4] at this; have := HR1.out; omega
  rw [← hnl] at hrow4 ⊢
  have HROW := Lib.hid hrow4
  have HSL := Lib.hid hsl
  have HNL := Lib.hid hnl
  have HB4 := Lib.hid (HB3.out.trans (hb4.mono HB3.out.size))
  have HOA4 := Lib.hid (own_step HOA.out hb4)
  have hs3 := HB3.out.size
  have hs4 := hb4.size
  have hma : ma ≤ 4200000 := by have := HMA.out; have := HL1.out; omega
  have hnl2 : nl ≤ 1000000 := by omega
  clear hl4 hb4 hrow4 hsl hnl hrs4 hnb
  go_wp2_with fail
  go_loopw [8] (fun t wr => ∃ i : Nat, i ≤ ma ∧ t = .int .i64 i ∧ Hid (∃ l', l'.length = ma ∧ Own wr w2.heap.size (.slice Aa ma ca) l' ∧ Bts l') ∧ Hid (wr.ownsRow w3.heap.size 35 2 (.slice Al nl cl) nl (rwv L)) ∧ Hid (SlI wr w3.heap.size L) ∧ Hid (Below w2.heap.size w2 wr)) (fun t _ => ma - (intOf t).toNat)
  case atStart => exact ⟨0, Nat.zero_le _, rfl, ⟨F1.b, HMA.out.symm, HOA4.out, HOK1.out.bts⟩, HROW.out, HSL.out, HB4.out⟩
  case round =>
    obtain ⟨i, hi, rfl, HO1, HROW1, HSL1, HBW⟩ := hrel
    by_cases hlt : i < ma
    · obtain ⟨l', hll, ho1, hbts⟩ := HO1.out
      obtain ⟨ga, rfl⟩ := own_some ho1 hll.symm (by omega)
      obtain ⟨hq, hfq⟩ := own_cell ho1 (i : Int) (by omega) (by omega)
      rw [Int.toNat_natCast] at hq hfq
      have hbt := hbts.at i
      have hset := own_setc ho1 (i : Int) ((rdI l' i + 1) % 256)
      rw [Int.toNat_natCast] at hset
      have hga : ga < w3.heap.size := own_hi HOA.out (k := ga) rfl
      have hglo := own_lo HOA.out (k := ga) rfl
      have HSET := Lib.hid (show ∃ l2, l2.length = ma ∧ Own (wr.setCell ⟨ga, i, none⟩ (.int .u8 ((rdI l' i + 1) % 256))) w2.heap.size (.slice (some ⟨ga, 0, none⟩) ma ca) l2 ∧ Bts l2 from ⟨_, by rw [List.length_set]; exact hll, hset, fun z hz => by
        rcases List.mem_or_eq_of_mem_set hz with h5 | h5
        · exact hbts z h5
        · rw [h5]; omega⟩)
      have HK := Lib.hid (show ∀ u k, w3.heap.size ≤ k → (wr.setCell ⟨ga, i, none⟩ u).heap[k]? = wr.heap[k]? from fun u k hk => Below.heap_setCell _ _ _ _ (by show k ≠ ga; omega))
      clear ho1 hset hbts
      generalize rdI l' i = y at *
      go_wp2_with fail
      go_roundw
      case rel => exact ⟨i + 1, by omega, by go_num, HSET.out, ownsRow_keep HROW1.out (fun g hg _ => HK.out _ _ (World.ownsRow.lt HROW1.out g hg).1), HSL1.out.keep (fun g hg _ => HK.out _ _ hg), HBW.out.setCell (p := ⟨ga, i, none⟩) hglo _⟩
      case measure => simp [intOf]; omega
    · go_wp2_with fail
      rename_i wo1
      go_loopw [9] (fun t wq => ∃ i : Nat, i ≤ nl ∧ t = .int .i64 i ∧ ∃ Lk : List Rw, Lk.length = nl ∧ Hid (wq.ownsRow w3.heap.size 35 2 (.slice Al nl cl) nl (rwv Lk)) ∧ Hid (SlI wq w3.heap.size Lk) ∧ Hid (∀ r ∈ Lk, r.b.length ≤ 1000000000) ∧ Hid (Below w2.heap.size w2 wq)) (fun t _ => nl - (intOf t).toNat)
      case atStart => exact ⟨0, Nat.zero_le _, rfl, L, HNL.out.symm, HROW1.out, HSL1.out, HBL.out, HBW.out⟩
      case round =>
        obtain ⟨i, hi, rfl, Lk, hlk, HROW2, HSL2, HBL2, HBW2⟩ := hrel
        by_cases hlt2 : i < nl
        · have hlk2 : i < Lk.length := by omega
          obtain ⟨gr, cpr, er, hgr, _⟩ : ∃ g cap, Value.slice Al nl cl = .slice (some ⟨g, 0, none⟩) nl cap ∧ w3.heap.size ≤ g ∧ g < wr.heap.size := by
            rcases row_cases HROW2.out with ⟨_, h2⟩ | h
            · omega
            · exact h
          injection er with er1 _ er3
          subst er1 er3
          obtain ⟨r, hr⟩ : ∃ r, r = Lk[i] := ⟨_, rfl⟩
          obtain ⟨nr, hnr⟩ : ∃ nr, nr = r.b.length := ⟨_, rfl⟩
          have hmem : r ∈ Lk := by rw [hr]; exact List.getElem_mem hlk2
          have hnrb : nr ≤ 1000000000 := by rw [hnr]; exact HBL2.out r hmem
          have HR := Lib.hid hr
          have HNR := Lib.hid hnr
          have hcell := fun (ws : World) (h : ws.ownsRow w3.heap.size 35 2 (.slice (some ⟨gr, 0, none⟩) nl cl) nl (rwv Lk)) => (by
            have := (row_cells (L := Lk) (by rw [hlk]; exact h) i hlk2).2
            rw [← hr, ← hnr] at this
            exact this : ws.cell? ⟨gr, i * 2 + 1, none⟩ = some (.slice r.A nr r.c))
          have HCELL := Lib.hid hcell
          have HMEM := Lib.hid hmem
          clear hr hnr hcell hmem
          go_wp2_with fail
          rename_i wo2
          go_loopw [10] (fun t ws => ∃ k : Nat, k ≤ nr ∧ t = .int .i64 k ∧ Hid (ws.ownsRow w3.heap.size 35 2 (.slice (some ⟨gr, 0, none⟩) nl cl) nl (rwv Lk)) ∧ Hid (SlI ws w3.heap.size Lk) ∧ Hid (Below w2.heap.size w2 ws)) (fun t _ => nr - (intOf t).toNat)
          case atStart => exact ⟨0, Nat.zero_le _, rfl, HROW2.out, HSL2.out, HBW2.out⟩
          case round =>
            obtain ⟨k, hk, rfl, HROW3, HSL3, HBW3⟩ := hrel
            have hq1 := HCELL.out _ HROW3.out
            by_cases hlt3 : k < nr
            · obtain ⟨l', hll, ho1, hbts⟩ := HSL3.out r HMEM.out
              obtain ⟨rpl, rA, rc, rb⟩ := r
              simp only at hq1 hll ho1 HNR
              rw [← HNR.out] at hll ho1
              obtain ⟨gk, rfl⟩ := own_some ho1 hll.symm (by omega)
              obtain ⟨hq, hfq⟩ := own_cell ho1 (k : Int) (by omega) (by omega)
              rw [Int.toNat_natCast] at hq hfq
              have hbt := hbts.at k
              have hglo : w2.heap.size ≤ gk := by have := own_lo ho1 (k := gk) rfl; omega
              have HSET := Lib.hid (fun (y : Int) (hy : 0 ≤ y ∧ y ≤ 255) => HSL3.out.setB gk k hy)
              have hne : (some gk : Option Nat) ≠ Value.ownBlock (.slice (some ⟨gr, 0, none⟩) nl cl) := fun e => by
                obtain ⟨c1, h1⟩ := ownsRow_is HROW3.out (g := gk) e.symm
                obtain ⟨c2, h2⟩ := ownsRow_is ho1 (g := gk) rfl
                rw [h1] at h2
                injection h2 with h2
                injection h2 with _ h3
                exact absurd h3 (by decide)
              have HNE := Lib.hid hne
              clear ho1 hbts hne
              generalize rdI l' k = y at *
              go_wp2_with fail
              go_region
              all_goals
                go_wp2_with fail
                go_roundw
                case rel => exact ⟨k + 1, by omega, by go_num, row_drew (own_setCell HROW3.out HNE.out _), SlI.drew (HSET.out ((y + 1) % 256) (by omega)), (HBW3.out.setCell (p := ⟨gk, k, none⟩) hglo _).drew⟩
                case measure => simp [intOf]; omega
            · obtain ⟨cs3, hg3⟩ := ownsRow_is HROW3.out (g := gr) rfl
              have hf0 : ∀ k', (_ : World).frozen? ⟨gr, k', none⟩ = false := fun k' => blk_frozen hg3 k'
              have hq0 := (row_cells (L := Lk) (by rw [hlk]; exact HROW3.out) i hlk2).1
              have HROW4 := Lib.hid (row_setP hlk2 (by rw [hlk]; exact HROW3.out) (-7))
              have HSL4 := Lib.hid ((HSL3.out.setP i hlk2 (-7)).setR (j := i * 2) hg3 (by decide) (.int .i64 (-7)))
              have HBL4 := Lib.hid (show ∀ r ∈ Lk.set i { Lk[i] with pl := -7 }, r.b.length ≤ 1000000000 from fun r hr => by
                rcases List.mem_or_eq_of_mem_set hr with h5 | h5
                · exact HBL2.out r h5
                · subst h5
                  exact (show Lk[i].b.length ≤ 1000000000 from HBL2.out Lk[i] (List.getElem_mem hlk2)))
              have hglo : w2.heap.size ≤ gr := by omega
              have HG3 := Lib.hid hg3
              generalize Lk[i].pl = plv at hq0
              clear hg3
              go_wp2_with fail
              go_roundw
              case rel => exact ⟨i + 1, by omega, by go_num, _, by rw [List.length_set]; exact hlk, by have := HROW4.out; rw [hlk] at this; exact this, HSL4.out, HBL4.out, HBW3.out.setCell (p := ⟨gr, i * 2, none⟩) hglo _⟩
              case measure => simp [intOf]; omega
        · have HWB := Lib.hid (HB2.out.trans (HBW2.out.mono HB2.out.size))
          have HFI5 := Lib.hid (HFI2.out.below HBW2.out)
          have HFR5 := Lib.hid (HU2.out.fr.mono HBW2.out.size)
          have HU5 := Lib.hid (HU2.out.below' HBW2.out)
          go_wp2_with fail
          refine (refOf_any o2 2 B cb b ((b.length : Int) + (x.length : Int)) _ HFR5.out (HRB.out.below HWB.out) HOF.out).mono ?_
          rintro e w6 ⟨q, o6, rfl, hf6, hu6, hb6, _⟩
          rw [← HF0.out] at hf6
          have HFI6 := Lib.hid (HFI5.out.upd hu6 (by decide) (by decide))
          have HRI6 := Lib.hid hf6
          have HWB6 := Lib.hid (HWB.out.trans (hb6.mono HWB.out.size))
          have HFR6 := Lib.hid hu6.fr
          have HTX := Lib.hid (show 0 < x.length → ∀ a, X = some a → o6 a.block ≠ 2 from fun h0 a ha => by
            obtain ⟨ad, e, hc⟩ := HRX.out.2.2 h0
            rw [ha] at e
            cases e
            have hlt := World.block_lt_of_cell? w _ (hc 0 h0)
            rw [add_block] at hlt
            rw [hu6.old _ (Nat.lt_of_lt_of_le hlt HWB.out.size), HU2.out.old _ hlt]
            decide)
          have HLO6 := Lib.hid (show ∀ k, k < w.heap.size → o6 k = 0 from fun k hk => (hu6.old _ (Nat.lt_of_lt_of_le hk HWB.out.size)).trans (HU2.out.old _ hk))
          clear hf6 hu6 hb6
          go_wp2_with fail
          refine (refWrite_any o6 2 (by decide) (by decide) q F0 (b.length : Int) X cx x w6 HRI6.out HFR6.out HOK.out (by omega) (by omega) (HRX.out.below HWB6.out) HTX.out (by omega) hcx HBX.out HR0.out).mono ?_
          rintro e w7 ⟨o7, rfl, hu7, hf7⟩
          rw [← HF1.out] at hf7
          have HFI7 := Lib.hid (HFI6.out.upd hu7 (by decide) (by decide))
          have HRI7 := Lib.hid hf7
          have HB7 := Lib.hid (HWB6.out.trans (hu7.below (by decide) HWB6.out.size HLO6.out))
          clear hu7 hf7
          go_wp2_with fail
          refine (alike_any o7 1 2 p q F1 w7 HFI7.out HRI7.out (by have := HR1.out; omega) HR2.out HL1.out).mono ?_
          rintro e w8 ⟨rfl, hb8⟩
          have HB8 := Lib.hid (HB7.out.trans (hb8.mono HB7.out.size))
          clear hb8
          go_wp2_with (go_at_call 11; refine (lives03 _).mono ?_; rintro e w9 ⟨rfl, hb9⟩)
          go_ret
          exact ⟨rfl, HB8.out.trans (hb9.mono HB8.out.size)⟩
end Go.Proofs.Ytnmcmenjhmhfjaa
