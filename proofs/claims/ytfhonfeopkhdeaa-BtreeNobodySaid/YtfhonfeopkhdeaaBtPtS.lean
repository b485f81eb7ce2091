/-
  Put. No premise.
-/
import Derived.Test.YtfhonfeopkhdeaaBtZS
namespace Go.Proofs.Ytfhonfeopkhdeaa.BS
open Go.RowKit Go.Proofs.YtfhonfeopkhdeaaW.PrintWords

set_option maxRecDepth 100000 in
set_option maxHeartbeats 4000000 in
theorem Put_full (base p m h : Nat) (t : BT Ky h) (k : Ky) (v : Int) (w : World) (o : Nat → Nat) (M : Nat → Option (Nf Ky)) (b : Bm base w o p m h t M) (hm : 3 ≤ m ∧ m ≤ 64) (hk : KRd w k) (hg : getL kct k (toL h t) = none) (hl : (toL h t).length = 65536) :
    Calls Try.prog 22 #[nv p, kv k, .int .u64 v] w (PutTop base w o p m h t k v) := by
  have HB := Lib.hid b
  have HGD := Lib.hid (good_any p m _ _ w o b.at_)
  have HGT := Lib.hid (get_any p m _ h (min h 1) m t k w o M b.at_ b.tm (by omega) hk)
  obtain ⟨-, p1, -⟩ := b.at_.cells
  rw [hl] at p1
  rw [hg] at HGT
  have HG := Lib.hid hg
  have HL := Lib.hid hl
  clear hg hl b
  unfold nv at *
  go_enter Try.func22, Try.ntmps22
  go_wp2_with (first | (go_at_call 47; refine HGD.out.mono ?_; rintro e w' ⟨rfl, e2⟩; rw [e2]; clear e2 w') | (go_at_call 19; refine HGT.out.mono ?_; rintro e w1 ⟨rfl, mq, rfl⟩))
  go_ret2
  exact ⟨h, t, o, M, ⟨HB.out.at_.drewN _, HB.out.fb.drewN _, HB.out.tm.drewN _, HB.out.nd, HB.out.bp, HB.out.bn⟩, Up.quiet HB.out.fb (below_drewN w _), .inl ⟨⟨HG.out, HL.out⟩, rfl, rfl⟩⟩
theorem Bq.drewN {base : Nat} {w : World} {o : Nat → Nat} {p m sz h : Nat} {t : BT Ky h} {M : Nat → Option (Nf Ky)} (b : Bq base w o p m sz h t M) (n : Nat) : Bq base (w.drewN n) o p m sz h t M := ⟨b.at_.drewN n, b.fb.drewN n, b.tm.drewN n, b.nd, b.bp, b.bn⟩
theorem top_some {base : Nat} {w w2 : World} {o o2 : Nat → Nat} {p m h h2 : Nat} {t : BT Ky h} {t2 : BT Ky h2} {M2 : Nat → Option (Nf Ky)} {k k' : Ky} {v x : Int} (b : Bq base w2 o2 p m (toL h t).length h2 t2 M2) (u : UpB base o o2 w w2) (e : toL h2 t2 = insL kct k' v (toL h t)) (hk : kct k' = kct k) (hg : getL kct k (toL h t) = some x) :
    PutTop base w o p m h t k v (.returned (.tuple #[.bool false, .int .i64 0])) w2 := by
  refine ⟨h2, t2, o2, M2, b.m ?_, u, .inr ⟨(fun ⟨h1, _⟩ => (by rw [hg] at h1; cases h1)), by rw [hg]; rfl, k', hk, e⟩⟩
  rw [e, insL_length, getL_ct hk, hg]
  rfl
theorem top_none {base : Nat} {w w2 : World} {o o2 : Nat → Nat} {p m h h2 : Nat} {t : BT Ky h} {t2 : BT Ky h2} {M2 : Nat → Option (Nf Ky)} {k k' : Ky} {v : Int} (hf : Fb o w) (b : Bq base w2 o2 p m (toL h t).length h2 t2 M2) (u : UpB base o o2 w w2) (e : toL h2 t2 = insL kct k' v (toL h t)) (hk : kct k' = kct k) (hg : getL kct k (toL h t) = none) (hl : ¬ (toL h t).length = 65536) (s : Int) (hs : s = ((toL h t).length : Int) + 1) :
    PutTop base w o p m h t k v (.returned (.tuple #[.bool true, .int .i64 0])) (w2.setCell ⟨p, 1, none⟩ (.int .i64 s)) := by
  obtain ⟨h1, h2'⟩ := b.setSize ((toL h t).length + 1)
  have e1 : (((toL h t).length + 1 : Nat) : Int) = s := by omega
  rw [e1] at h1 h2'
  refine ⟨h2, t2, o2, M2, h1.m ?_, u.trans hf h2', .inr ⟨fun ⟨_, h1⟩ => hl h1, by rw [hg]; rfl, k', hk, e⟩⟩
  rw [e, insL_length, getL_ct hk, hg]
  rfl
set_option maxRecDepth 100000 in
set_option maxHeartbeats 4000000 in
theorem Put_go (base p m h : Nat) (t : BT Ky h) (k : Ky) (v : Int) (w : World) (o : Nat → Nat) (M : Nat → Option (Nf Ky)) (b : Bm base w o p m h t M) (hm : 3 ≤ m ∧ m ≤ 64) (hk : KRd w k) (gl : Option Int) (hg : getL kct k (toL h t) = gl) (hl : gl = none → ¬ (toL h t).length = 65536) (hlen : (toL h t).length ≤ 65536) :
    Calls Try.prog 22 #[nv p, kv k, .int .u64 v] w (PutTop base w o p m h t k v) := by
  have HB := Lib.hid b
  have HGD := Lib.hid (good_any p m _ _ w o b.at_)
  have HGT := Lib.hid (get_any p m _ h (min h 1) m t k w o M b.at_ b.tm (by omega) hk)
  have HPT := Lib.hid (fun mq => put_any p m _ _ hm k v h t (min h 1) (w.drewN mq) o M (b.at_.drewN mq) (b.fb.drewN mq) (b.tm.drewN mq) b.nd (hk.drewN mq))
  obtain ⟨-, p1, -, -, p4⟩ := b.at_.cells
  rw [hg] at HGT
  obtain ⟨s, hs⟩ : ∃ s, s = (toL h t).length := ⟨_, rfl⟩
  rw [← hs] at p1 hl hlen
  have HG := Lib.hid hg
  have HS := Lib.hid hs
  clear hg b hs
  unfold nv at *
  cases gl with
  | none =>
    have hl2 : ¬ ((s : Int) = 65536) := by have := hl rfl; omega
    have hl3 : ((s : Int) == 65536) = false := beq_eq_false_iff_ne.2 hl2
    clear hl
    go_enter Try.func22, Try.ntmps22
    go_upto_region 7 with (first | (go_at_call 47; refine HGD.out.mono ?_; rintro e w' ⟨rfl, e2⟩; rw [e2]; clear e2 w') | (go_at_call 19; refine HGT.out.mono ?_; rintro e w1 ⟨rfl, mq, rfl⟩) | (go_at_call 52; refine (HPT.out _).mono ?_; rintro e w1 ⟨rfl, k', t1, o1, M1, hR⟩; have HR := Lib.hid hR.back; clear hR))
    have HT1 := Lib.hid (show TrAt w1 o1 p m s t.id from by
      rw [HS.out]
      exact HB.out.at_.up HR.out.up (fun ⟨n, hn, e⟩ => HB.out.q.np n hn (by omega)))
    obtain ⟨xk, xv, xc, hX⟩ := HR.out.gm t1.id _ (tr_at HR.out.tr)
    obtain ⟨B1, b1, B2, b2, B3, b3, rfl, rfl, rfl, -, -, -⟩ := hX.row
    obtain ⟨x0, -, -⟩ := hX.cells
    obtain ⟨t0, t1', -, -, t4⟩ := HT1.out.cells
    have f1 := blk_frozen HT1.out.blk 1
    have hxl : (nf t1.its (kidN h t1)).ks.length = t1.its.length := List.length_map _
    rw [hxl, HR.out.id] at x0
    have HX := Lib.hid hX
    clear hX hxl p1 p4
    unfold nv at t4
    by_cases hgt : m < t1.its.length
    · have hgt' : (m : Int) < (t1.its.length : Int) := by omega
      have HRT := Lib.hid (fun nq => nd_root (w := w1.drewN nq) (HR.out.up.fb.drewN nq) t.id)
      have HTR := Lib.hid (fun nq => (HT1.out.drewN nq).up (HRT.out nq).2 id)
      have f4 : ∀ nq, (((w1.drewN nq).alloc (.cells #[.pointer (some ⟨t.id, 0, none⟩)] 61)).alloc (.cells #[.slice none 0 0, .slice none 0 0, .slice (some ⟨w1.heap.size, 0, none⟩) 1 1] 89)).frozen? ⟨p, 4, none⟩ = false := fun nq => blk_frozen (HTR.out nq).blk 4
      have f5 : ∀ nq, (((w1.drewN nq).alloc (.cells #[.pointer (some ⟨t.id, 0, none⟩)] 61)).alloc (.cells #[.slice none 0 0, .slice none 0 0, .slice (some ⟨w1.heap.size, 0, none⟩) 1 1] 89)).cell? ⟨p, 4, none⟩ = some (.pointer (some ⟨t.id, 0, none⟩)) := fun nq => (HTR.out nq).cells.2.2.2.2
      go_quiet (fail)
      go_upto_region 9 with (fail)
      have hL : t1.its.length = m + 1 := by have := HR.out.ok.len.2; omega
      have hql : (m + 1) / 2 < t1.its.length := by omega
      have hid := HR.out.id
      have hpl := blk_lt HT1.out.blk
      have hxl2 := HX.out.lt
      obtain ⟨w3, hw3⟩ : ∃ w3, w3 = ((((w1.drewN nq).alloc (.cells #[.pointer (some ⟨t.id, 0, none⟩)] 61)).alloc (.cells #[.slice none 0 0, .slice none 0 0, .slice (some ⟨w1.heap.size, 0, none⟩) 1 1] 89)).setCell ⟨p, 4, none⟩ (.pointer (some ⟨w1.heap.size + 1, 0, none⟩))) := ⟨_, rfl⟩
      rw [← hw3]
      obtain ⟨hT3, hU3⟩ := (HTR.out nq).root (HRT.out nq).2.fb (w1.heap.size + 1)
      have hN3 := (HRT.out nq).1.up hU3 (fun e => by omega) (fun e => by have : (w1.drewN nq).heap.size = w1.heap.size := rfl; omega)
      have hX3 := ((HX.out.drewN nq).up (HRT.out nq).2 id id).up hU3 (fun e => by omega) (fun e => by rw [hid] at e; exact HB.out.q.np _ (id_mem _ t) (by omega))
      have hG3 : Gm _ _ (setM M1 (w1.heap.size + 1) ⟨[], [], [t.id]⟩) := ((HR.out.gm.drewN nq).set (HRT.out nq).2 (fun _ e => e.elim) (HRT.out nq).1).apart (HTR.out nq) hU3
      have hUB : UpB base o (tgr o1 (w1.heap.size + 1) w1.heap.size) w _ := ((HR.out.up.mono (T := fun x => base + 2 ≤ x) (fun x ⟨n, hn, e⟩ => by have := HB.out.bn n hn; omega)).trans HB.out.fb ((HRT.out nq).2.mono (T := fun x => base + 2 ≤ x) (fun _ e => e.elim)).drew (fun _ e => e) (fun _ _ e => e)).trans HB.out.fb (hU3.mono (T := fun x => base + 2 ≤ x) (fun x e => by have := HB.out.bp; omega)) (fun _ e => e) (fun _ _ e => e)
      have HT3 : Hid (TrAt w3 (tgr o1 (w1.heap.size + 1) w1.heap.size) p m s (w1.heap.size + 1)) := Lib.hid (by rw [hw3]; exact hT3)
      have HN3 : Hid (NdE w3 (tgr o1 (w1.heap.size + 1) w1.heap.size) (w1.heap.size + 1) ⟨[], [], [t.id]⟩) := Lib.hid (by rw [hw3]; exact ⟨_, _, _, hN3⟩)
      have HX3 : Hid (NdE w3 (tgr o1 (w1.heap.size + 1) w1.heap.size) t1.id (nf t1.its (kidN h t1))) := Lib.hid (by rw [hw3]; exact ⟨_, _, _, hX3⟩)
      have HG3 : Hid (Gm w3 (tgr o1 (w1.heap.size + 1) w1.heap.size) (setM M1 (w1.heap.size + 1) ⟨[], [], [t.id]⟩)) := Lib.hid (by rw [hw3]; exact hG3)
      have HUB : Hid (UpB base o (tgr o1 (w1.heap.size + 1) w1.heap.size) w w3) := Lib.hid (by rw [hw3]; exact hUB)
      have HSZ : Hid (w1.heap.size ≤ w3.heap.size) := Lib.hid (by rw [hw3]; simp [World.setCell]; omega)
      have HFB3 : Hid (Fb (tgr o1 (w1.heap.size + 1) w1.heap.size) w3) := Lib.hid (by rw [hw3]; exact hU3.fb)
      clear hw3 hT3 hU3 hN3 hX3 hG3 hUB f4 f5 HRT HTR t0 t1' t4 f1 x0
      have hax : w1.heap.size + 1 ≠ t1.id := by omega
      have HSP := Lib.hid (split_any (nv p) (w1.heap.size + 1) t1.id 0 ((m + 1) / 2) (m + 1) w3 (tgr o1 (w1.heap.size + 1) w1.heap.size) ⟨[], [], [t.id]⟩ (nf t1.its (kidN h t1)) HFB3.out HN3.out HX3.out hax (by show 0 < 1; omega) (by rw [hid]; rfl) (Nat.zero_le _) rfl ⟨by show 1 ≤ 1000; omega, by show 0 ≤ 1000; omega⟩
        (by show (t1.its.map _).length = _; rw [List.length_map]; exact hL) (by show (t1.its.map _).length = _; rw [List.length_map]; exact hL) (by omega) rfl (by omega) (by
          have := kidN_len HR.out.ok
          rw [hL] at this
          exact this) (t1.its[(m + 1) / 2]).1 (t1.its[(m + 1) / 2]).2 (by show (t1.its.map _)[_]? = _; rw [List.getElem?_map, List.getElem?_eq_getElem hql]; rfl) (by show (t1.its.map _)[_]? = _; rw [List.getElem?_map, List.getElem?_eq_getElem hql]; rfl))
      have HL := Lib.hid hL
      have HID := Lib.hid hid
      obtain ⟨-, u1, -, -, u4⟩ := HT3.out.cells
      clear hL hax hid
      unfold nv at HSP u4
      have hp3 : ¬ (p + 2 = w1.heap.size + 1 + 2 ∨ p + 2 = t1.id + 2) := fun e => by
        rcases e with e | e
        · have := blk_lt HT1.out.blk; omega
        · exact HB.out.q.np _ (id_mem _ t) (by rw [← HID.out]; omega)
      have HP3 := Lib.hid hp3
      clear hp3
      go_wp2_with (go_at_call 53; refine HSP.out.mono ?_; rintro e w4 ⟨rfl, y, o4, hsp⟩; have HT4 := Lib.hid (HT3.out.up hsp.up HP3.out); obtain ⟨-, z1, -, -, -⟩ := HT4.out.cells; have z2 := blk_frozen HT4.out.blk 1)
      go_ret2
      have e1 : (⟨(nf t1.its (kidN h t1)).ks.take ((m + 1) / 2), (nf t1.its (kidN h t1)).vs.take ((m + 1) / 2), (nf t1.its (kidN h t1)).cs.take ((m + 1) / 2 + 1)⟩ : Nf Ky) = nf (t1.its.take ((m + 1) / 2)) ((kidN h t1).take ((m + 1) / 2 + 1)) := by
        unfold nf; simp [List.map_take]
      have e2 : (⟨(nf t1.its (kidN h t1)).ks.drop ((m + 1) / 2 + 1), (nf t1.its (kidN h t1)).vs.drop ((m + 1) / 2 + 1), (nf t1.its (kidN h t1)).cs.drop ((m + 1) / 2 + 1)⟩ : Nf Ky) = nf (t1.its.drop ((m + 1) / 2 + 1)) ((kidN h t1).drop ((m + 1) / 2 + 1)) := by
        unfold nf; simp [List.map_drop]
      rw [e1, e2] at hsp
      have h0 : Sp w3 (tgr o1 (w1.heap.size + 1) w1.heap.size) (w1.heap.size + 1) t1.id y (nf [t1.its[(m + 1) / 2]] [t.id, y]) _ _ w4 o4 := hsp
      have hrid : [t.id, y] = [t1.id, y] := by rw [HID.out]
      rw [hrid] at h0
      have hbq : Bq base w o p m s h t M := by rw [HS.out]; exact HB.out.q
      obtain ⟨M4, hq, hu⟩ := root_fin hbq (by omega) HR.out HL.out rfl hql (Nat.le_succ _) HSZ.out HT3.out HG3.out HUB.out h0
      rw [HS.out] at hq
      exact top_none HB.out.fb hq hu ((rooted_toL _ HR.out.ok y hql).trans HR.out.li) HR.out.kk HG.out (by rw [← HS.out]; omega) _ (by rw [← HS.out])
    · have hgt' : decide ((m : Int) < (t1.its.length : Int)) = false := decide_eq_false (by omega)
      have hgt2 : ¬ ((m : Int) < (t1.its.length : Int)) := by omega
      go_quiet (fail)
      go_wp2_with fail
      go_ret2
      obtain ⟨hq, hu⟩ := top_same HB.out.q (by omega) HR.out (by omega)
      exact top_none HB.out.fb (hq.drewN _) (hu.trans HB.out.fb (Up.quiet hq.fb (below_drewN w1 _))) HR.out.li HR.out.kk HG.out (by rw [← HS.out]; omega) _ (by rw [← HS.out])
  | some x =>
    clear hl
    go_enter Try.func22, Try.ntmps22
    go_upto_region 7 with (first | (go_at_call 47; refine HGD.out.mono ?_; rintro e w' ⟨rfl, e2⟩; rw [e2]; clear e2 w') | (go_at_call 19; refine HGT.out.mono ?_; rintro e w1 ⟨rfl, mq, rfl⟩) | (go_at_call 52; refine (HPT.out _).mono ?_; rintro e w1 ⟨rfl, k', t1, o1, M1, hR⟩; have HR := Lib.hid hR.back; clear hR))
    have HT1 := Lib.hid (show TrAt w1 o1 p m s t.id from by
      rw [HS.out]
      exact HB.out.at_.up HR.out.up (fun ⟨n, hn, e⟩ => HB.out.q.np n hn (by omega)))
    obtain ⟨xk, xv, xc, hX⟩ := HR.out.gm t1.id _ (tr_at HR.out.tr)
    obtain ⟨B1, b1, B2, b2, B3, b3, rfl, rfl, rfl, -, -, -⟩ := hX.row
    obtain ⟨x0, -, -⟩ := hX.cells
    obtain ⟨t0, t1', -, -, t4⟩ := HT1.out.cells
    have f1 := blk_frozen HT1.out.blk 1
    have hxl : (nf t1.its (kidN h t1)).ks.length = t1.its.length := List.length_map _
    rw [hxl, HR.out.id] at x0
    have HX := Lib.hid hX
    clear hX hxl p1 p4
    unfold nv at t4
    by_cases hgt : m < t1.its.length
    · have hgt' : (m : Int) < (t1.its.length : Int) := by omega
      have HRT := Lib.hid (fun nq => nd_root (w := w1.drewN nq) (HR.out.up.fb.drewN nq) t.id)
      have HTR := Lib.hid (fun nq => (HT1.out.drewN nq).up (HRT.out nq).2 id)
      have f4 : ∀ nq, (((w1.drewN nq).alloc (.cells #[.pointer (some ⟨t.id, 0, none⟩)] 61)).alloc (.cells #[.slice none 0 0, .slice none 0 0, .slice (some ⟨w1.heap.size, 0, none⟩) 1 1] 89)).frozen? ⟨p, 4, none⟩ = false := fun nq => blk_frozen (HTR.out nq).blk 4
      have f5 : ∀ nq, (((w1.drewN nq).alloc (.cells #[.pointer (some ⟨t.id, 0, none⟩)] 61)).alloc (.cells #[.slice none 0 0, .slice none 0 0, .slice (some ⟨w1.heap.size, 0, none⟩) 1 1] 89)).cell? ⟨p, 4, none⟩ = some (.pointer (some ⟨t.id, 0, none⟩)) := fun nq => (HTR.out nq).cells.2.2.2.2
      go_quiet (fail)
      go_upto_region 9 with (fail)
      have hL : t1.its.length = m + 1 := by have := HR.out.ok.len.2; omega
      have hql : (m + 1) / 2 < t1.its.length := by omega
      have hid := HR.out.id
      have hpl := blk_lt HT1.out.blk
      have hxl2 := HX.out.lt
      obtain ⟨w3, hw3⟩ : ∃ w3, w3 = ((((w1.drewN nq).alloc (.cells #[.pointer (some ⟨t.id, 0, none⟩)] 61)).alloc (.cells #[.slice none 0 0, .slice none 0 0, .slice (some ⟨w1.heap.size, 0, none⟩) 1 1] 89)).setCell ⟨p, 4, none⟩ (.pointer (some ⟨w1.heap.size + 1, 0, none⟩))) := ⟨_, rfl⟩
      rw [← hw3]
      obtain ⟨hT3, hU3⟩ := (HTR.out nq).root (HRT.out nq).2.fb (w1.heap.size + 1)
      have hN3 := (HRT.out nq).1.up hU3 (fun e => by omega) (fun e => by have : (w1.drewN nq).heap.size = w1.heap.size := rfl; omega)
      have hX3 := ((HX.out.drewN nq).up (HRT.out nq).2 id id).up hU3 (fun e => by omega) (fun e => by rw [hid] at e; exact HB.out.q.np _ (id_mem _ t) (by omega))
      have hG3 : Gm _ _ (setM M1 (w1.heap.size + 1) ⟨[], [], [t.id]⟩) := ((HR.out.gm.drewN nq).set (HRT.out nq).2 (fun _ e => e.elim) (HRT.out nq).1).apart (HTR.out nq) hU3
      have hUB : UpB base o (tgr o1 (w1.heap.size + 1) w1.heap.size) w _ := ((HR.out.up.mono (T := fun x => base + 2 ≤ x) (fun x ⟨n, hn, e⟩ => by have := HB.out.bn n hn; omega)).trans HB.out.fb ((HRT.out nq).2.mono (T := fun x => base + 2 ≤ x) (fun _ e => e.elim)).drew (fun _ e => e) (fun _ _ e => e)).trans HB.out.fb (hU3.mono (T := fun x => base + 2 ≤ x) (fun x e => by have := HB.out.bp; omega)) (fun _ e => e) (fun _ _ e => e)
      have HT3 : Hid (TrAt w3 (tgr o1 (w1.heap.size + 1) w1.heap.size) p m s (w1.heap.size + 1)) := Lib.hid (by rw [hw3]; exact hT3)
      have HN3 : Hid (NdE w3 (tgr o1 (w1.heap.size + 1) w1.heap.size) (w1.heap.size + 1) ⟨[], [], [t.id]⟩) := Lib.hid (by rw [hw3]; exact ⟨_, _, _, hN3⟩)
      have HX3 : Hid (NdE w3 (tgr o1 (w1.heap.size + 1) w1.heap.size) t1.id (nf t1.its (kidN h t1))) := Lib.hid (by rw [hw3]; exact ⟨_, _, _, hX3⟩)
      have HG3 : Hid (Gm w3 (tgr o1 (w1.heap.size + 1) w1.heap.size) (setM M1 (w1.heap.size + 1) ⟨[], [], [t.id]⟩)) := Lib.hid (by rw [hw3]; exact hG3)
      have HUB : Hid (UpB base o (tgr o1 (w1.heap.size + 1) w1.heap.size) w w3) := Lib.hid (by rw [hw3]; exact hUB)
      have HSZ : Hid (w1.heap.size ≤ w3.heap.size) := Lib.hid (by rw [hw3]; simp [World.setCell]; omega)
      have HFB3 : Hid (Fb (tgr o1 (w1.heap.size + 1) w1.heap.size) w3) := Lib.hid (by rw [hw3]; exact hU3.fb)
      clear hw3 hT3 hU3 hN3 hX3 hG3 hUB f4 f5 HRT HTR t0 t1' t4 f1 x0
      have hax : w1.heap.size + 1 ≠ t1.id := by omega
      have HSP := Lib.hid (split_any (nv p) (w1.heap.size + 1) t1.id 0 ((m + 1) / 2) (m + 1) w3 (tgr o1 (w1.heap.size + 1) w1.heap.size) ⟨[], [], [t.id]⟩ (nf t1.its (kidN h t1)) HFB3.out HN3.out HX3.out hax (by show 0 < 1; omega) (by rw [hid]; rfl) (Nat.zero_le _) rfl ⟨by show 1 ≤ 1000; omega, by show 0 ≤ 1000; omega⟩
        (by show (t1.its.map _).length = _; rw [List.length_map]; exact hL) (by show (t1.its.map _).length = _; rw [List.length_map]; exact hL) (by omega) rfl (by omega) (by
          have := kidN_len HR.out.ok
          rw [hL] at this
          exact this) (t1.its[(m + 1) / 2]).1 (t1.its[(m + 1) / 2]).2 (by show (t1.its.map _)[_]? = _; rw [List.getElem?_map, List.getElem?_eq_getElem hql]; rfl) (by show (t1.its.map _)[_]? = _; rw [List.getElem?_map, List.getElem?_eq_getElem hql]; rfl))
      have HL := Lib.hid hL
      have HID := Lib.hid hid
      obtain ⟨-, u1, -, -, u4⟩ := HT3.out.cells
      clear hL hax hid
      unfold nv at HSP u4
      have hp3 : ¬ (p + 2 = w1.heap.size + 1 + 2 ∨ p + 2 = t1.id + 2) := fun e => by
        rcases e with e | e
        · have := blk_lt HT1.out.blk; omega
        · exact HB.out.q.np _ (id_mem _ t) (by rw [← HID.out]; omega)
      have HP3 := Lib.hid hp3
      clear hp3
      go_wp2_with (go_at_call 53; refine HSP.out.mono ?_; rintro e w4 ⟨rfl, y, o4, hsp⟩; have HT4 := Lib.hid (HT3.out.up hsp.up HP3.out); obtain ⟨-, z1, -, -, -⟩ := HT4.out.cells; have z2 := blk_frozen HT4.out.blk 1)
      go_ret2
      have e1 : (⟨(nf t1.its (kidN h t1)).ks.take ((m + 1) / 2), (nf t1.its (kidN h t1)).vs.take ((m + 1) / 2), (nf t1.its (kidN h t1)).cs.take ((m + 1) / 2 + 1)⟩ : Nf Ky) = nf (t1.its.take ((m + 1) / 2)) ((kidN h t1).take ((m + 1) / 2 + 1)) := by
        unfold nf; simp [List.map_take]
      have e2 : (⟨(nf t1.its (kidN h t1)).ks.drop ((m + 1) / 2 + 1), (nf t1.its (kidN h t1)).vs.drop ((m + 1) / 2 + 1), (nf t1.its (kidN h t1)).cs.drop ((m + 1) / 2 + 1)⟩ : Nf Ky) = nf (t1.its.drop ((m + 1) / 2 + 1)) ((kidN h t1).drop ((m + 1) / 2 + 1)) := by
        unfold nf; simp [List.map_drop]
      rw [e1, e2] at hsp
      have h0 : Sp w3 (tgr o1 (w1.heap.size + 1) w1.heap.size) (w1.heap.size + 1) t1.id y (nf [t1.its[(m + 1) / 2]] [t.id, y]) _ _ w4 o4 := hsp
      have hrid : [t.id, y] = [t1.id, y] := by rw [HID.out]
      rw [hrid] at h0
      have hbq : Bq base w o p m s h t M := by rw [HS.out]; exact HB.out.q
      obtain ⟨M4, hq, hu⟩ := root_fin hbq (by omega) HR.out HL.out rfl hql (Nat.le_succ _) HSZ.out HT3.out HG3.out HUB.out h0
      rw [HS.out] at hq
      exact top_some hq hu ((rooted_toL _ HR.out.ok y hql).trans HR.out.li) HR.out.kk HG.out
    · have hgt' : decide ((m : Int) < (t1.its.length : Int)) = false := decide_eq_false (by omega)
      have hgt2 : ¬ ((m : Int) < (t1.its.length : Int)) := by omega
      go_quiet (fail)
      go_wp2_with fail
      go_ret2
      obtain ⟨hq, hu⟩ := top_same HB.out.q (by omega) HR.out (by omega)
      exact top_some (hq.drewN _) (hu.trans HB.out.fb (Up.quiet hq.fb (below_drewN w1 _))) HR.out.li HR.out.kk HG.out
end Go.Proofs.Ytfhonfeopkhdeaa.BS
