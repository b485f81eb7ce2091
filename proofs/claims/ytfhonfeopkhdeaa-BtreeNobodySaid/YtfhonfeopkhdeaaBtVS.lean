/-
  put, where the key is to come into a leaf. No premise.
-/
import Derived.Test.YtfhonfeopkhdeaaBtUS
import Derived.Deep.RegionLaw
import Derived.Deep.AppendLies
namespace Go.Proofs.Ytfhonfeopkhdeaa.BS
open Go.RowKit Go.Proofs.YtfhonfeopkhdeaaW.PrintWords

theorem rw_slice {w : World} {e : TypeId} {v : Value} {xs : List Value} (h : Rw w e v xs) : ∃ A n c, v = .slice A n c := by
  obtain ⟨A, c, e, _⟩ := h.form
  exact ⟨A, _, c, e⟩
theorem nw_back {W w : World} {v v' : Value} (h : Nw W v v') (hs : w.heap.size ≤ W.heap.size) : Nw w v v' := h.imp id fun ⟨g, e, h⟩ => ⟨g, e, Nat.le_trans hs h⟩
theorem grown_of {w w1 w2 : World} {row : Option Nat} (hb : Below w.heap.size w w1) (h : w1.grownBy w2 row) : w.grownBy w2 row :=
  ⟨h.os.trans hb.os, h.tape.trans hb.tape, h.output.trans hb.output, Nat.le_trans hb.size h.size, fun b hb3 hne => (h.block b (Nat.lt_of_lt_of_le hb3 hb.size) hne).trans (hb.block b hb3)⟩
theorem mid_plain {w w1 w2 : World} {o : Nat → Nat} {v v' : Value} (hf : Fb o w) (hb : Below w.heap.size w w1) (hg : w1.grownBy w2 v.ownBlock) (hn : Nw w1 v v') : Mid o o w w2 v v' :=
  ⟨grown_of hb hg, fun _ _ => rfl, hf.mono (Nat.le_trans hb.size hg.size), hn.imp id fun ⟨g, e, h⟩ => ⟨g, e, Nat.le_trans hb.size h, hf.end_ g (Nat.le_trans hb.size h)⟩⟩
theorem mid_key {w w0 w1 w2 : World} {o : Nat → Nat} {n : Nat} {vk vv vc v' : Value} {F : Nf Ky} {k' : Ky} (h : NdAt w o n vk vv vc F) (hf : Fb o w) (h0 : Below w.heap.size w w0) (hs : w0.heap.size = w.heap.size) (hb : Below w.heap.size w w1) (hk : KNew w0 w1 k') (hg : w1.grownBy w2 vk.ownBlock) (hn : Nw w1 vk v') : Mid o (ktg o k') w w2 vk v' ∧ KOk w2 (ktg o k') k' := by
  obtain ⟨a, b, c, d⟩ := hk o (fun b hb => hf.end_ b (by omega))
  rw [hs] at b
  have hsz := hb.size
  have hsz2 := hg.size
  refine ⟨⟨grown_of hb hg, b, ⟨fun x hx => c x (by omega), fun x => ?_⟩, hn.imp id fun ⟨g, e, h⟩ => ⟨g, e, by omega, c g h⟩⟩, a.keep fun x hx ht => ⟨hg.block x hx (fun e => ?_), ht⟩⟩
  · have := hf.le x
    rcases d x with e | e <;> rw [e]
    · omega
    · have := h.lt; omega
  · have h1 := h.tk x e.symm
    rw [b x (h.rk.lt e.symm), h1] at ht
    omega
/-- One key more, laid into the row of keys. -/
theorem key_ins {w : World} {o : Nat → Nat} {n : Nat} {vk vv vc : Value} {F : Nf Ky} (hn : NdAt w o n vk vv vc F) (hl : F.ks.length ≤ 1000000) {i : Nat} (hi : i ≤ F.ks.length) (w1 : World) (k' : Ky) (hb : Below w.heap.size w w1) :
    Calls Try.prog 76 #[vk, .int .i64 i, .slice (some ⟨w1.heap.size, 0, none⟩) 1 1] (w1.alloc (.cells #[kv k'] 9)) fun e w2 => ∃ v', e = .returned v' ∧ Rw w2 9 v' (ksR (F.ks.take i ++ k' :: F.ks.drop i)) ∧ w1.grownBy w2 vk.ownBlock ∧ Nw w1 vk v' := by
  have hb2 : Below w.heap.size w (w1.alloc (.cells #[kv k'] 9)) := hb.alloc hb.size _
  have hr : Rw (w1.alloc (.cells #[kv k'] 9)) 9 vk (ksR F.ks) := hn.rk.keep fun g _ hl => hb2.block g hl
  have hkl : (ksR F.ks).length = F.ks.length := List.length_map _
  refine (insS_any vk (ksR F.ks) i (kv k') w1.heap.size _ hr (ksR_one _) (kv_one k') (by omega) (by omega) (by show (w1.heap.push _)[w1.heap.size]? = _; simp) (fun e => ?_)).mono ?_
  · have := hn.rk.lt e.symm
    have := hb.size
    omega
  · rintro e w2 ⟨v', rfl, h1, h2, h3⟩
    refine ⟨v', rfl, ?_, ?_, nw_back h3 (by simp)⟩
    · have e : ksR (F.ks.take i ++ k' :: F.ks.drop i) = (ksR F.ks).take i ++ kv k' :: (ksR F.ks).drop i := by simp [ksR, List.map_take, List.map_drop]
      rw [e]; exact h1
    · exact grown_of ((Below.refl w1.heap.size w1).alloc (Nat.le_refl _) _) h2
theorem val_ins {w : World} {o : Nat → Nat} {n : Nat} {vk vv vc : Value} {F : Nf Ky} (hn : NdAt w o n vk vv vc F) (hl : F.vs.length ≤ 1000000) {i : Nat} (hi : i ≤ F.vs.length) (w1 : World) (x : Int) (hb : Below w.heap.size w w1) :
    Calls Try.prog 77 #[vv, .int .i64 i, .slice (some ⟨w1.heap.size, 0, none⟩) 1 1] (w1.alloc (.cells #[.int .u64 x] 38)) fun e w2 => ∃ v', e = .returned v' ∧ Rw w2 38 v' (vsR (F.vs.take i ++ x :: F.vs.drop i)) ∧ w1.grownBy w2 vv.ownBlock ∧ Nw w1 vv v' := by
  have hb2 : Below w.heap.size w (w1.alloc (.cells #[.int .u64 x] 38)) := hb.alloc hb.size _
  have hr : Rw (w1.alloc (.cells #[.int .u64 x] 38)) 38 vv (vsR F.vs) := hn.rv.keep fun g _ hl => hb2.block g hl
  have hkl : (vsR F.vs).length = F.vs.length := List.length_map _
  refine (insU_any vv (vsR F.vs) i (.int .u64 x) w1.heap.size _ hr (vsR_one _) rfl (by omega) (by omega) (by show (w1.heap.push _)[w1.heap.size]? = _; simp) (fun e => ?_)).mono ?_
  · have := hn.rv.lt e.symm
    have := hb.size
    omega
  · rintro e w2 ⟨v', rfl, h1, h2, h3⟩
    refine ⟨v', rfl, ?_, ?_, nw_back h3 (by simp)⟩
    · have e : vsR (F.vs.take i ++ x :: F.vs.drop i) = (vsR F.vs).take i ++ .int .u64 x :: (vsR F.vs).drop i := by simp [vsR, List.map_take, List.map_drop]
      rw [e]; exact h1
    · exact grown_of ((Below.refl w1.heap.size w1).alloc (Nat.le_refl _) _) h2
theorem kid_ins {w : World} {o : Nat → Nat} {n : Nat} {vk vv vc : Value} {F : Nf Ky} (hn : NdAt w o n vk vv vc F) (hl : F.cs.length ≤ 1000000) {i : Nat} (hi : i ≤ F.cs.length) (w1 : World) (x : Nat) (hb : Below w.heap.size w w1) :
    Calls Try.prog 81 #[vc, .int .i64 i, .slice (some ⟨w1.heap.size, 0, none⟩) 1 1] (w1.alloc (.cells #[nv x] 61)) fun e w2 => ∃ v', e = .returned v' ∧ Rw w2 61 v' (csR (F.cs.take i ++ x :: F.cs.drop i)) ∧ w1.grownBy w2 vc.ownBlock ∧ Nw w1 vc v' := by
  have hb2 : Below w.heap.size w (w1.alloc (.cells #[nv x] 61)) := hb.alloc hb.size _
  have hr : Rw (w1.alloc (.cells #[nv x] 61)) 61 vc (csR F.cs) := hn.rc.keep fun g _ hl => hb2.block g hl
  have hkl : (csR F.cs).length = F.cs.length := List.length_map _
  refine (insN_any vc (csR F.cs) i (nv x) w1.heap.size _ hr (csR_one _) rfl (by omega) (by omega) (by show (w1.heap.push _)[w1.heap.size]? = _; simp) (fun e => ?_)).mono ?_
  · have := hn.rc.lt e.symm
    have := hb.size
    omega
  · rintro e w2 ⟨v', rfl, h1, h2, h3⟩
    refine ⟨v', rfl, ?_, ?_, nw_back h3 (by simp)⟩
    · have e : csR (F.cs.take i ++ x :: F.cs.drop i) = (csR F.cs).take i ++ nv x :: (csR F.cs).drop i := by simp [csR, List.map_take, List.map_drop]
      rw [e]; exact h1
    · exact grown_of ((Below.refl w1.heap.size w1).alloc (Nat.le_refl _) _) h2
theorem NdAt.hold {w W : World} {o : Nat → Nat} {n : Nat} {vk vv vc : Value} {F : Nf Ky} (h : NdAt w o n vk vv vc F) {row : Option Nat} (hg : w.grownBy W row) (hne : row ≠ some n) : W.cell? ⟨n, 0, none⟩ = some vk ∧ W.cell? ⟨n, 1, none⟩ = some vv ∧ W.cell? ⟨n, 2, none⟩ = some vc ∧ (∀ j, W.frozen? ⟨n, j, none⟩ = false) := by
  have hb := blk_grown h.blk hg (fun e => hne e.symm)
  refine ⟨?_, ?_, ?_, blk_frozen hb⟩ <;> rw [blk_cell hb] <;> rfl
theorem NdAt.nek {w : World} {o : Nat → Nat} {n : Nat} {vk vv vc : Value} {F : Nf Ky} (h : NdAt w o n vk vv vc F) : vk.ownBlock ≠ some n ∧ vv.ownBlock ≠ some n ∧ vc.ownBlock ≠ some n := by
  refine ⟨fun e => ?_, fun e => ?_, fun e => ?_⟩
  · obtain ⟨cur, hc⟩ := h.rk.blk e
    exact blk_ne hc h.blk (by decide) rfl
  · obtain ⟨cur, hc⟩ := h.rv.blk e
    exact blk_ne hc h.blk (by decide) rfl
  · obtain ⟨cur, hc⟩ := h.rc.blk e
    exact blk_ne hc h.blk (by decide) rfl
theorem below_grown {w W : World} (h : Below w.heap.size w W) (row : Option Nat) : w.grownBy W row := ⟨h.os, h.tape, h.output, h.size, fun k hk _ => h.block k hk⟩
theorem below_drewN (w : World) (n : Nat) : Below w.heap.size w (w.drewN n) := ⟨rfl, rfl, rfl, Nat.le_refl _, fun _ _ => rfl⟩
theorem lo_ct {A : List (Ky × Int)} {k k' : Ky} (e : kct k' = kct k) (h : Lo kct A k) : Lo kct A k' := fun x hx => by
  have := h x hx
  unfold kc at *
  rw [e]; exact this
theorem hi_ct {A : List (Ky × Int)} {k k' : Ky} (e : kct k' = kct k) (h : Hi kct A k) : Hi kct A k' := fun x hx => by
  have := h x hx
  unfold kc at *
  rw [e]; exact this
theorem leaf_fin {w w' : World} {o o' : Nat → Nat} {M : Nat → Option (Nf Ky)} {m lo : Nat} {t : BT Ky 0} {k k' : Ky} {v : Int} {vk vv vc : Value} (T : Tm w o M 0 m lo m t) {i : Nat} (ha : At kct t.its k i false) (hU : Up (· = t.id + 2) o o' w w')
    (hN : NdAt w' o' t.id vk vv vc ⟨(nf t.its (kidN 0 t)).ks.take i ++ k' :: (nf t.its (kidN 0 t)).ks.drop i, (nf t.its (kidN 0 t)).vs.take i ++ v :: (nf t.its (kidN 0 t)).vs.drop i, (nf t.its (kidN 0 t)).cs⟩) (hk : kct k' = kct k) :
    PutP w o M 0 t m lo k v (.returned (.tuple #[])) w' := by
  obtain ⟨A, B, e, hl, hlo, hhi⟩ := ha.not
  have hF : (⟨(nf t.its (kidN 0 t)).ks.take i ++ k' :: (nf t.its (kidN 0 t)).ks.drop i, (nf t.its (kidN 0 t)).vs.take i ++ v :: (nf t.its (kidN 0 t)).vs.drop i, (nf t.its (kidN 0 t)).cs⟩ : Nf Ky) = nf (A ++ (k', v) :: B) [] := by
    subst hl
    unfold nf
    simp [e, kidN]
  rw [hF] at hN
  have hlen : (A ++ (k', v) :: B).length = t.its.length + 1 := by rw [e]; simp; omega
  have hok := T.ok
  refine ⟨rfl, k', ⟨t.id, A ++ (k', v) :: B, t.cs⟩, o', setM M t.id (nf (A ++ (k', v) :: B) []), ⟨hk, rfl, ⟨?_, ?_⟩, ?_, T.gm.set hU (fun _ e => e) hN, setM_same _ _ _, List.pairwise_singleton _ _, fun n hn => .inl hn, hU.mono (fun x e => ⟨t.id, List.mem_singleton.2 rfl, e⟩), fun n hn _ => setM_other M _ (fun e => hn (List.mem_singleton.2 e))⟩⟩
  · show lo ≤ (A ++ (k', v) :: B).length
    have := hok.1; omega
  · show (A ++ (k', v) :: B).length ≤ m + 1
    have := hok.2; omega
  · show A ++ (k', v) :: B = insL kct k' v t.its
    rw [e]
    exact (insL_new (lo_ct hk hlo) (hi_ct hk hhi)).symm
set_option maxRecDepth 100000 in
set_option maxHeartbeats 4000000 in
theorem put_leaf (p m sz q : Nat) (lo : Nat) (t : BT Ky 0) (k : Ky) (v : Int) (w : World) (o : Nat → Nat) (M : Nat → Option (Nf Ky)) (ht : TrAt w o p m sz q) (hf : Fb o w) (T : Tm w o M 0 m lo m t) (hm : m ≤ 64) (hk : KRd w k) {i : Nat} (ha : At kct t.its k i false) :
    Calls Try.prog 52 #[nv p, nv t.id, kv k, .int .u64 v] w (PutP w o M 0 t m lo k v) := by
  obtain ⟨vk, vv, vc, hn, hs, hl⟩ := T.top
  have HF := Lib.hid (find_at p m sz q t.id vk vv vc t.its _ k w o ht hn (by omega) hs hk ha)
  have d2 := hn.cells.2.2
  obtain ⟨A, c, A', c', A'', c'', rfl, rfl, rfl, q1, q2, q3⟩ := hn.row
  have HN := Lib.hid hn
  have HT := Lib.hid ht
  have HTT := Lib.hid T
  have HFB := Lib.hid hf
  have HA := Lib.hid ha
  have HK := Lib.hid hk
  have hz : (nf t.its (kidN 0 t)).cs.length = 0 := rfl
  rw [hz] at d2
  generalize (nf t.its (kidN 0 t)).ks.length = nk at HN q1
  generalize (nf t.its (kidN 0 t)).vs.length = nn at HN q2
  generalize (nf t.its (kidN 0 t)).cs.length = nc at HN q3
  clear hn hs ht T ha hf hk hz
  unfold nv at *
  go_enter Try.func52, Try.ntmps52
  go_wp2_with (go_at_call 49; refine HF.out.mono ?_; rintro e w1 ⟨rfl, mq, rfl⟩)
  have HB0 := Lib.hid (show Below w.heap.size w (w.drewN mq).drew from (below_drewN w mq).drew)
  have HCL := Lib.hid (show ∀ W, Below w.heap.size w W → W.cell? ⟨t.id, 0, none⟩ = some (.slice A nk c) from fun W hW => (HN.out.hold (below_grown hW none) (by simp)).1)
  have c1 := HN.out.cells.1
  have c2 := HT.out.cells.2.2.2.1
  have HKI := Lib.hid (fun w1 k' (hb : Below w.heap.size w w1) => key_ins HN.out (by show (t.its.map _).length ≤ _; rw [List.length_map]; omega) (i := i) (by show i ≤ (t.its.map _).length; rw [List.length_map]; exact HA.out.le) w1 k' hb)
  have HOW := Lib.hid (kown_any k (w.drewN mq).drew ((HK.out.drewN mq).below ((Below.refl _ _).drew) (Nat.le_refl _)))
  go_region_law (first
    | (go_simp; go_at_call 51; refine HOW.out.mono ?_; rintro e w1 ⟨k', rfl, hk1, hb1, hk2⟩; have HB1 := Lib.hid (HB0.out.trans (hb1.mono (Nat.le_refl _))); have c3 := HCL.out _ HB1.out; have HI := Lib.hid (HKI.out w1 k' HB1.out); have c4 := HCL.out _ (HB1.out.alloc HB1.out.size (.cells #[kv k'] 9)); unfold kv at HI c4 ⊢)
    | (go_simp; go_at_call 76; refine HI.out.mono ?_; rintro e w2 ⟨vk', rfl, hr2, hg2, hn2⟩; obtain ⟨Ak, lk, ck, rfl⟩ := rw_slice hr2; obtain ⟨c5, c6, c7, c8⟩ := HN.out.hold (grown_of HB1.out hg2) HN.out.nek.1; have c9 := c8 0))
  all_goals
    obtain ⟨hmid, hko⟩ := mid_key HN.out HFB.out HB0.out rfl HB1.out hk2 hg2 hn2
    obtain ⟨hN3, hU3⟩ := HN.out.sk hmid hr2 (fun x hx => by
      rcases List.mem_append.1 hx with h | h
      · exact .inl (List.mem_of_mem_take h)
      · rcases List.mem_cons.1 h with rfl | h
        · exact .inr hko
        · exact .inl (List.mem_of_mem_drop h))
    have HN3 := Lib.hid hN3
    have HU3 := Lib.hid hU3
    have HK1 := Lib.hid hk1
    clear hmid hko hN3 hU3 c1 c3 c4 HI HOW HKI HCL hk2 hg2 hn2 hr2 c7 c8 c9 hk1 hb1
    obtain ⟨w3, hw3⟩ : ∃ w3, w3 = w2.setCell ⟨t.id, 0, none⟩ (.slice Ak lk ck) := ⟨_, rfl⟩
    rw [← hw3] at HN3 HU3 ⊢
    have c10 := HN3.out.cells.2.1
    have c11 := blk_frozen HN3.out.blk 1
    clear hw3 c5 c6
    have HVI := Lib.hid (val_ins HN3.out (by show (t.its.map _).length ≤ _; rw [List.length_map]; omega) (i := i) (by show i ≤ (t.its.map _).length; rw [List.length_map]; exact HA.out.le) w3 v (Below.refl _ _))
    go_wp2_with (go_at_call 77; refine HVI.out.mono ?_; rintro e w4 ⟨vv', rfl, hr4, hg4, hn4⟩; obtain ⟨Av, lv, cv, rfl⟩ := rw_slice hr4; obtain ⟨e5, e6, e7, e8⟩ := HN3.out.hold hg4 HN3.out.nek.2.1; have e9 := e8 1)
    obtain ⟨hN5, hU5⟩ := HN3.out.sv (mid_plain HU3.out.fb (Below.refl _ _) hg4 hn4) hr4
    go_end0
    exact leaf_fin HTT.out HA.out (HU3.out.trans HFB.out hU5 (fun _ e => e) (fun _ _ e => e)) hN5 HK1.out
end Go.Proofs.Ytfhonfeopkhdeaa.BS
