/-
  Put: the whole tree; a new root. No premise.
  Put. No premise.
  A new tree. No premise.
  Nodes of a tree of names, told in order. No premise.
-/
import Derived.Test.YtfhonfeopkhdeaaBtYC
import Derived.Deep.AppendLies
namespace Go.Proofs.Ytfhonfeopkhdeaa.BC
open Go.RowKit Go.Proofs.YtfhonfeopkhdeaaW.PrintWords

/-- A tree that some calls made: its own block p, its nodes, all at base or behind it. -/
structure Bm (base : Nat) (w : World) (o : Nat → Nat) (p m h : Nat) (t : BT Ky h) (M : Nat → Option (Nf Ky)) : Prop where
  at_ : TrAt w o p m (toL h t).length t.id
  fb : Fb o w
  tm : Tm w o M h m (min h 1) m t
  nd : (ids h t).Nodup
  bp : base ≤ p
  bn : ∀ n ∈ ids h t, base ≤ n
abbrev UpB (base : Nat) := Up (fun x => base + 2 ≤ x)
theorem UpB.trans {base : Nat} {o o' o'' : Nat → Nat} {a b c : World} (hf : Fb o a) (h : UpB base o o' a b) (k : UpB base o' o'' b c) : UpB base o o'' a c := Up.trans hf h k (fun _ e => e) (fun _ _ e => e)
theorem top_blk (W : World) (cs : Array Value) (t : TypeId) : (W.alloc (.cells cs t)).heap[W.heap.size]? = some (.cells cs t (0, 0)) := by
  show (W.heap.push _)[W.heap.size]? = _
  simp
/-- The tags, a root having been made. -/
def tgr (o : Nat → Nat) (r g : Nat) : Nat → Nat := fun b => if b = r ∨ b = g then r + 2 else o b
/-- A root without keys over a node. -/
theorem nd_root {w : World} {o : Nat → Nat} (hf : Fb o w) (c : Nat) :
    NdAt ((w.alloc (.cells #[nv c] 100)).alloc (.cells #[.slice none 0 0, .slice none 0 0, .slice (some ⟨w.heap.size, 0, none⟩) 1 1] 106)) (tgr o (w.heap.size + 1) w.heap.size) (w.heap.size + 1) (.slice none 0 0) (.slice none 0 0) (.slice (some ⟨w.heap.size, 0, none⟩) 1 1) ⟨[], [], [c]⟩ ∧
    Up (fun _ => False) o (tgr o (w.heap.size + 1) w.heap.size) w ((w.alloc (.cells #[nv c] 100)).alloc (.cells #[.slice none 0 0, .slice none 0 0, .slice (some ⟨w.heap.size, 0, none⟩) 1 1] 106)) := by
  have hB1 : Below w.heap.size w (w.alloc (.cells #[nv c] 100)) := (Below.refl _ _).alloc (Nat.le_refl _) _
  have hs1 : (w.alloc (.cells #[nv c] 100)).heap.size = w.heap.size + 1 := by simp
  have hB2 : Below w.heap.size w ((w.alloc (.cells #[nv c] 100)).alloc (.cells #[.slice none 0 0, .slice none 0 0, .slice (some ⟨w.heap.size, 0, none⟩) 1 1] 106)) := hB1.alloc (by omega) _
  have hs2 : ((w.alloc (.cells #[nv c] 100)).alloc (.cells #[.slice none 0 0, .slice none 0 0, .slice (some ⟨w.heap.size, 0, none⟩) 1 1] 106)).heap.size = w.heap.size + 2 := by simp
  have hg : ((w.alloc (.cells #[nv c] 100)).alloc (.cells #[.slice none 0 0, .slice none 0 0, .slice (some ⟨w.heap.size, 0, none⟩) 1 1] 106)).heap[w.heap.size]? = some (.cells #[nv c] 100 (0, 0)) := by
    rw [Below.heap_alloc _ _ _ (by omega)]
    show (w.heap.push _)[w.heap.size]? = _
    simp
  have hr : ((w.alloc (.cells #[nv c] 100)).alloc (.cells #[.slice none 0 0, .slice none 0 0, .slice (some ⟨w.heap.size, 0, none⟩) 1 1] 106)).heap[w.heap.size + 1]? = some (.cells #[.slice none 0 0, .slice none 0 0, .slice (some ⟨w.heap.size, 0, none⟩) 1 1] 106 (0, 0)) := by
    have h := top_blk (w.alloc (.cells #[nv c] 100)) #[.slice none 0 0, .slice none 0 0, .slice (some ⟨w.heap.size, 0, none⟩) 1 1] 106
    rw [hs1] at h
    exact h
  refine ⟨⟨hr, if_pos (.inl rfl), Rw.nil _ _, Rw.nil _ _, Rw.mk (xs := [nv c]) hg (Nat.le_refl _) (Nat.le_refl _) (by simp [maxLen]) rfl, (fun g e => by cases e), (fun g e => by cases e), fun g e => ?_, fun k hk => by cases hk⟩, ⟨hB2.os, hB2.tape, hB2.output, hB2.size, fun b hb _ => hB2.block b hb, fun b hb => ?_, ⟨fun b hb => ?_, fun b => ?_⟩⟩⟩
  · injection e with e
    exact if_pos (.inr e.symm)
  · exact if_neg (by omega)
  · rw [hs2] at hb
    exact (if_neg (by omega)).trans (hf.end_ b (by omega))
  · rw [hs2]
    have := hf.le b
    unfold tgr
    split <;> omega
/-- What is left by a put into the whole tree. -/
def PutTop (base : Nat) (w : World) (o : Nat → Nat) (p m h : Nat) (t : BT Ky h) (k : Ky) (v : Int) (e : Ending) (w' : World) : Prop :=
  ∃ (h' : Nat) (t' : BT Ky h') (o' : Nat → Nat) (M' : Nat → Option (Nf Ky)), Bm base w' o' p m h' t' M' ∧ UpB base o o' w w' ∧
    (((getL kct k (toL h t) = none ∧ (toL h t).length = 65536) ∧ e = .returned (.tuple #[.bool false, .int .i64 7]) ∧ toL h' t' = toL h t) ∨
      (¬ (getL kct k (toL h t) = none ∧ (toL h t).length = 65536) ∧ e = .returned (.tuple #[.bool (getL kct k (toL h t)).isNone, .int .i64 0]) ∧ ∃ k', kct k' = kct k ∧ toL h' t' = insL kct k' v (toL h t)))
theorem getL_ct {l : List (Ky × Int)} {k k' : Ky} (e : kct k' = kct k) : getL kct k' l = getL kct k l := by
  induction l with
  | nil => rfl
  | cons a r ih =>
    have h : kc kct k' a.1 = kc kct k a.1 := by unfold kc; rw [e]
    rw [getL, getL, h, ih]
/-- The tree's block with another size and root. -/
theorem TrAt.root {w : World} {o : Nat → Nat} {p m sz q : Nat} (h : TrAt w o p m sz q) (hf : Fb o w) (r : Nat) : TrAt (w.setCell ⟨p, 4, none⟩ (nv r)) o p m sz r ∧ Up (· = p + 2) o o w (w.setCell ⟨p, 4, none⟩ (nv r)) := by
  refine ⟨⟨?_, h.tg⟩, rfl, rfl, rfl, by simp [World.setCell], fun b _ hS => Below.heap_setCell w ⟨p, 4, none⟩ _ b (fun e => hS (by rw [show b = p from e, h.tg])), fun _ _ => rfl, hf.mono (by simp [World.setCell])⟩
  have := blk_set h.blk 4 (nv r)
  exact this
theorem TrAt.size {w : World} {o : Nat → Nat} {p m sz q : Nat} (h : TrAt w o p m sz q) (hf : Fb o w) (s : Nat) : TrAt (w.setCell ⟨p, 1, none⟩ (.int .i64 s)) o p m s q ∧ Up (· = p + 2) o o w (w.setCell ⟨p, 1, none⟩ (.int .i64 s)) := by
  refine ⟨⟨?_, h.tg⟩, rfl, rfl, rfl, by simp [World.setCell], fun b _ hS => Below.heap_setCell w ⟨p, 1, none⟩ _ b (fun e => hS (by rw [show b = p from e, h.tg])), fun _ _ => rfl, hf.mono (by simp [World.setCell])⟩
  have := blk_set h.blk 1 (.int .i64 s)
  exact this
/-- The same with a size that is told. -/
structure Bq (base : Nat) (w : World) (o : Nat → Nat) (p m sz h : Nat) (t : BT Ky h) (M : Nat → Option (Nf Ky)) : Prop where
  at_ : TrAt w o p m sz t.id
  fb : Fb o w
  tm : Tm w o M h m (min h 1) m t
  nd : (ids h t).Nodup
  bp : base ≤ p
  bn : ∀ n ∈ ids h t, base ≤ n
theorem Bm.q {base : Nat} {w : World} {o : Nat → Nat} {p m h : Nat} {t : BT Ky h} {M : Nat → Option (Nf Ky)} (b : Bm base w o p m h t M) : Bq base w o p m (toL h t).length h t M := ⟨b.at_, b.fb, b.tm, b.nd, b.bp, b.bn⟩
theorem Bq.m {base : Nat} {w : World} {o : Nat → Nat} {p m sz h : Nat} {t : BT Ky h} {M : Nat → Option (Nf Ky)} (b : Bq base w o p m sz h t M) (e : sz = (toL h t).length) : Bm base w o p m h t M := ⟨e ▸ b.at_, b.fb, b.tm, b.nd, b.bp, b.bn⟩
theorem Bq.np {base : Nat} {w : World} {o : Nat → Nat} {p m sz h : Nat} {t : BT Ky h} {M : Nat → Option (Nf Ky)} (b : Bq base w o p m sz h t M) : ∀ n ∈ ids h t, n ≠ p := fun n hn e => by
  obtain ⟨F, hF⟩ := tr_ids b.tm.tr n hn
  obtain ⟨_, _, _, hnd⟩ := b.tm.gm n F hF
  exact b.at_.ne hnd e.symm
theorem Tm.up {w w' : World} {o o' : Nat → Nat} {M : Nat → Option (Nf Ky)} {h m lo hi : Nat} {t : BT Ky h} (T : Tm w o M h m lo hi t) (g : Gm w' o' M) : Tm w' o' M h m lo hi t := ⟨g, T.tr, T.ok, T.le, T.ss⟩
/-- A step that turns the tree's own block alone. -/
theorem Gm.apart {w w' : World} {o o' : Nat → Nat} {M : Nat → Option (Nf Ky)} {p m sz q : Nat} (g : Gm w o M) (ht : TrAt w o p m sz q) (u : Up (· = p + 2) o o' w w') : Gm w' o' M := fun n F hF => by
  obtain ⟨vk, vv, vc, hn⟩ := g n F hF
  exact ⟨vk, vv, vc, hn.up u (fun e => by omega) (fun e => ht.ne hn (by omega))⟩
theorem Bq.setSize {base : Nat} {w : World} {o : Nat → Nat} {p m sz h : Nat} {t : BT Ky h} {M : Nat → Option (Nf Ky)} (b : Bq base w o p m sz h t M) (s : Nat) : Bq base (w.setCell ⟨p, 1, none⟩ (.int .i64 s)) o p m s h t M ∧ UpB base o o w (w.setCell ⟨p, 1, none⟩ (.int .i64 s)) := by
  obtain ⟨h1, h2⟩ := b.at_.size b.fb s
  exact ⟨⟨h1, h2.fb, b.tm.up (b.tm.gm.apart b.at_ h2), b.nd, b.bp, b.bn⟩, h2.mono (fun x e => by have := b.bp; omega)⟩
theorem top_same {base : Nat} {w w1 : World} {o o1 : Nat → Nat} {p m sz h : Nat} {t t1 : BT Ky h} {M M1 : Nat → Option (Nf Ky)} {k k' : Ky} {v : Int} (b : Bq base w o p m sz h t M) (hm : m ≤ 1000) (R : PutR w o M h t m (min h 1) k v w1 k' t1 o1 M1) (hle : t1.its.length ≤ m) :
    Bq base w1 o1 p m sz h t1 M1 ∧ UpB base o o1 w w1 := by
  have hnp := b.np
  refine ⟨⟨?_, R.up.fb, ⟨R.gm, R.tr, R.ok.weaken R.ok.len.1 hle, hm, ?_⟩, R.nd, b.bp, fun n hn => ?_⟩, R.up.mono (fun x ⟨n, hn, e⟩ => by have := b.bn n hn; omega)⟩
  · rw [R.id]
    exact b.at_.up R.up (fun ⟨n, hn, e⟩ => hnp n hn (by omega))
  · rw [R.li]
    exact insL_sorted b.tm.ss
  · rcases R.fr n hn with h1 | h1
    · exact b.bn n h1
    · have h2 := b.tm.lt t.id (id_mem h t)
      have h3 := b.bn t.id (id_mem h t)
      omega
/-- The tree when its root has been parted below a new one. -/
def rooted {h : Nat} (r : Nat) (t1 : BT Ky h) (q y : Nat) (b : Ky × Int) : BT Ky (h + 1) := ⟨r, [b], ([halfL t1 q, halfR y t1 q] : List (BT Ky h))⟩
theorem rooted_toL {m h lo hi : Nat} (r : Nat) {t1 : BT Ky h} (ho : OkT m h lo hi t1) {q : Nat} (y : Nat) (hq : q < t1.its.length) : toL (h + 1) (rooted r t1 q y t1.its[q]) = toL h t1 := by
  rw [toL_half ho y hq]
  rfl
theorem root_fin {base : Nat} {w w1 w3 w4 : World} {o o1 o3 o4 : Nat → Nat} {p m sz h r y q : Nat} {t t1 : BT Ky h} {M M1 : Nat → Option (Nf Ky)} {F0 : Nf Ky} {k k' : Ky} {v : Int} (b : Bq base w o p m sz h t M) (hm : 3 ≤ m ∧ m ≤ 1000) (R : PutR w o M h t m (min h 1) k v w1 k' t1 o1 M1) (hgt : t1.its.length = m + 1) (hq : q = (m + 1) / 2) (hql : q < t1.its.length)
    (hr : w1.heap.size ≤ r) (h13 : w1.heap.size ≤ w3.heap.size) (hT3 : TrAt w3 o3 p m sz r) (hG3 : Gm w3 o3 (setM M1 r F0)) (hU3 : UpB base o o3 w w3)
    (hsp : Sp w3 o3 r t1.id y (nf [t1.its[q]] [t1.id, y]) (nf (t1.its.take q) ((kidN h t1).take (q + 1))) (nf (t1.its.drop (q + 1)) ((kidN h t1).drop (q + 1))) w4 o4) :
    ∃ M4, Bq base w4 o4 p m sz (h + 1) (rooted r t1 q y t1.its[q]) M4 ∧ UpB base o o4 w w4 := by
  have hnp := b.np
  have hwb : base ≤ w.heap.size := by
    have h2 := b.tm.lt t.id (id_mem h t)
    have h3 := b.bn t.id (id_mem h t)
    omega
  have hww := R.up.size
  have hlt1 := R.lt
  have hfr1 : ∀ n ∈ ids h t1, base ≤ n := fun n hn => by
    rcases R.fr n hn with h1 | h1
    · exact b.bn n h1
    · omega
  have hyw := hsp.yn
  have hnp1 : t1.id ≠ p := by rw [R.id]; exact hnp _ (id_mem h t)
  have hrp : r ≠ p := fun e => by have := blk_lt b.at_.blk; omega
  have hrx : r ≠ t1.id := fun e => by have := hlt1 t1.id (id_mem h t1); omega
  have hyx : t1.id ≠ y := fun e => by have := hlt1 t1.id (id_mem h t1); omega
  have hry : r ≠ y := fun e => by
    have : r < w3.heap.size := hG3.lt (setM_same M1 r F0)
    omega
  have hpy : y ≠ p := fun e => by have := blk_lt hT3.blk; omega
  have hM1 : ∀ n ∈ ids h t1, n ≠ t1.id → setM (setM (setM (setM M1 r F0) y (nf (t1.its.drop (q + 1)) ((kidN h t1).drop (q + 1)))) t1.id (nf (t1.its.take q) ((kidN h t1).take (q + 1)))) r (nf [t1.its[q]] [t1.id, y]) n = M1 n := fun n hn hne => by
    have h1 := hlt1 n hn
    rw [setM_other _ _ (show n ≠ r from by omega), setM_other _ _ hne, setM_other _ _ (show n ≠ y from by omega), setM_other _ _ (show n ≠ r from by omega)]
  have hat := tr_at R.tr
  have hkc : ∀ cs, M1 t1.id = some (nf t1.its cs) → kidN h t1 = cs := fun cs e => by
    rw [hat] at e
    exact congrArg Nf.cs (Option.some.inj e)
  have hp := half_ids y t1 q
  have hids : ids (h + 1) (rooted r t1 q y t1.its[q]) = r :: (ids h (halfL t1 q) ++ ids h (halfR y t1 q)) := by
    show r :: ([halfL t1 q, halfR y t1 q] : List (BT Ky h)).flatMap (ids h) = _
    simp
  have hmem : ∀ n, n ∈ ids h (halfL t1 q) ++ ids h (halfR y t1 q) → n = y ∨ n ∈ ids h t1 := fun n hn => List.mem_cons.1 (hp.mem_iff.1 hn)
  obtain ⟨ok1, ok2⟩ := half_ok R.ok y hql
  refine ⟨_, ⟨hT3.up hsp.up (fun e => by omega), hsp.up.fb, ⟨hsp.gm hG3, ⟨setM_same _ _ _, fun d hd => ?_⟩, ⟨⟨by show min (h + 1) 1 ≤ 1; omega, by show 1 ≤ m; omega⟩, rfl, fun d hd => ?_⟩, hm.2, ?_⟩, ?_, b.bp, fun n hn => ?_⟩, hU3.trans b.fb (hsp.up.mono (fun x e => ?_))⟩
  · have hd2 : d ∈ [halfL t1 q, halfR y t1 q] := hd
    simp only [List.mem_cons, List.not_mem_nil, or_false] at hd2
    rcases hd2 with rfl | rfl
    · refine tr_halfL R.tr R.nd hM1 fun cs e => ?_
      rw [setM_other _ _ (Ne.symm hrx), setM_same, hkc cs e]
    · refine tr_halfR R.tr R.nd hM1 fun cs e => ?_
      rw [setM_other _ _ (Ne.symm hry), setM_other _ _ (Ne.symm hyx), setM_same, hkc cs e]
  · have hd2 : d ∈ [halfL t1 q, halfR y t1 q] := hd
    simp only [List.mem_cons, List.not_mem_nil, or_false] at hd2
    rcases hd2 with rfl | rfl
    · exact ok1.weaken (by have := ok1.len; omega) (by have := ok1.len; omega)
    · exact ok2.weaken (by have := ok2.len; omega) (by have := ok2.len; omega)
  · rw [rooted_toL r R.ok y hql, R.li]
    exact insL_sorted b.tm.ss
  · rw [hids]
    refine List.nodup_cons.2 ⟨fun hm => ?_, hp.nodup_iff.2 (List.nodup_cons.2 ⟨fun hm => ?_, R.nd⟩)⟩
    · rcases hmem r hm with h1 | h1
      · exact hry h1
      · have := hlt1 r h1; omega
    · have := hlt1 y hm; omega
  · rw [hids] at hn
    rcases List.mem_cons.1 hn with rfl | hn
    · omega
    · rcases hmem n hn with h1 | h1
      · omega
      · exact hfr1 n h1
  · rcases e with e | e
    · omega
    · have := hfr1 t1.id (id_mem h t1); omega
end Go.Proofs.Ytfhonfeopkhdeaa.BC

namespace Go.Proofs.Ytfhonfeopkhdeaa.BC
open Go.RowKit Go.Proofs.YtfhonfeopkhdeaaW.PrintWords

set_option maxRecDepth 100000 in
set_option maxHeartbeats 4000000 in
theorem Put_full (base p m h : Nat) (t : BT Ky h) (k : Ky) (v : Int) (w : World) (o : Nat → Nat) (M : Nat → Option (Nf Ky)) (b : Bm base w o p m h t M) (hm : 3 ≤ m ∧ m ≤ 64) (hk : KRd w k) (hg : getL kct k (toL h t) = none) (hl : (toL h t).length = 65536) :
    Calls Try.prog 32 #[nv p, kv k, .int .u64 v] w (PutTop base w o p m h t k v) := by
  have HB := Lib.hid b
  have HGD := Lib.hid (good_any p m _ _ w o b.at_)
  have HGT := Lib.hid (get_any p m _ h (min h 1) m t k w o M b.at_ b.tm (by omega) hk)
  obtain ⟨-, p1, -⟩ := b.at_.cells
  rw [hl] at p1
  rw [hg] at HGT
  have HG := Lib.hid hg
  have HL := Lib.hid hl
  clear hg hl b
  unfold nv at *
  go_enter Try.func32, Try.ntmps32
  go_wp2_with (first | (go_at_call 63; refine HGD.out.mono ?_; rintro e w' ⟨rfl, e2⟩; rw [e2]; clear e2 w') | (go_at_call 34; refine HGT.out.mono ?_; rintro e w1 ⟨rfl, mq, rfl⟩))
  go_ret2
  exact ⟨h, t, o, M, ⟨HB.out.at_.drewN _, HB.out.fb.drewN _, HB.out.tm.drewN _, HB.out.nd, HB.out.bp, HB.out.bn⟩, Up.quiet HB.out.fb (below_drewN w _), .inl ⟨⟨HG.out, HL.out⟩, rfl, rfl⟩⟩
theorem Bq.drewN {base : Nat} {w : World} {o : Nat → Nat} {p m sz h : Nat} {t : BT Ky h} {M : Nat → Option (Nf Ky)} (b : Bq base w o p m sz h t M) (n : Nat) : Bq base (w.drewN n) o p m sz h t M := ⟨b.at_.drewN n, b.fb.drewN n, b.tm.drewN n, b.nd, b.bp, b.bn⟩
theorem top_some {base : Nat} {w w2 : World} {o o2 : Nat → Nat} {p m h h2 : Nat} {t : BT Ky h} {t2 : BT Ky h2} {M2 : Nat → Option (Nf Ky)} {k k' : Ky} {v x : Int} (b : Bq base w2 o2 p m (toL h t).length h2 t2 M2) (u : UpB base o o2 w w2) (e : toL h2 t2 = insL kct k' v (toL h t)) (hk : kct k' = kct k) (hg : getL kct k (toL h t) = some x) :
    PutTop base w o p m h t k v (.returned (.tuple #[.bool false, .int .i64 0])) w2 := by
  refine ⟨h2, t2, o2, M2, b.m ?_, u, .inr ⟨(fun ⟨h1, _⟩ => (by rw [hg] at h1; cases h1)), by rw [hg]; rfl, k', hk, e⟩⟩
  rw [e, insL_length, getL_ct hk, hg]
  rfl
theorem top_none {base : Nat} {w w2 : World} {o o2 : Nat → Nat} {p m h h2 : Nat} {t : BT Ky h} {t2 : BT Ky h2} {M2 : Nat → Option (Nf Ky)} {k k' : Ky} {v : Int} (hf : Fb o w) (b : Bq base w2 o2 p m (toL h t).length h2 t2 M2) (u : UpB base o o2 w w2) (e : toL h2 t2 = insL kct k' v (toL h t)) (hk : kct k' = kct k) (hg : getL kct k (toL h t) = none) (hl : ¬ (toL h t).length = 65536) (s : Int) (hs : s = ((toL h t).length : Int) + 1) :
    PutTop base w o p m h t k v (.returned (.tuple #[.bool true, .int .i64 0])) (w2.setCell ⟨p, 1, none⟩ (.int .i64 s)) := by
  obtain ⟨h1, h2'⟩ := b.setSize ((toL h t).length + 1)
  have e1 : (((toL h t).length + 1 : Nat) : Int) = s := by omega
  rw [e1] at h1 h2'
  refine ⟨h2, t2, o2, M2, h1.m ?_, u.trans hf h2', .inr ⟨fun ⟨_, h1⟩ => hl h1, by rw [hg]; rfl, k', hk, e⟩⟩
  rw [e, insL_length, getL_ct hk, hg]
  rfl
set_option maxRecDepth 100000 in
set_option maxHeartbeats 4000000 in
theorem Put_go (base p m h : Nat) (t : BT Ky h) (k : Ky) (v : Int) (w : World) (o : Nat → Nat) (M : Nat → Option (Nf Ky)) (b : Bm base w o p m h t M) (hm : 3 ≤ m ∧ m ≤ 64) (hk : KRd w k) (gl : Option Int) (hg : getL kct k (toL h t) = gl) (hl : gl = none → ¬ (toL h t).length = 65536) (hlen : (toL h t).length ≤ 65536) :
    Calls Try.prog 32 #[nv p, kv k, .int .u64 v] w (PutTop base w o p m h t k v) := by
  have HB := Lib.hid b
  have HGD := Lib.hid (good_any p m _ _ w o b.at_)
  have HGT := Lib.hid (get_any p m _ h (min h 1) m t k w o M b.at_ b.tm (by omega) hk)
  have HPT := Lib.hid (fun mq => put_any p m _ _ hm k v h t (min h 1) (w.drewN mq) o M (b.at_.drewN mq) (b.fb.drewN mq) (b.tm.drewN mq) b.nd (hk.drewN mq))
  obtain ⟨-, p1, -, -, p4⟩ := b.at_.cells
  rw [hg] at HGT
  obtain ⟨s, hs⟩ : ∃ s, s = (toL h t).length := ⟨_, rfl⟩
  rw [← hs] at p1 hl hlen
  have HG := Lib.hid hg
  have HS := Lib.hid hs
  clear hg b hs
  unfold nv at *
  cases gl with
  | none =>
    have hl2 : ¬ ((s : Int) = 65536) := by have := hl rfl; omega
    have hl3 : ((s : Int) == 65536) = false := beq_eq_false_iff_ne.2 hl2
    clear hl
    go_enter Try.func32, Try.ntmps32
    go_upto_region 7 with (first | (go_at_call 63; refine HGD.out.mono ?_; rintro e w' ⟨rfl, e2⟩; rw [e2]; clear e2 w') | (go_at_call 34; refine HGT.out.mono ?_; rintro e w1 ⟨rfl, mq, rfl⟩) | (go_at_call 64; refine (HPT.out _).mono ?_; rintro e w1 ⟨rfl, k', t1, o1, M1, hR⟩; have HR := Lib.hid hR.back; clear hR))
    have HT1 := Lib.hid (show TrAt w1 o1 p m s t.id from by
      rw [HS.out]
      exact HB.out.at_.up HR.out.up (fun ⟨n, hn, e⟩ => HB.out.q.np n hn (by omega)))
    obtain ⟨xk, xv, xc, hX⟩ := HR.out.gm t1.id _ (tr_at HR.out.tr)
    obtain ⟨B1, b1, B2, b2, B3, b3, rfl, rfl, rfl, -, -, -⟩ := hX.row
    obtain ⟨x0, -, -⟩ := hX.cells
    obtain ⟨t0, t1', -, -, t4⟩ := HT1.out.cells
    have f1 := blk_frozen HT1.out.blk 1
    have hxl : (nf t1.its (kidN h t1)).ks.length = t1.its.length := List.length_map _
    rw [hxl, HR.out.id] at x0
    have HX := Lib.hid hX
    clear hX hxl p1 p4
    unfold nv at t4
    by_cases hgt : m < t1.its.length
    · have hgt' : (m : Int) < (t1.its.length : Int) := by omega
      have HRT := Lib.hid (fun nq => nd_root (w := w1.drewN nq) (HR.out.up.fb.drewN nq) t.id)
      have HTR := Lib.hid (fun nq => (HT1.out.drewN nq).up (HRT.out nq).2 id)
      have f4 : ∀ nq, (((w1.drewN nq).alloc (.cells #[.pointer (some ⟨t.id, 0, none⟩)] 100)).alloc (.cells #[.slice none 0 0, .slice none 0 0, .slice (some ⟨w1.heap.size, 0, none⟩) 1 1] 106)).frozen? ⟨p, 4, none⟩ = false := fun nq => blk_frozen (HTR.out nq).blk 4
      have f5 : ∀ nq, (((w1.drewN nq).alloc (.cells #[.pointer (some ⟨t.id, 0, none⟩)] 100)).alloc (.cells #[.slice none 0 0, .slice none 0 0, .slice (some ⟨w1.heap.size, 0, none⟩) 1 1] 106)).cell? ⟨p, 4, none⟩ = some (.pointer (some ⟨t.id, 0, none⟩)) := fun nq => (HTR.out nq).cells.2.2.2.2
      go_quiet (fail)
      go_upto_region 9 with (fail)
      have hL : t1.its.length = m + 1 := by have := HR.out.ok.len.2; omega
      have hql : (m + 1) / 2 < t1.its.length := by omega
      have hid := HR.out.id
      have hpl := blk_lt HT1.out.blk
      have hxl2 := HX.out.lt
      obtain ⟨w3, hw3⟩ : ∃ w3, w3 = ((((w1.drewN nq).alloc (.cells #[.pointer (some ⟨t.id, 0, none⟩)] 100)).alloc (.cells #[.slice none 0 0, .slice none 0 0, .slice (some ⟨w1.heap.size, 0, none⟩) 1 1] 106)).setCell ⟨p, 4, none⟩ (.pointer (some ⟨w1.heap.size + 1, 0, none⟩))) := ⟨_, rfl⟩
      rw [← hw3]
      obtain ⟨hT3, hU3⟩ := (HTR.out nq).root (HRT.out nq).2.fb (w1.heap.size + 1)
      have hN3 := (HRT.out nq).1.up hU3 (fun e => by omega) (fun e => by have : (w1.drewN nq).heap.size = w1.heap.size := rfl; omega)
      have hX3 := ((HX.out.drewN nq).up (HRT.out nq).2 id id).up hU3 (fun e => by omega) (fun e => by rw [hid] at e; exact HB.out.q.np _ (id_mem _ t) (by omega))
      have hG3 : Gm _ _ (setM M1 (w1.heap.size + 1) ⟨[], [], [t.id]⟩) := ((HR.out.gm.drewN nq).set (HRT.out nq).2 (fun _ e => e.elim) (HRT.out nq).1).apart (HTR.out nq) hU3
      have hUB : UpB base o (tgr o1 (w1.heap.size + 1) w1.heap.size) w _ := ((HR.out.up.mono (T := fun x => base + 2 ≤ x) (fun x ⟨n, hn, e⟩ => by have := HB.out.bn n hn; omega)).trans HB.out.fb ((HRT.out nq).2.mono (T := fun x => base + 2 ≤ x) (fun _ e => e.elim)).drew (fun _ e => e) (fun _ _ e => e)).trans HB.out.fb (hU3.mono (T := fun x => base + 2 ≤ x) (fun x e => by have := HB.out.bp; omega)) (fun _ e => e) (fun _ _ e => e)
      have HT3 : Hid (TrAt w3 (tgr o1 (w1.heap.size + 1) w1.heap.size) p m s (w1.heap.size + 1)) := Lib.hid (by rw [hw3]; exact hT3)
      have HN3 : Hid (NdE w3 (tgr o1 (w1.heap.size + 1) w1.heap.size) (w1.heap.size + 1) ⟨[], [], [t.id]⟩) := Lib.hid (by rw [hw3]; exact ⟨_, _, _, hN3⟩)
      have HX3 : Hid (NdE w3 (tgr o1 (w1.heap.size + 1) w1.heap.size) t1.id (nf t1.its (kidN h t1))) := Lib.hid (by rw [hw3]; exact ⟨_, _, _, hX3⟩)
      have HG3 : Hid (Gm w3 (tgr o1 (w1.heap.size + 1) w1.heap.size) (setM M1 (w1.heap.size + 1) ⟨[], [], [t.id]⟩)) := Lib.hid (by rw [hw3]; exact hG3)
      have HUB : Hid (UpB base o (tgr o1 (w1.heap.size + 1) w1.heap.size) w w3) := Lib.hid (by rw [hw3]; exact hUB)
      have HSZ : Hid (w1.heap.size ≤ w3.heap.size) := Lib.hid (by rw [hw3]; simp [World.setCell]; omega)
      have HFB3 : Hid (Fb (tgr o1 (w1.heap.size + 1) w1.heap.size) w3) := Lib.hid (by rw [hw3]; exact hU3.fb)
      clear hw3 hT3 hU3 hN3 hX3 hG3 hUB f4 f5 HRT HTR t0 t1' t4 f1 x0
      have hax : w1.heap.size + 1 ≠ t1.id := by omega
      have HSP := Lib.hid (split_any (nv p) (w1.heap.size + 1) t1.id 0 ((m + 1) / 2) (m + 1) w3 (tgr o1 (w1.heap.size + 1) w1.heap.size) ⟨[], [], [t.id]⟩ (nf t1.its (kidN h t1)) HFB3.out HN3.out HX3.out hax (by show 0 < 1; omega) (by rw [hid]; rfl) (Nat.zero_le _) rfl ⟨by show 1 ≤ 1000; omega, by show 0 ≤ 1000; omega⟩
        (by show (t1.its.map _).length = _; rw [List.length_map]; exact hL) (by show (t1.its.map _).length = _; rw [List.length_map]; exact hL) (by omega) rfl (by omega) (by
          have := kidN_len HR.out.ok
          rw [hL] at this
          exact this) (t1.its[(m + 1) / 2]).1 (t1.its[(m + 1) / 2]).2 (by show (t1.its.map _)[_]? = _; rw [List.getElem?_map, List.getElem?_eq_getElem hql]; rfl) (by show (t1.its.map _)[_]? = _; rw [List.getElem?_map, List.getElem?_eq_getElem hql]; rfl))
      have HL := Lib.hid hL
      have HID := Lib.hid hid
      obtain ⟨-, u1, -, -, u4⟩ := HT3.out.cells
      clear hL hax hid
      unfold nv at HSP u4
      have hp3 : ¬ (p + 2 = w1.heap.size + 1 + 2 ∨ p + 2 = t1.id + 2) := fun e => by
        rcases e with e | e
        · have := blk_lt HT1.out.blk; omega
        · exact HB.out.q.np _ (id_mem _ t) (by rw [← HID.out]; omega)
      have HP3 := Lib.hid hp3
      clear hp3
      go_wp2_with (go_at_call 65; refine HSP.out.mono ?_; rintro e w4 ⟨rfl, y, o4, hsp⟩; have HT4 := Lib.hid (HT3.out.up hsp.up HP3.out); obtain ⟨-, z1, -, -, -⟩ := HT4.out.cells; have z2 := blk_frozen HT4.out.blk 1)
      go_ret2
      have e1 : (⟨(nf t1.its (kidN h t1)).ks.take ((m + 1) / 2), (nf t1.its (kidN h t1)).vs.take ((m + 1) / 2), (nf t1.its (kidN h t1)).cs.take ((m + 1) / 2 + 1)⟩ : Nf Ky) = nf (t1.its.take ((m + 1) / 2)) ((kidN h t1).take ((m + 1) / 2 + 1)) := by
        unfold nf; simp [List.map_take]
      have e2 : (⟨(nf t1.its (kidN h t1)).ks.drop ((m + 1) / 2 + 1), (nf t1.its (kidN h t1)).vs.drop ((m + 1) / 2 + 1), (nf t1.its (kidN h t1)).cs.drop ((m + 1) / 2 + 1)⟩ : Nf Ky) = nf (t1.its.drop ((m + 1) / 2 + 1)) ((kidN h t1).drop ((m + 1) / 2 + 1)) := by
        unfold nf; simp [List.map_drop]
      rw [e1, e2] at hsp
      have h0 : Sp w3 (tgr o1 (w1.heap.size + 1) w1.heap.size) (w1.heap.size + 1) t1.id y (nf [t1.its[(m + 1) / 2]] [t.id, y]) _ _ w4 o4 := hsp
      have hrid : [t.id, y] = [t1.id, y] := by rw [HID.out]
      rw [hrid] at h0
      have hbq : Bq base w o p m s h t M := by rw [HS.out]; exact HB.out.q
      obtain ⟨M4, hq, hu⟩ := root_fin hbq (by omega) HR.out HL.out rfl hql (Nat.le_succ _) HSZ.out HT3.out HG3.out HUB.out h0
      rw [HS.out] at hq
      exact top_none HB.out.fb hq hu ((rooted_toL _ HR.out.ok y hql).trans HR.out.li) HR.out.kk HG.out (by rw [← HS.out]; omega) _ (by rw [← HS.out])
    · have hgt' : decide ((m : Int) < (t1.its.length : Int)) = false := decide_eq_false (by omega)
      have hgt2 : ¬ ((m : Int) < (t1.its.length : Int)) := by omega
      go_quiet (fail)
      go_wp2_with fail
      go_ret2
      obtain ⟨hq, hu⟩ := top_same HB.out.q (by omega) HR.out (by omega)
      exact top_none HB.out.fb (hq.drewN _) (hu.trans HB.out.fb (Up.quiet hq.fb (below_drewN w1 _))) HR.out.li HR.out.kk HG.out (by rw [← HS.out]; omega) _ (by rw [← HS.out])
  | some x =>
    clear hl
    go_enter Try.func32, Try.ntmps32
    go_upto_region 7 with (first | (go_at_call 63; refine HGD.out.mono ?_; rintro e w' ⟨rfl, e2⟩; rw [e2]; clear e2 w') | (go_at_call 34; refine HGT.out.mono ?_; rintro e w1 ⟨rfl, mq, rfl⟩) | (go_at_call 64; refine (HPT.out _).mono ?_; rintro e w1 ⟨rfl, k', t1, o1, M1, hR⟩; have HR := Lib.hid hR.back; clear hR))
    have HT1 := Lib.hid (show TrAt w1 o1 p m s t.id from by
      rw [HS.out]
      exact HB.out.at_.up HR.out.up (fun ⟨n, hn, e⟩ => HB.out.q.np n hn (by omega)))
    obtain ⟨xk, xv, xc, hX⟩ := HR.out.gm t1.id _ (tr_at HR.out.tr)
    obtain ⟨B1, b1, B2, b2, B3, b3, rfl, rfl, rfl, -, -, -⟩ := hX.row
    obtain ⟨x0, -, -⟩ := hX.cells
    obtain ⟨t0, t1', -, -, t4⟩ := HT1.out.cells
    have f1 := blk_frozen HT1.out.blk 1
    have hxl : (nf t1.its (kidN h t1)).ks.length = t1.its.length := List.length_map _
    rw [hxl, HR.out.id] at x0
    have HX := Lib.hid hX
    clear hX hxl p1 p4
    unfold nv at t4
    by_cases hgt : m < t1.its.length
    · have hgt' : (m : Int) < (t1.its.length : Int) := by omega
      have HRT := Lib.hid (fun nq => nd_root (w := w1.drewN nq) (HR.out.up.fb.drewN nq) t.id)
      have HTR := Lib.hid (fun nq => (HT1.out.drewN nq).up (HRT.out nq).2 id)
      have f4 : ∀ nq, (((w1.drewN nq).alloc (.cells #[.pointer (some ⟨t.id, 0, none⟩)] 100)).alloc (.cells #[.slice none 0 0, .slice none 0 0, .slice (some ⟨w1.heap.size, 0, none⟩) 1 1] 106)).frozen? ⟨p, 4, none⟩ = false := fun nq => blk_frozen (HTR.out nq).blk 4
      have f5 : ∀ nq, (((w1.drewN nq).alloc (.cells #[.pointer (some ⟨t.id, 0, none⟩)] 100)).alloc (.cells #[.slice none 0 0, .slice none 0 0, .slice (some ⟨w1.heap.size, 0, none⟩) 1 1] 106)).cell? ⟨p, 4, none⟩ = some (.pointer (some ⟨t.id, 0, none⟩)) := fun nq => (HTR.out nq).cells.2.2.2.2
      go_quiet (fail)
      go_upto_region 9 with (fail)
      have hL : t1.its.length = m + 1 := by have := HR.out.ok.len.2; omega
      have hql : (m + 1) / 2 < t1.its.length := by omega
      have hid := HR.out.id
      have hpl := blk_lt HT1.out.blk
      have hxl2 := HX.out.lt
      obtain ⟨w3, hw3⟩ : ∃ w3, w3 = ((((w1.drewN nq).alloc (.cells #[.pointer (some ⟨t.id, 0, none⟩)] 100)).alloc (.cells #[.slice none 0 0, .slice none 0 0, .slice (some ⟨w1.heap.size, 0, none⟩) 1 1] 106)).setCell ⟨p, 4, none⟩ (.pointer (some ⟨w1.heap.size + 1, 0, none⟩))) := ⟨_, rfl⟩
      rw [← hw3]
      obtain ⟨hT3, hU3⟩ := (HTR.out nq).root (HRT.out nq).2.fb (w1.heap.size + 1)
      have hN3 := (HRT.out nq).1.up hU3 (fun e => by omega) (fun e => by have : (w1.drewN nq).heap.size = w1.heap.size := rfl; omega)
      have hX3 := ((HX.out.drewN nq).up (HRT.out nq).2 id id).up hU3 (fun e => by omega) (fun e => by rw [hid] at e; exact HB.out.q.np _ (id_mem _ t) (by omega))
      have hG3 : Gm _ _ (setM M1 (w1.heap.size + 1) ⟨[], [], [t.id]⟩) := ((HR.out.gm.drewN nq).set (HRT.out nq).2 (fun _ e => e.elim) (HRT.out nq).1).apart (HTR.out nq) hU3
      have hUB : UpB base o (tgr o1 (w1.heap.size + 1) w1.heap.size) w _ := ((HR.out.up.mono (T := fun x => base + 2 ≤ x) (fun x ⟨n, hn, e⟩ => by have := HB.out.bn n hn; omega)).trans HB.out.fb ((HRT.out nq).2.mono (T := fun x => base + 2 ≤ x) (fun _ e => e.elim)).drew (fun _ e => e) (fun _ _ e => e)).trans HB.out.fb (hU3.mono (T := fun x => base + 2 ≤ x) (fun x e => by have := HB.out.bp; omega)) (fun _ e => e) (fun _ _ e => e)
      have HT3 : Hid (TrAt w3 (tgr o1 (w1.heap.size + 1) w1.heap.size) p m s (w1.heap.size + 1)) := Lib.hid (by rw [hw3]; exact hT3)
      have HN3 : Hid (NdE w3 (tgr o1 (w1.heap.size + 1) w1.heap.size) (w1.heap.size + 1) ⟨[], [], [t.id]⟩) := Lib.hid (by rw [hw3]; exact ⟨_, _, _, hN3⟩)
      have HX3 : Hid (NdE w3 (tgr o1 (w1.heap.size + 1) w1.heap.size) t1.id (nf t1.its (kidN h t1))) := Lib.hid (by rw [hw3]; exact ⟨_, _, _, hX3⟩)
      have HG3 : Hid (Gm w3 (tgr o1 (w1.heap.size + 1) w1.heap.size) (setM M1 (w1.heap.size + 1) ⟨[], [], [t.id]⟩)) := Lib.hid (by rw [hw3]; exact hG3)
      have HUB : Hid (UpB base o (tgr o1 (w1.heap.size + 1) w1.heap.size) w w3) := Lib.hid (by rw [hw3]; exact hUB)
      have HSZ : Hid (w1.heap.size ≤ w3.heap.size) := Lib.hid (by rw [hw3]; simp [World.setCell]; omega)
      have HFB3 : Hid (Fb (tgr o1 (w1.heap.size + 1) w1.heap.size) w3) := Lib.hid (by rw [hw3]; exact hU3.fb)
      clear hw3 hT3 hU3 hN3 hX3 hG3 hUB f4 f5 HRT HTR t0 t1' t4 f1 x0
      have hax : w1.heap.size + 1 ≠ t1.id := by omega
      have HSP := Lib.hid (split_any (nv p) (w1.heap.size + 1) t1.id 0 ((m + 1) / 2) (m + 1) w3 (tgr o1 (w1.heap.size + 1) w1.heap.size) ⟨[], [], [t.id]⟩ (nf t1.its (kidN h t1)) HFB3.out HN3.out HX3.out hax (by show 0 < 1; omega) (by rw [hid]; rfl) (Nat.zero_le _) rfl ⟨by show 1 ≤ 1000; omega, by show 0 ≤ 1000; omega⟩
        (by show (t1.its.map _).length = _; rw [List.length_map]; exact hL) (by show (t1.its.map _).length = _; rw [List.length_map]; exact hL) (by omega) rfl (by omega) (by
          have := kidN_len HR.out.ok
          rw [hL] at this
          exact this) (t1.its[(m + 1) / 2]).1 (t1.its[(m + 1) / 2]).2 (by show (t1.its.map _)[_]? = _; rw [List.getElem?_map, List.getElem?_eq_getElem hql]; rfl) (by show (t1.its.map _)[_]? = _; rw [List.getElem?_map, List.getElem?_eq_getElem hql]; rfl))
      have HL := Lib.hid hL
      have HID := Lib.hid hid
      obtain ⟨-, u1, -, -, u4⟩ := HT3.out.cells
      clear hL hax hid
      unfold nv at HSP u4
      have hp3 : ¬ (p + 2 = w1.heap.size + 1 + 2 ∨ p + 2 = t1.id + 2) := fun e => by
        rcases e with e | e
        · have := blk_lt HT1.out.blk; omega
        · exact HB.out.q.np _ (id_mem _ t) (by rw [← HID.out]; omega)
      have HP3 := Lib.hid hp3
      clear hp3
      go_wp2_with (go_at_call 65; refine HSP.out.mono ?_; rintro e w4 ⟨rfl, y, o4, hsp⟩; have HT4 := Lib.hid (HT3.out.up hsp.up HP3.out); obtain ⟨-, z1, -, -, -⟩ := HT4.out.cells; have z2 := blk_frozen HT4.out.blk 1)
      go_ret2
      have e1 : (⟨(nf t1.its (kidN h t1)).ks.take ((m + 1) / 2), (nf t1.its (kidN h t1)).vs.take ((m + 1) / 2), (nf t1.its (kidN h t1)).cs.take ((m + 1) / 2 + 1)⟩ : Nf Ky) = nf (t1.its.take ((m + 1) / 2)) ((kidN h t1).take ((m + 1) / 2 + 1)) := by
        unfold nf; simp [List.map_take]
      have e2 : (⟨(nf t1.its (kidN h t1)).ks.drop ((m + 1) / 2 + 1), (nf t1.its (kidN h t1)).vs.drop ((m + 1) / 2 + 1), (nf t1.its (kidN h t1)).cs.drop ((m + 1) / 2 + 1)⟩ : Nf Ky) = nf (t1.its.drop ((m + 1) / 2 + 1)) ((kidN h t1).drop ((m + 1) / 2 + 1)) := by
        unfold nf; simp [List.map_drop]
      rw [e1, e2] at hsp
      have h0 : Sp w3 (tgr o1 (w1.heap.size + 1) w1.heap.size) (w1.heap.size + 1) t1.id y (nf [t1.its[(m + 1) / 2]] [t.id, y]) _ _ w4 o4 := hsp
      have hrid : [t.id, y] = [t1.id, y] := by rw [HID.out]
      rw [hrid] at h0
      have hbq : Bq base w o p m s h t M := by rw [HS.out]; exact HB.out.q
      obtain ⟨M4, hq, hu⟩ := root_fin hbq (by omega) HR.out HL.out rfl hql (Nat.le_succ _) HSZ.out HT3.out HG3.out HUB.out h0
      rw [HS.out] at hq
      exact top_some hq hu ((rooted_toL _ HR.out.ok y hql).trans HR.out.li) HR.out.kk HG.out
    · have hgt' : decide ((m : Int) < (t1.its.length : Int)) = false := decide_eq_false (by omega)
      have hgt2 : ¬ ((m : Int) < (t1.its.length : Int)) := by omega
      go_quiet (fail)
      go_wp2_with fail
      go_ret2
      obtain ⟨hq, hu⟩ := top_same HB.out.q (by omega) HR.out (by omega)
      exact top_some (hq.drewN _) (hu.trans HB.out.fb (Up.quiet hq.fb (below_drewN w1 _))) HR.out.li HR.out.kk HG.out
end Go.Proofs.Ytfhonfeopkhdeaa.BC

namespace Go.Proofs.Ytfhonfeopkhdeaa.BC
open Go.RowKit Go.Proofs.YtfhonfeopkhdeaaW.PrintWords

theorem Put_any (base p m h : Nat) (t : BT Ky h) (k : Ky) (v : Int) (w : World) (o : Nat → Nat) (M : Nat → Option (Nf Ky)) (b : Bm base w o p m h t M) (hm : 3 ≤ m ∧ m ≤ 64) (hk : KRd w k) (hlen : (toL h t).length ≤ 65536) :
    Calls Try.prog 32 #[nv p, kv k, .int .u64 v] w (PutTop base w o p m h t k v) := by
  by_cases hg : getL kct k (toL h t) = none ∧ (toL h t).length = 65536
  · exact Put_full base p m h t k v w o M b hm hk hg.1 hg.2
  · exact Put_go base p m h t k v w o M b hm hk _ rfl (fun e hl => hg ⟨e, hl⟩) hlen
set_option maxHeartbeats 1000000 in
theorem made_bad (m : Int) (w : World) (h : ¬ (3 ≤ m ∧ m ≤ 64)) : Calls Try.prog 31 #[.int .i64 m] w fun e w' => e = .returned (.pointer none) ∧ w' = w := by
  have hmade : Calls Try.prog 60 #[.int .i64 m, .func (.func 13) #[] #[], .func (.func 61) #[] #[]] w fun e w' => e = .returned (.pointer none) ∧ w' = w := by
    by_cases h3 : m < 3
    · go_enter Try.func60, Try.ntmps60
      go_wp2_with fail
      go_ret
      exact ⟨rfl, rfl⟩
    · have h4 : 64 < m := by omega
      go_enter Try.func60, Try.ntmps60
      go_wp2_with fail
      go_ret
      exact ⟨rfl, rfl⟩
  go_enter Try.func31, Try.ntmps31
  go_wp2_with (go_at_call 60; refine hmade.mono ?_; rintro e w' ⟨rfl, e2⟩; rw [e2]; clear e2 w')
  go_ret
  exact ⟨rfl, rfl⟩
/-- The world behind a new tree. -/
def newW (w : World) (m : Nat) : World := (w.alloc (.cells #[.slice none 0 0, .slice none 0 0, .slice none 0 0] 106)).alloc (.cells #[.int .i64 m, .int .i64 0, .func (.func 13) #[] #[], .func (.func 61) #[] #[], .pointer (some ⟨w.heap.size, 0, none⟩)] 102)
set_option maxHeartbeats 1000000 in
theorem made_ok (m : Nat) (w : World) (h : 3 ≤ m ∧ m ≤ 64) : Calls Try.prog 31 #[.int .i64 m] w fun e w' => e = .returned (.pointer (some ⟨w.heap.size + 1, 0, none⟩)) ∧ w' = newW w m := by
  have h1 : ¬ (m : Int) < 3 := by omega
  have h2 : ¬ 64 < (m : Int) := by omega
  have hmade : Calls Try.prog 60 #[.int .i64 m, .func (.func 13) #[] #[], .func (.func 61) #[] #[]] w fun e w' => e = .returned (.pointer (some ⟨w.heap.size + 1, 0, none⟩)) ∧ w' = newW w m := by
    go_enter Try.func60, Try.ntmps60
    go_wp2_with fail
    go_ret
    exact ⟨rfl, rfl⟩
  go_enter Try.func31, Try.ntmps31
  go_wp2_with (go_at_call 60; refine hmade.mono ?_; rintro e w' ⟨rfl, e2⟩; rw [e2]; clear e2 w')
  go_ret
  exact ⟨rfl, rfl⟩
/-- The tags, a tree having been made. -/
def tgm (o : Nat → Nat) (n : Nat) : Nat → Nat := fun b => if b = n then n + 2 else if b = n + 1 then n + 3 else o b
theorem new_bm {w : World} {o : Nat → Nat} {m : Nat} (hf : Fb o w) (hm : 3 ≤ m ∧ m ≤ 64) :
    Bm w.heap.size (newW w m) (tgm o w.heap.size) (w.heap.size + 1) m 0 (⟨w.heap.size, [], []⟩ : BT Ky 0) (setM (fun _ => none) w.heap.size ⟨[], [], []⟩) ∧ UpB w.heap.size o (tgm o w.heap.size) w (newW w m) := by
  have hs1 : (w.alloc (.cells #[.slice none 0 0, .slice none 0 0, .slice none 0 0] 106)).heap.size = w.heap.size + 1 := by simp
  have hs2 : (newW w m).heap.size = w.heap.size + 2 := by unfold newW; simp
  have hB : Below w.heap.size w (newW w m) := ((Below.refl _ _).alloc (Nat.le_refl _) _).alloc (by omega) _
  have hn : (newW w m).heap[w.heap.size]? = some (.cells #[.slice none 0 0, .slice none 0 0, .slice none 0 0] 106 (0, 0)) := by
    unfold newW
    rw [Below.heap_alloc _ _ _ (by omega)]
    exact top_blk w _ _
  have hp : (newW w m).heap[w.heap.size + 1]? = some (.cells #[.int .i64 m, .int .i64 (0 : Nat), .func (.func 13) #[] #[], .func (.func 61) #[] #[], nv w.heap.size] 102 (0, 0)) := by
    have h := top_blk (w.alloc (.cells #[.slice none 0 0, .slice none 0 0, .slice none 0 0] 106)) #[.int .i64 m, .int .i64 0, .func (.func 13) #[] #[], .func (.func 61) #[] #[], .pointer (some ⟨w.heap.size, 0, none⟩)] 102
    rw [hs1] at h
    exact h
  have t1 : tgm o w.heap.size w.heap.size = w.heap.size + 2 := if_pos rfl
  have t2 : tgm o w.heap.size (w.heap.size + 1) = w.heap.size + 1 + 2 := by unfold tgm; rw [if_neg (by omega), if_pos rfl]
  have t3 : ∀ b, b ≠ w.heap.size → b ≠ w.heap.size + 1 → tgm o w.heap.size b = o b := fun b h1 h2 => by unfold tgm; rw [if_neg h1, if_neg h2]
  have hfb : Fb (tgm o w.heap.size) (newW w m) := ⟨fun b hb => by
    rw [hs2] at hb
    rw [t3 b (by omega) (by omega)]
    exact hf.end_ b (by omega), fun b => by
    rw [hs2]
    have := hf.le b
    by_cases h1 : b = w.heap.size
    · rw [h1, t1]; omega
    · by_cases h2 : b = w.heap.size + 1
      · rw [h2, t2]; omega
      · rw [t3 b h1 h2]; omega⟩
  refine ⟨⟨⟨hp, t2⟩, hfb, ⟨fun n F hF => ?_, setM_same _ _ _, ⟨Nat.zero_le _, Nat.zero_le _⟩, by omega, List.Pairwise.nil⟩, List.pairwise_singleton _ _, by omega, fun n hn => ?_⟩, ⟨hB.os, hB.tape, hB.output, hB.size, fun b hb _ => hB.block b hb, fun b hb => t3 b (by omega) (by omega), hfb⟩⟩
  · by_cases e : n = w.heap.size
    · subst e
      rw [setM_same] at hF
      cases hF
      exact ⟨_, _, _, ⟨hn, t1, Rw.nil _ _, Rw.nil _ _, Rw.nil _ _, (fun g e => by cases e), (fun g e => by cases e), (fun g e => by cases e), fun k hk => by cases hk⟩⟩
    · rw [setM_other _ _ e] at hF
      cases hF
  · rw [List.mem_singleton.1 hn]
    exact Nat.le_refl _
end Go.Proofs.Ytfhonfeopkhdeaa.BC

namespace Go.Proofs.Ytfhonfeopkhdeaa.BC
open Go.RowKit Go.Proofs.YtfhonfeopkhdeaaW.PrintWords

/-- A node, as Nodes tells it. -/
structure Nt where
  lv : Nat
  lf : Bool
  ks : List Ky
def nodesL : (h : Nat) → BT Ky h → Nat → List Nt
  | 0, t, lv => [⟨lv, true, t.its.map (·.1)⟩]
  | h + 1, t, lv => ⟨lv, false, t.its.map (·.1)⟩ :: t.kds.flatMap (fun c => nodesL h c (lv + 1))
theorem nodesL_len : (h : Nat) → (t : BT Ky h) → (lv : Nat) → (nodesL h t lv).length = (ids h t).length
  | 0, _, _ => rfl
  | h + 1, t, lv => by
    show (t.kds.flatMap (fun c => nodesL h c (lv + 1))).length + 1 = (t.kds.flatMap (ids h)).length + 1
    rw [List.length_flatMap, List.length_flatMap, List.map_congr_left fun c _ => nodesL_len h c (lv + 1)]
def ntC (x : Nt × Value) : List Value := [.int .i64 x.1.lv, .bool x.1.lf, x.2]
def ntR (l : List (Nt × Value)) : List Value := l.flatMap ntC
theorem ntR_len (l : List (Nt × Value)) : (ntR l).length = l.length * 3 := by
  induction l with
  | nil => rfl
  | cons a l ih => rw [ntR, List.flatMap_cons, List.length_append, ← ntR, ih, List.length_cons]; show 3 + _ = _; omega
theorem ntR_append (a b : List (Nt × Value)) : ntR (a ++ b) = ntR a ++ ntR b := List.flatMap_append
/-- A row of nodes of one's own. -/
structure NsO (w : World) (base : Nat) (v : Value) (l : List (Nt × Value)) : Prop where
  own : w.ownsRow base 170 3 v l.length (ntR l)
  ks : ∀ x ∈ l, Rw w 22 x.2 (ksR x.1.ks) ∧ ∀ g, x.2.ownBlock = some g → base ≤ g
theorem NsO.nil (w : World) (base : Nat) : NsO w base (.slice none 0 0) [] := ⟨World.ownsRow_nil w _ _ _, fun x hx => by cases hx⟩
theorem ownsRow_keep {w w' : World} {base e size n : Nat} {v : Value} {xs : List Value} (h : w.ownsRow base e size v n xs) (hk : ∀ g, v.ownBlock = some g → g < w.heap.size → w'.heap[g]? = w.heap[g]?) : w'.ownsRow base e size v n xs := by
  refine ⟨h.1, ?_⟩
  rcases h.2 with hn | ⟨g, cap, cur, rfl, hb, hg, rest⟩
  · exact .inl hn
  · exact .inr ⟨g, cap, cur, rfl, hb, (hk g rfl (Array.getElem?_eq_some_iff.1 hg).1).trans hg, rest⟩
theorem ownsRow_is {w : World} {base e size n : Nat} {v : Value} {xs : List Value} (h : w.ownsRow base e size v n xs) {g : Nat} (hg : v.ownBlock = some g) : ∃ cs, w.heap[g]? = some (.cells cs e (0, 0)) := by
  rcases h.2 with ⟨e', _⟩ | ⟨g', cap, cur, e', _, hgb, _⟩
  · rw [e'] at hg; cases hg
  · rw [e'] at hg
    cases hg
    exact ⟨cur, hgb⟩
theorem NsO.grow {w W w7 : World} {base : Nat} {v v7 : Value} {l : List (Nt × Value)} {x : Nt} {u : Value} (h : NsO w base v l) (hb : Below w.heap.size w W) (hg : W.grownBy w7 v.ownBlock) (hown : w7.ownsRow base 170 3 v7 (l.length + 1) (ntR l ++ ntC (x, u))) (hu : Rw W 22 u (ksR x.ks)) (hub : ∀ g, u.ownBlock = some g → base ≤ g) : NsO w7 base v7 (l ++ [(x, u)]) := by
  have hne : ∀ {y : Value} {ys : List Value}, Rw W 22 y ys → Rw w7 22 y ys := fun hy => hy.keep fun g hg2 hl => hg.block g hl fun e => by
    obtain ⟨cs, hc⟩ := ownsRow_is h.own e.symm
    obtain ⟨cur, hc2⟩ := hy.blk hg2
    have hc3 := (hb.block g (Array.getElem?_eq_some_iff.1 hc).1).trans hc
    exact blk_ne hc3 hc2 (by decide) rfl
  refine ⟨?_, fun y hy => ?_⟩
  · rw [List.length_append, ntR_append]
    have e : ntR [(x, u)] = ntC (x, u) := by simp [ntR]
    rw [e]
    exact hown
  · rcases List.mem_append.1 hy with hy | hy
    · obtain ⟨h1, h2⟩ := h.ks y hy
      exact ⟨hne (h1.keep fun g _ hl => hb.block g hl), h2⟩
    · rw [List.mem_singleton.1 hy]
      exact ⟨hne hu, hub⟩
theorem weave_len {β : Type} : ∀ (I : List β) (C : List (List β)), C.length = I.length + 1 → (weave I C).length = I.length + (C.map List.length).sum
  | [], [], h => by simp at h
  | [], [c], _ => by simp [weave]
  | [], _ :: _ :: _, h => by simp at h
  | _ :: _, [], h => by simp at h
  | a :: I, c :: C, h => by
    have := weave_len I C (by simpa using h)
    show (c ++ a :: weave I C).length = _
    rw [List.length_append, List.length_cons, this]
    simp
    omega
theorem sum_le {α : Type} {f g : α → Nat} : ∀ (l : List α), (∀ c ∈ l, f c ≤ g c) → (l.map f).sum ≤ (l.map g).sum
  | [], _ => Nat.le_refl _
  | a :: l, h => by
    have := sum_le l (fun c hc => h c (List.mem_cons_of_mem _ hc))
    have := h a List.mem_cons_self
    simp
    omega
theorem toL_len {m h lo hi : Nat} {t : BT Ky (h + 1)} (ho : OkT m (h + 1) lo hi t) : (toL (h + 1) t).length = t.its.length + (t.kds.map fun c => (toL h c).length).sum := by
  show (weave t.its (List.map (toL h) t.kds)).length = _
  rw [weave_len _ _ (by rw [List.length_map]; exact ho.kids), List.map_map]
  rfl
theorem ids_len {h : Nat} (t : BT Ky (h + 1)) : (ids (h + 1) t).length = 1 + (t.kds.map fun c => (ids h c).length).sum := by
  show (t.id :: t.kds.flatMap (ids h)).length = _
  rw [List.length_cons, List.length_flatMap]
  omega
theorem ids_le {m : Nat} (hm : 2 ≤ m) : ∀ {h lo hi : Nat} {t : BT Ky h}, OkT m h lo hi t → (ids h t).length ≤ (toL h t).length + 1 ∧ (1 ≤ lo → (ids h t).length ≤ (toL h t).length) ∧ h + 1 ≤ (ids h t).length
  | 0, lo, hi, t, ho => by
    have h1 := ho.1
    show 1 ≤ t.its.length + 1 ∧ (1 ≤ lo → 1 ≤ t.its.length) ∧ 1 ≤ 1
    omega
  | h + 1, lo, hi, t, ho => by
    have hs := sum_le t.kds (f := fun c => (ids h c).length) (g := fun c => (toL h c).length) (fun c hc => (ids_le hm (ho.2.2 c hc)).2.1 (by omega))
    rw [toL_len ho, ids_len]
    have hk : t.kds.length = t.its.length + 1 := ho.2.1
    have hlo := ho.1.1
    refine ⟨by omega, fun h1 => by omega, ?_⟩
    obtain ⟨c, L, e⟩ : ∃ c L, t.kds = c :: L := by
      cases hh : t.kds with
      | nil => rw [hh] at hk; simp at hk
      | cons c L => exact ⟨c, L, rfl⟩
    have hc := (ids_le hm (ho.2.2 c (by rw [e]; exact List.mem_cons_self))).2.2
    rw [e]
    simp
    omega
end Go.Proofs.Ytfhonfeopkhdeaa.BC
