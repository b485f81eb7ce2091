/-
  Put: the whole tree; a new root. No premise.
  Put. No premise.
  A new tree. No premise.
  Nodes of a tree of names, told in order. No premise.
-/
import Derived.Test.YtfhonfeopkhdeaaBtYS
import Derived.Deep.AppendLies
namespace Go.Proofs.Ytfhonfeopkhdeaa.BS
open Go.RowKit Go.Proofs.YtfhonfeopkhdeaaW.PrintWords

/-- A tree that some calls made: its own block p, its nodes, all at base or behind it. -/
structure Bm (base : Nat) (w : World) (o : Nat → Nat) (p m h : Nat) (t : BT Ky h) (M : Nat → Option (Nf Ky)) : Prop where
  at_ : TrAt w o p m (toL h t).length t.id
  fb : Fb o w
  tm : Tm w o M h m (min h 1) m t
  nd : (ids h t).Nodup
  bp : base ≤ p
  bn : ∀ n ∈ ids h t, base ≤ n
abbrev UpB (base : Nat) := Up (fun x => base + 2 ≤ x)
theorem UpB.trans {base : Nat} {o o' o'' : Nat → Nat} {a b c : World} (hf : Fb o a) (h : UpB base o o' a b) (k : UpB base o' o'' b c) : UpB base o o'' a c := Up.trans hf h k (fun _ e => e) (fun _ _ e => e)
theorem top_blk (W : World) (cs : Array Value) (t : TypeId) : (W.alloc (.cells cs t)).heap[W.heap.size]? = some (.cells cs t (0, 0)) := by
  show (W.heap.push _)[W.heap.size]? = _
  simp
/-- The tags, a root having been made. -/
def tgr (o : Nat → Nat) (r g : Nat) : Nat → Nat := fun b => if b = r ∨ b = g then r + 2 else o b
/-- A root without keys over a node. -/
theorem nd_root {w : World} {o : Nat → Nat} (hf : Fb o w) (c : Nat) :
    NdAt ((w.alloc (.cells #[nv c] 61)).alloc (.cells #[.slice none 0 0, .slice none 0 0, .slice (some ⟨w.heap.size, 0, none⟩) 1 1] 89)) (tgr o (w.heap.size + 1) w.heap.size) (w.heap.size + 1) (.slice none 0 0) (.slice none 0 0) (.slice (some ⟨w.heap.size, 0, none⟩) 1 1) ⟨[], [], [c]⟩ ∧
    Up (fun _ => False) o (tgr o (w.heap.size + 1) w.heap.size) w ((w.alloc (.cells #[nv c] 61)).alloc (.cells #[.slice none 0 0, .slice none 0 0, .slice (some ⟨w.heap.size, 0, none⟩) 1 1] 89)) := by
  have hB1 : Below w.heap.size w (w.alloc (.cells #[nv c] 61)) := (Below.refl _ _).alloc (Nat.le_refl _) _
  have hs1 : (w.alloc (.cells #[nv c] 61)).heap.size = w.heap.size + 1 := by simp
  have hB2 : Below w.heap.size w ((w.alloc (.cells #[nv c] 61)).alloc (.cells #[.slice none 0 0, .slice none 0 0, .slice (some ⟨w.heap.size, 0, none⟩) 1 1] 89)) := hB1.alloc (by omega) _
  have hs2 : ((w.alloc (.cells #[nv c] 61)).alloc (.cells #[.slice none 0 0, .slice none 0 0, .slice (some ⟨w.heap.size, 0, none⟩) 1 1] 89)).heap.size = w.heap.size + 2 := by simp
  have hg : ((w.alloc (.cells #[nv c] 61)).alloc (.cells #[.slice none 0 0, .slice none 0 0, .slice (some ⟨w.heap.size, 0, none⟩) 1 1] 89)).heap[w.heap.size]? = some (.cells #[nv c] 61 (0, 0)) := by
    rw [Below.heap_alloc _ _ _ (by omega)]
    show (w.heap.push _)[w.heap.size]? = _
    simp
  have hr : ((w.alloc (.cells #[nv c] 61)).alloc (.cells #[.slice none 0 0, .slice none 0 0, .slice (some ⟨w.heap.size, 0, none⟩) 1 1] 89)).heap[w.heap.size + 1]? = some (.cells #[.slice none 0 0, .slice none 0 0, .slice (some ⟨w.heap.size, 0, none⟩) 1 1] 89 (0, 0)) := by
    have h := top_blk (w.alloc (.cells #[nv c] 61)) #[.slice none 0 0, .slice none 0 0, .slice (some ⟨w.heap.size, 0, none⟩) 1 1] 89
    rw [hs1] at h
    exact h
  refine ⟨⟨hr, if_pos (.inl rfl), Rw.nil _ _, Rw.nil _ _, Rw.mk (xs := [nv c]) hg (Nat.le_refl _) (Nat.le_refl _) (by simp [maxLen]) rfl, (fun g e => by cases e), (fun g e => by cases e), fun g e => ?_, fun k hk => by cases hk⟩, ⟨hB2.os, hB2.tape, hB2.output, hB2.size, fun b hb _ => hB2.block b hb, fun b hb => ?_, ⟨fun b hb => ?_, fun b => ?_⟩⟩⟩
  · injection e with e
    exact if_pos (.inr e.symm)
  · exact if_neg (by omega)
  · rw [hs2] at hb
    exact (if_neg (by omega)).trans (hf.end_ b (by omega))
  · rw [hs2]
    have := hf.le b
    unfold tgr
    split <;> omega
/-- What is left by a put into the whole tree. -/
def PutTop (base : Nat) (w : World) (o : Nat → Nat) (p m h : Nat) (t : BT Ky h) (k : Ky) (v : Int) (e : Ending) (w' : World) : Prop :=
  ∃ (h' : Nat) (t' : BT Ky h') (o' : Nat → Nat) (M' : Nat → Option (Nf Ky)), Bm base w' o' p m h' t' M' ∧ UpB base o o' w w' ∧
    (((getL kct k (toL h t) = none ∧ (toL h t).length = 65536) ∧ e = .returned (.tuple #[.bool false, .int .i64 7]) ∧ toL h' t' = toL h t) ∨
      (¬ (getL kct k (toL h t) = none ∧ (toL h t).length = 65536) ∧ e = .returned (.tuple #[.bool (getL kct k (toL h t)).isNone, .int .i64 0]) ∧ ∃ k', kct k' = kct k ∧ toL h' t' = insL kct k' v (toL h t)))
theorem getL_ct {l : List (Ky × Int)} {k k' : Ky} (e : kct k' = kct k) : getL kct k' l = getL kct k l := by
  induction l with
  | nil => rfl
  | cons a r ih =>
    have h : kc kct k' a.1 = kc kct k a.1 := by unfold kc; rw [e]
    rw [getL, getL, h, ih]
/-- The tree's block with another size and root. -/
theorem TrAt.root {w : World} {o : Nat → Nat} {p m sz q : Nat} (h : TrAt w o p m sz q) (hf : Fb o w) (r : Nat) : TrAt (w.setCell ⟨p, 4, none⟩ (nv r)) o p m sz r ∧ Up (· = p + 2) o o w (w.setCell ⟨p, 4, none⟩ (nv r)) := by
  refine ⟨⟨?_, h.tg⟩, rfl, rfl, rfl, by simp [World.setCell], fun b _ hS => Below.heap_setCell w ⟨p, 4, none⟩ _ b (fun e => hS (by rw [show b = p from e, h.tg])), fun _ _ => rfl, hf.mono (by simp [World.setCell])⟩
  have := blk_set h.blk 4 (nv r)
  exact this
theorem TrAt.size {w : World} {o : Nat → Nat} {p m sz q : Nat} (h : TrAt w o p m sz q) (hf : Fb o w) (s : Nat) : TrAt (w.setCell ⟨p, 1, none⟩ (.int .i64 s)) o p m s q ∧ Up (· = p + 2) o o w (w.setCell ⟨p, 1, none⟩ (.int .i64 s)) := by
  refine ⟨⟨?_, h.tg⟩, rfl, rfl, rfl, by simp [World.setCell], fun b _ hS => Below.heap_setCell w ⟨p, 1, none⟩ _ b (fun e => hS (by rw [show b = p from e, h.tg])), fun _ _ => rfl, hf.mono (by simp [World.setCell])⟩
  have := blk_set h.blk 1 (.int .i64 s)
  exact this
/-- The same with a size that is told. -/
structure Bq (base : Nat) (w : World) (o : Nat → Nat) (p m sz h : Nat) (t : BT Ky h) (M : Nat → Option (Nf Ky)) : Prop where
  at_ : TrAt w o p m sz t.id
  fb : Fb o w
  tm : Tm w o M h m (min h 1) m t
  nd : (ids h t).Nodup
  bp : base ≤ p
  bn : ∀ n ∈ ids h t, base ≤ n
theorem Bm.q {base : Nat} {w : World} {o : Nat → Nat} {p m h : Nat} {t : BT Ky h} {M : Nat → Option (Nf Ky)} (b : Bm base w o p m h t M) : Bq base w o p m (toL h t).length h t M := ⟨b.at_, b.fb, b.tm, b.nd, b.bp, b.bn⟩
theorem Bq.m {base : Nat} {w : World} {o : Nat → Nat} {p m sz h : Nat} {t : BT Ky h} {M : Nat → Option (Nf Ky)} (b : Bq base w o p m sz h t M) (e : sz = (toL h t).length) : Bm base w o p m h t M := ⟨e ▸ b.at_, b.fb, b.tm, b.nd, b.bp, b.bn⟩
theorem Bq.np {base : Nat} {w : World} {o : Nat → Nat} {p m sz h : Nat} {t : BT Ky h} {M : Nat → Option (Nf Ky)} (b : Bq base w o p m sz h t M) : ∀ n ∈ ids h t, n ≠ p := fun n hn e => by
  obtain ⟨F, hF⟩ := tr_ids b.tm.tr n hn
  obtain ⟨_, _, _, hnd⟩ := b.tm.gm n F hF
  exact b.at_.ne hnd e.symm
theorem Tm.up {w w' : World} {o o' : Nat → Nat} {M : Nat → Option (Nf Ky)} {h m lo hi : Nat} {t : BT Ky h} (T : Tm w o M h m lo hi t) (g : Gm w' o' M) : Tm w' o' M h m lo hi t := ⟨g, T.tr, T.ok, T.le, T.ss⟩
/-- A step that turns the tree's own block alone. -/
theorem Gm.apart {w w' : World} {o o' : Nat → Nat} {M : Nat → Option (Nf Ky)} {p m sz q : Nat} (g : Gm w o M) (ht : TrAt w o p m sz q) (u : Up (· = p + 2) o o' w w') : Gm w' o' M := fun n F hF => by
  obtain ⟨vk, vv, vc, hn⟩ := g n F hF
  exact ⟨vk, vv, vc, hn.up u (fun e => by omega) (fun e => ht.ne hn (by omega))⟩
theorem Bq.setSize {base : Nat} {w : World} {o : Nat → Nat} {p m sz h : Nat} {t : BT Ky h} {M : Nat → Option (Nf Ky)} (b : Bq base w o p m sz h t M) (s : Nat) : Bq base (w.setCell ⟨p, 1, none⟩ (.int .i64 s)) o p m s h t M ∧ UpB base o o w (w.setCell ⟨p, 1, none⟩ (.int .i64 s)) := by
  obtain ⟨h1, h2⟩ := b.at_.size b.fb s
  exact ⟨⟨h1, h2.fb, b.tm.up (b.tm.gm.apart b.at_ h2), b.nd, b.bp, b.bn⟩, h2.mono (fun x e => by have := b.bp; omega)⟩
theorem top_same {base : Nat} {w w1 : World} {o o1 : Nat → Nat} {p m sz h : Nat} {t t1 : BT Ky h} {M M1 : Nat → Option (Nf Ky)} {k k' : Ky} {v : Int} (b : Bq base w o p m sz h t M) (hm : m ≤ 1000) (R : PutR w o M h t m (min h 1) k v w1 k' t1 o1 M1) (hle : t1.its.length ≤ m) :
    Bq base w1 o1 p m sz h t1 M1 ∧ UpB base o o1 w w1 := by
  have hnp := b.np
  refine ⟨⟨?_, R.up.fb, ⟨R.gm, R.tr, R.ok.weaken R.ok.len.1 hle, hm, ?_⟩, R.nd, b.bp, fun n hn => ?_⟩, R.up.mono (fun x ⟨n, hn, e⟩ => by have := b.bn n hn; omega)⟩
  · rw [R.id]
    exact b.at_.up R.up (fun ⟨n, hn, e⟩ => hnp n hn (by omega))
  · rw [R.li]
    exact insL_sorted b.tm.ss
  · rcases R.fr n hn with h1 | h1
    · exact b.bn n h1
    · have h2 := b.tm.lt t.id (id_mem h t)
      have h3 := b.bn t.id (id_mem h t)
      omega
/-- The tree when its root has been parted below a new one. -/
def rooted {h : Nat} (r : Nat) (t1 : BT Ky h) (q y : Nat) (b : Ky × Int) : BT Ky (h + 1) := ⟨r, [b], ([halfL t1 q, halfR y t1 q] : List (BT Ky h))⟩
theorem rooted_toL {m h lo hi : Nat} (r : Nat) {t1 : BT Ky h} (ho : OkT m h lo hi t1) {q : Nat} (y : Nat) (hq : q < t1.its.length) : toL (h + 1) (rooted r t1 q y t1.its[q]) = toL h t1 := by
  rw [toL_half ho y hq]
  rfl
theorem root_fin {base : Nat} {w w1 w3 w4 : World} {o o1 o3 o4 : Nat → Nat} {p m sz h r y q : Nat} {t t1 : BT Ky h} {M M1 : Nat → Option (Nf Ky)} {F0 : Nf Ky} {k k' : Ky} {v : Int} (b : Bq base w o p m sz h t M) (hm : 3 ≤ m ∧ m ≤ 1000) (R : PutR w o M h t m (min h 1) k v w1 k' t1 o1 M1) (hgt : t1.its.length = m + 1) (hq : q = (m + 1) / 2) (hql : q < t1.its.length)
    (hr : w1.heap.size ≤ r) (h13 : w1.heap.size ≤ w3.heap.size) (hT3 : TrAt w3 o3 p m sz r) (hG3 : Gm w3 o3 (setM M1 r F0)) (hU3 : UpB base o o3 w w3)
    (hsp : Sp w3 o3 r t1.id y (nf [t1.its[q]] [t1.id, y]) (nf (t1.its.take q) ((kidN h t1).take (q + 1))) (nf (t1.its.drop (q + 1)) ((kidN h t1).drop (q + 1))) w4 o4) :
    ∃ M4, Bq base w4 o4 p m sz (h + 1) (rooted r t1 q y t1.its[q]) M4 ∧ UpB base o o4 w w4 := by
  have hnp := b.np
  have hwb : base ≤ w.heap.size := by
    have h2 := b.tm.lt t.id (id_mem h t)
    have h3 := b.bn t.id (id_mem h t)
    omega
  have hww := R.up.size
  have hlt1 := R.lt
  have hfr1 : ∀ n ∈ ids h t1, base ≤ n := fun n hn => by
    rcases R.fr n hn with h1 | h1
    · exact b.bn n h1
    · omega
  have hyw := hsp.yn
  have hnp1 : t1.id ≠ p := by rw [R.id]; exact hnp _ (id_mem h t)
  have hrp : r ≠ p := fun e => by have := blk_lt b.at_.blk; omega
  have hrx : r ≠ t1.id := fun e => by have := hlt1 t1.id (id_mem h t1); omega
  have hyx : t1.id ≠ y := fun e => by have := hlt1 t1.id (id_mem h t1); omega
  have hry : r ≠ y := fun e => by
    have : r < w3.heap.size := hG3.lt (setM_same M1 r F0)
    omega
  have hpy : y ≠ p := fun e => by have := blk_lt hT3.blk; omega
  have hM1 : ∀ n ∈ ids h t1, n ≠ t1.id → setM (setM (setM (setM M1 r F0) y (nf (t1.its.drop (q + 1)) ((kidN h t1).drop (q + 1)))) t1.id (nf (t1.its.take q) ((kidN h t1).take (q + 1)))) r (nf [t1.its[q]] [t1.id, y]) n = M1 n := fun n hn hne => by
    have h1 := hlt1 n hn
    rw [setM_other _ _ (show n ≠ r from by omega), setM_other _ _ hne, setM_other _ _ (show n ≠ y from by omega), setM_other _ _ (show n ≠ r from by omega)]
  have hat := tr_at R.tr
  have hkc : ∀ cs, M1 t1.id = some (nf t1.its cs) → kidN h t1 = cs := fun cs e => by
    rw [hat] at e
    exact congrArg Nf.cs (Option.some.inj e)
  have hp := half_ids y t1 q
  have hids : ids (h + 1) (rooted r t1 q y t1.its[q]) = r :: (ids h (halfL t1 q) ++ ids h (halfR y t1 q)) := by
    show r :: ([halfL t1 q, halfR y t1 q] : List (BT Ky h)).flatMap (ids h) = _
    simp
  have hmem : ∀ n, n ∈ ids h (halfL t1 q) ++ ids h (halfR y t1 q) → n = y ∨ n ∈ ids h t1 := fun n hn => List.mem_cons.1 (hp.mem_iff.1 hn)
  obtain ⟨ok1, ok2⟩ := half_ok R.ok y hql
  refine ⟨_, ⟨hT3.up hsp.up (fun e => by omega), hsp.up.fb, ⟨hsp.gm hG3, ⟨setM_same _ _ _, fun d hd => ?_⟩, ⟨⟨by show min (h + 1) 1 ≤ 1; omega, by show 1 ≤ m; omega⟩, rfl, fun d hd => ?_⟩, hm.2, ?_⟩, ?_, b.bp, fun n hn => ?_⟩, hU3.trans b.fb (hsp.up.mono (fun x e => ?_))⟩
  · have hd2 : d ∈ [halfL t1 q, halfR y t1 q] := hd
    simp only [List.mem_cons, List.not_mem_nil, or_false] at hd2
    rcases hd2 with rfl | rfl
    · refine tr_halfL R.tr R.nd hM1 fun cs e => ?_
      rw [setM_other _ _ (Ne.symm hrx), setM_same, hkc cs e]
    · refine tr_halfR R.tr R.nd hM1 fun cs e => ?_
      rw [setM_other _ _ (Ne.symm hry), setM_other _ _ (Ne.symm hyx), setM_same, hkc cs e]
  · have hd2 : d ∈ [halfL t1 q, halfR y t1 q] := hd
    simp only [List.mem_cons, List.not_mem_nil, or_false] at hd2
    rcases hd2 with rfl | rfl
    · exact ok1.weaken (by have := ok1.len; omega) (by have := ok1.len; omega)
    · exact ok2.weaken (by have := ok2.len; omega) (by have := ok2.len; omega)
  · rw [rooted_toL r R.ok y hql, R.li]
    exact insL_sorted b.tm.ss
  · rw [hids]
    refine List.nodup_cons.2 ⟨fun hm => ?_, hp.nodup_iff.2 (List.nodup_cons.2 ⟨fun hm => ?_, R.nd⟩)⟩
    · rcases hmem r hm with h1 | h1
      · exact hry h1
      · have := hlt1 r h1; omega
    · have := hlt1 y hm; omega
  · rw [hids] at hn
    rcases List.mem_cons.1 hn with rfl | hn
    · omega
    · rcases hmem n hn with h1 | h1
      · omega
      · exact hfr1 n h1
  · rcases e with e | e
    · omega
    · have := hfr1 t1.id (id_mem h t1); omega
end Go.Proofs.Ytfhonfeopkhdeaa.BS

namespace Go.Proofs.Ytfhonfeopkhdeaa.BS
open Go.RowKit Go.Proofs.YtfhonfeopkhdeaaW.PrintWords

set_option maxRecDepth 100000 in
set_option maxHeartbeats 4000000 in
theorem Put_full (base p m h : Nat) (t : BT Ky h) (k : Ky) (v : Int) (w : World) (o : Nat → Nat) (M : Nat → Option (Nf Ky)) (b : Bm base w o p m h t M) (hm : 3 ≤ m ∧ m ≤ 64) (hk : KRd w k) (hg : getL kct k (toL h t) = none) (hl : (toL h t).length = 65536) :
    Calls Try.prog 22 #[nv p, kv k, .int .u64 v] w (PutTop base w o p m h t k v) := by
  have HB := Lib.hid b
  have HGD := Lib.hid (good_any p m _ _ w o b.at_)
  have HGT := Lib.hid (get_any p m _ h (min h 1) m t k w o M b.at_ b.tm (by omega) hk)
  obtain ⟨-, p1, -⟩ := b.at_.cells
  rw [hl] at p1
  rw [hg] at HGT
  have HG := Lib.hid hg
  have HL := Lib.hid hl
  clear hg hl b
  unfold nv at *
  go_enter Try.func22, Try.ntmps22
  go_wp2_with (first | (go_at_call 47; refine HGD.out.mono ?_; rintro e w' ⟨rfl, e2⟩; rw [e2]; clear e2 w') | (go_at_call 19; refine HGT.out.mono ?_; rintro e w1 ⟨rfl, mq, rfl⟩))
  go_ret2
  exact ⟨h, t, o, M, ⟨HB.out.at_.drewN _, HB.out.fb.drewN _, HB.out.tm.drewN _, HB.out.nd, HB.out.bp, HB.out.bn⟩, Up.quiet HB.out.fb (below_drewN w _), .inl ⟨⟨HG.out, HL.out⟩, rfl, rfl⟩⟩
theorem Bq.drewN {base : Nat} {w : World} {o : Nat → Nat} {p m sz h : Nat} {t : BT Ky h} {M : Nat → Option (Nf Ky)} (b : Bq base w o p m sz h t M) (n : Nat) : Bq base (w.drewN n) o p m sz h t M := ⟨b.at_.drewN n, b.fb.drewN n, b.tm.drewN n, b.nd, b.bp, b.bn⟩
theorem top_some {base : Nat} {w w2 : World} {o o2 : Nat → Nat} {p m h h2 : Nat} {t : BT Ky h} {t2 : BT Ky h2} {M2 : Nat → Option (Nf Ky)} {k k' : Ky} {v x : Int} (b : Bq base w2 o2 p m (toL h t).length h2 t2 M2) (u : UpB base o o2 w w2) (e : toL h2 t2 = insL kct k' v (toL h t)) (hk : kct k' = kct k) (hg : getL kct k (toL h t) = some x) :
    PutTop base w o p m h t k v (.returned (.tuple #[.bool false, .int .i64 0])) w2 := by
  refine ⟨h2, t2, o2, M2, b.m ?_, u, .inr ⟨(fun ⟨h1, _⟩ => (by rw [hg] at h1; cases h1)), by rw [hg]; rfl, k', hk, e⟩⟩
  rw [e, insL_length, getL_ct hk, hg]
  rfl
theorem top_none {base : Nat} {w w2 : World} {o o2 : Nat → Nat} {p m h h2 : Nat} {t : BT Ky h} {t2 : BT Ky h2} {M2 : Nat → Option (Nf Ky)} {k k' : Ky} {v : Int} (hf : Fb o w) (b : Bq base w2 o2 p m (toL h t).length h2 t2 M2) (u : UpB base o o2 w w2) (e : toL h2 t2 = insL kct k' v (toL h t)) (hk : kct k' = kct k) (hg : getL kct k (toL h t) = none) (hl : ¬ (toL h t).length = 65536) (s : Int) (hs : s = ((toL h t).length : Int) + 1) :
    PutTop base w o p m h t k v (.returned (.tuple #[.bool true, .int .i64 0])) (w2.setCell ⟨p, 1, none⟩ (.int .i64 s)) := by
  obtain ⟨h1, h2'⟩ := b.setSize ((toL h t).length + 1)
  have e1 : (((toL h t).length + 1 : Nat) : Int) = s := by omega
  rw [e1] at h1 h2'
  refine ⟨h2, t2, o2, M2, h1.m ?_, u.trans hf h2', .inr ⟨fun ⟨_, h1⟩ => hl h1, by rw [hg]; rfl, k', hk, e⟩⟩
  rw [e, insL_length, getL_ct hk, hg]
  rfl
set_option maxRecDepth 100000 in
set_option maxHeartbeats 4000000 in
theorem Put_go (base p m h : Nat) (t : BT Ky h) (k : Ky) (v : Int) (w : World) (o : Nat → Nat) (M : Nat → Option (Nf Ky)) (b : Bm base w o p m h t M) (hm : 3 ≤ m ∧ m ≤ 64) (hk : KRd w k) (gl : Option Int) (hg : getL kct k (toL h t) = gl) (hl : gl = none → ¬ (toL h t).length = 65536) (hlen : (toL h t).length ≤ 65536) :
    Calls Try.prog 22 #[nv p, kv k, .int .u64 v] w (PutTop base w o p m h t k v) := by
  have HB := Lib.hid b
  have HGD := Lib.hid (good_any p m _ _ w o b.at_)
  have HGT := Lib.hid (get_any p m _ h (min h 1) m t k w o M b.at_ b.tm (by omega) hk)
  have HPT := Lib.hid (fun mq => put_any p m _ _ hm k v h t (min h 1) (w.drewN mq) o M (b.at_.drewN mq) (b.fb.drewN mq) (b.tm.drewN mq) b.nd (hk.drewN mq))
  obtain ⟨-, p1, -, -, p4⟩ := b.at_.cells
  rw [hg] at HGT
  obtain ⟨s, hs⟩ : ∃ s, s = (toL h t).length := ⟨_, rfl⟩
  rw [← hs] at p1 hl hlen
  have HG := Lib.hid hg
  have HS := Lib.hid hs
  clear hg b hs
  unfold nv at *
  cases gl with
  | none =>
    have hl2 : ¬ ((s : Int) = 65536) := by have := hl rfl; omega
    have hl3 : ((s : Int) == 65536) = false := beq_eq_false_iff_ne.2 hl2
    clear hl
    go_enter Try.func22, Try.ntmps22
    go_upto_region 7 with (first | (go_at_call 47; refine HGD.out.mono ?_; rintro e w' ⟨rfl, e2⟩; rw [e2]; clear e2 w') | (go_at_call 19; refine HGT.out.mono ?_; rintro e w1 ⟨rfl, mq, rfl⟩) | (go_at_call 52; refine (HPT.out _).mono ?_; rintro e w1 ⟨rfl, k', t1, o1, M1, hR⟩; have HR := Lib.hid hR.back; clear hR))
    have HT1 := Lib.hid (show TrAt w1 o1 p m s t.id from by
      rw [HS.out]
      exact HB.out.at_.up HR.out.up (fun ⟨n, hn, e⟩ => HB.out.q.np n hn (by omega)))
    obtain ⟨xk, xv, xc, hX⟩ := HR.out.gm t1.id _ (tr_at HR.out.tr)
    obtain ⟨B1, b1, B2, b2, B3, b3, rfl, rfl, rfl, -, -, -⟩ := hX.row
    obtain ⟨x0, -, -⟩ := hX.cells
    obtain ⟨t0, t1', -, -, t4⟩ := HT1.out.cells
    have f1 := blk_frozen HT1.out.blk 1
    have hxl : (nf t1.its (kidN h t1)).ks.length = t1.its.length := List.length_map _
    rw [hxl, HR.out.id] at x0
    have HX := Lib.hid hX
    clear hX hxl p1 p4
    unfold nv at t4
    by_cases hgt : m < t1.its.length
    · have hgt' : (m : Int) < (t1.its.length : Int) := by omega
      have HRT := Lib.hid (fun nq => nd_root (w := w1.drewN nq) (HR.out.up.fb.drewN nq) t.id)
      have HTR := Lib.hid (fun nq => (HT1.out.drewN nq).up (HRT.out nq).2 id)
      have f4 : ∀ nq, (((w1.drewN nq).alloc (.cells #[.pointer (some ⟨t.id, 0, none⟩)] 61)).alloc (.cells #[.slice none 0 0, .slice none 0 0, .slice (some ⟨w1.heap.size, 0, none⟩) 1 1] 89)).frozen? ⟨p, 4, none⟩ = false := fun nq => blk_frozen (HTR.out nq).blk 4
      have f5 : ∀ nq, (((w1.drewN nq).alloc (.cells #[.pointer (some ⟨t.id, 0, none⟩)] 61)).alloc (.cells #[.slice none 0 0, .slice none 0 0, .slice (some ⟨w1.heap.size, 0, none⟩) 1 1] 89)).cell? ⟨p, 4, none⟩ = some (.pointer (some ⟨t.id, 0, none⟩)) := fun nq => (HTR.out nq).cells.2.2.2.2
      go_quiet (fail)
      go_upto_region 9 with (fail)
      have hL : t1.its.length = m + 1 := by have := HR.out.ok.len.2; omega
      have hql : (m + 1) / 2 < t1.its.length := by omega
      have hid := HR.out.id
      have hpl := blk_lt HT1.out.blk
      have hxl2 := HX.out.lt
      obtain ⟨w3, hw3⟩ : ∃ w3, w3 = ((((w1.drewN nq).alloc (.cells #[.pointer (some ⟨t.id, 0, none⟩)] 61)).alloc (.cells #[.slice none 0 0, .slice none 0 0, .slice (some ⟨w1.heap.size, 0, none⟩) 1 1] 89)).setCell ⟨p, 4, none⟩ (.pointer (some ⟨w1.heap.size + 1, 0, none⟩))) := ⟨_, rfl⟩
      rw [← hw3]
      obtain ⟨hT3, hU3⟩ := (HTR.out nq).root (HRT.out nq).2.fb (w1.heap.size + 1)
      have hN3 := (HRT.out nq).1.up hU3 (fun e => by omega) (fun e => by have : (w1.drewN nq).heap.size = w1.heap.size := rfl; omega)
      have hX3 := ((HX.out.drewN nq).up (HRT.out nq).2 id id).up hU3 (fun e => by omega) (fun e => by rw [hid] at e; exact HB.out.q.np _ (id_mem _ t) (by omega))
      have hG3 : Gm _ _ (setM M1 (w1.heap.size + 1) ⟨[], [], [t.id]⟩) := ((HR.out.gm.drewN nq).set (HRT.out nq).2 (fun _ e => e.elim) (HRT.out nq).1).apart (HTR.out nq) hU3
      have hUB : UpB base o (tgr o1 (w1.heap.size + 1) w1.heap.size) w _ := ((HR.out.up.mono (T := fun x => base + 2 ≤ x) (fun x ⟨n, hn, e⟩ => by have := HB.out.bn n hn; omega)).trans HB.out.fb ((HRT.out nq).2.mono (T := fun x => base + 2 ≤ x) (fun _ e => e.elim)).drew (fun _ e => e) (fun _ _ e => e)).trans HB.out.fb (hU3.mono (T := fun x => base + 2 ≤ x) (fun x e => by have := HB.out.bp; omega)) (fun _ e => e) (fun _ _ e => e)
      have HT3 : Hid (TrAt w3 (tgr o1 (w1.heap.size + 1) w1.heap.size) p m s (w1.heap.size + 1)) := Lib.hid (by rw [hw3]; exact hT3)
      have HN3 : Hid (NdE w3 (tgr o1 (w1.heap.size + 1) w1.heap.size) (w1.heap.size + 1) ⟨[], [], [t.id]⟩) := Lib.hid (by rw [hw3]; exact ⟨_, _, _, hN3⟩)
      have HX3 : Hid (NdE w3 (tgr o1 (w1.heap.size + 1) w1.heap.size) t1.id (nf t1.its (kidN h t1))) := Lib.hid (by rw [hw3]; exact ⟨_, _, _, hX3⟩)
      have HG3 : Hid (Gm w3 (tgr o1 (w1.heap.size + 1) w1.heap.size) (setM M1 (w1.heap.size + 1) ⟨[], [], [t.id]⟩)) := Lib.hid (by rw [hw3]; exact hG3)
      have HUB : Hid (UpB base o (tgr o1 (w1.heap.size + 1) w1.heap.size) w w3) := Lib.hid (by rw [hw3]; exact hUB)
      have HSZ : Hid (w1.heap.size ≤ w3.heap.size) := Lib.hid (by rw [hw3]; simp [World.setCell]; omega)
      have HFB3 : Hid (Fb (tgr o1 (w1.heap.size + 1) w1.heap.size) w3) := Lib.hid (by rw [hw3]; exact hU3.fb)
      clear hw3 hT3 hU3 hN3 hX3 hG3 hUB f4 f5 HRT HTR t0 t1' t4 f1 x0
      have hax : w1.heap.size + 1 ≠ t1.id := by omega
      have HSP := Lib.hid (split_any (nv p) (w1.heap.size + 1) t1.id 0 ((m + 1) / 2) (m + 1) w3 (tgr o1 (w1.heap.size + 1) w1.heap.size) ⟨[], [], [t.id]⟩ (nf t1.its (kidN h t1)) HFB3.out HN3.out HX3.out hax (by show 0 < 1; omega) (by rw [hid]; rfl) (Nat.zero_le _) rfl ⟨by show 1 ≤ 1000; omega, by show 0 ≤ 1000; omega⟩
        (by show (t1.its.map _).length = _; rw [List.length_map]; exact hL) (by show (t1.its.map _).length = _; rw [List.length_map]; exact hL) (by omega) rfl (by omega) (by
          have := kidN_len HR.out.ok
          rw [hL] at this
          exact this) (t1.its[(m + 1) / 2]).1 (t1.its[(m + 1) / 2]).2 (by show (t1.its.map _)[_]? = _; rw [List.getElem?_map, List.getElem?_eq_getElem hql]; rfl) (by show (t1.its.map _)[_]? = _; rw [List.getElem?_map, List.getElem?_eq_getElem hql]; rfl))
      have HL := Lib.hid hL
      have HID := Lib.hid hid
      obtain ⟨-, u1, -, -, u4⟩ := HT3.out.cells
      clear hL hax hid
      unfold nv at HSP u4
      have hp3 : ¬ (p + 2 = w1.heap.size + 1 + 2 ∨ p + 2 = t1.id + 2) := fun e => by
        rcases e with e | e
        · have := blk_lt HT1.out.blk; omega
        · exact HB.out.q.np _ (id_mem _ t) (by rw [← HID.out]; omega)
      have HP3 := Lib.hid hp3
      clear hp3
      go_wp2_with (go_at_call 53; refine HSP.out.mono ?_; rintro e w4 ⟨rfl, y, o4, hsp⟩; have HT4 := Lib.hid (HT3.out.up hsp.up HP3.out); obtain ⟨-, z1, -, -, -⟩ := HT4.out.cells; have z2 := blk_frozen HT4.out.blk 1)
      go_ret2
      have e1 : (⟨(nf t1.its (kidN h t1)).ks.take ((m + 1) / 2), (nf t1.its (kidN h t1)).vs.take ((m + 1) / 2), (nf t1.its (kidN h t1)).cs.take ((m + 1) / 2 + 1)⟩ : Nf Ky) = nf (t1.its.take ((m + 1) / 2)) ((kidN h t1).take ((m + 1) / 2 + 1)) := by
        unfold nf; simp [List.map_take]
      have e2 : (⟨(nf t1.its (kidN h t1)).ks.drop ((m + 1) / 2 + 1), (nf t1.its (kidN h t1)).vs.drop ((m + 1) / 2 + 1), (nf t1.its (kidN h t1)).cs.drop ((m + 1) / 2 + 1)⟩ : Nf Ky) = nf (t1.its.drop ((m + 1) / 2 + 1)) ((kidN h t1).drop ((m + 1) / 2 + 1)) := by
        unfold nf; simp [List.map_drop]
      rw [e1, e2] at hsp
      have h0 : Sp w3 (tgr o1 (w1.heap.size + 1) w1.heap.size) (w1.heap.size + 1) t1.id y (nf [t1.its[(m + 1) / 2]] [t.id, y]) _ _ w4 o4 := hsp
      have hrid : [t.id, y] = [t1.id, y] := by rw [HID.out]
      rw [hrid] at h0
      have hbq : Bq base w o p m s h t M := by rw [HS.out]; exact HB.out.q
      obtain ⟨M4, hq, hu⟩ := root_fin hbq (by omega) HR.out HL.out rfl hql (Nat.le_succ _) HSZ.out HT3.out HG3.out HUB.out h0
      rw [HS.out] at hq
      exact top_none HB.out.fb hq hu ((rooted_toL _ HR.out.ok y hql).trans HR.out.li) HR.out.kk HG.out (by rw [← HS.out]; omega) _ (by rw [← HS.out])
    · have hgt' : decide ((m : Int) < (t1.its.length : Int)) = false := decide_eq_false (by omega)
      have hgt2 : ¬ ((m : Int) < (t1.its.length : Int)) := by omega
      go_quiet (fail)
      go_wp2_with fail
      go_ret2
      obtain ⟨hq, hu⟩ := top_same HB.out.q (by omega) HR.out (by omega)
      exact top_none HB.out.fb (hq.drewN _) (hu.trans HB.out.fb (Up.quiet hq.fb (below_drewN w1 _))) HR.out.li HR.out.kk HG.out (by rw [← HS.out]; omega) _ (by rw [← HS.out])
  | some x =>
    clear hl
    go_enter Try.func22, Try.ntmps22
    go_upto_region 7 with (first | (go_at_call 47; refine HGD.out.mono ?_; rintro e w' ⟨rfl, e2⟩; rw [e2]; clear e2 w') | (go_at_call 19; refine HGT.out.mono ?_; rintro e w1 ⟨rfl, mq, rfl⟩) | (go_at_call 52; refine (HPT.out _).mono ?_; rintro e w1 ⟨rfl, k', t1, o1, M1, hR⟩; have HR := Lib.hid hR.back; clear hR))
    have HT1 := Lib.hid (show TrAt w1 o1 p m s t.id from by
      rw [HS.out]
      exact HB.out.at_.up HR.out.up (fun ⟨n, hn, e⟩ => HB.out.q.np n hn (by omega)))
    obtain ⟨xk, xv, xc, hX⟩ := HR.out.gm t1.id _ (tr_at HR.out.tr)
    obtain ⟨B1, b1, B2, b2, B3, b3, rfl, rfl, rfl, -, -, -⟩ := hX.row
    obtain ⟨x0, -, -⟩ := hX.cells
    obtain ⟨t0, t1', -, -, t4⟩ := HT1.out.cells
    have f1 := blk_frozen HT1.out.blk 1
    have hxl : (nf t1.its (kidN h t1)).ks.length = t1.its.length := List.length_map _
    rw [hxl, HR.out.id] at x0
    have HX := Lib.hid hX
    clear hX hxl p1 p4
    unfold nv at t4
    by_cases hgt : m < t1.its.length
    · have hgt' : (m : Int) < (t1.its.length : Int) := by omega
      have HRT := Lib.hid (fun nq => nd_root (w := w1.drewN nq) (HR.out.up.fb.drewN nq) t.id)
      have HTR := Lib.hid (fun nq => (HT1.out.drewN nq).up (HRT.out nq).2 id)
      have f4 : ∀ nq, (((w1.drewN nq).alloc (.cells #[.pointer (some ⟨t.id, 0, none⟩)] 61)).alloc (.cells #[.slice none 0 0, .slice none 0 0, .slice (some ⟨w1.heap.size, 0, none⟩) 1 1] 89)).frozen? ⟨p, 4, none⟩ = false := fun nq => blk_frozen (HTR.out nq).blk 4
      have f5 : ∀ nq, (((w1.drewN nq).alloc (.cells #[.pointer (some ⟨t.id, 0, none⟩)] 61)).alloc (.cells #[.slice none 0 0, .slice none 0 0, .slice (some ⟨w1.heap.size, 0, none⟩) 1 1] 89)).cell? ⟨p, 4, none⟩ = some (.pointer (some ⟨t.id, 0, none⟩)) := fun nq => (HTR.out nq).cells.2.2.2.2
      go_quiet (fail)
      go_upto_region 9 with (fail)
      have hL : t1.its.length = m + 1 := by have := HR.out.ok.len.2; omega
      have hql : (m + 1) / 2 < t1.its.length := by omega
      have hid := HR.out.id
      have hpl := blk_lt HT1.out.blk
      have hxl2 := HX.out.lt
      obtain ⟨w3, hw3⟩ : ∃ w3, w3 = ((((w1.drewN nq).alloc (.cells #[.pointer (some ⟨t.id, 0, none⟩)] 61)).alloc (.cells #[.slice none 0 0, .slice none 0 0, .slice (some ⟨w1.heap.size, 0, none⟩) 1 1] 89)).setCell ⟨p, 4, none⟩ (.pointer (some ⟨w1.heap.size + 1, 0, none⟩))) := ⟨_, rfl⟩
      rw [← hw3]
      obtain ⟨hT3, hU3⟩ := (HTR.out nq).root (HRT.out nq).2.fb (w1.heap.size + 1)
      have hN3 := (HRT.out nq).1.up hU3 (fun e => by omega) (fun e => by have : (w1.drewN nq).heap.size = w1.heap.size := rfl; omega)
      have hX3 := ((HX.out.drewN nq).up (HRT.out nq).2 id id).up hU3 (fun e => by omega) (fun e => by rw [hid] at e; exact HB.out.q.np _ (id_mem _ t) (by omega))
      have hG3 : Gm _ _ (setM M1 (w1.heap.size + 1) ⟨[], [], [t.id]⟩) := ((HR.out.gm.drewN nq).set (HRT.out nq).2 (fun _ e => e.elim) (HRT.out nq).1).apart (HTR.out nq) hU3
      have hUB : UpB base o (tgr o1 (w1.heap.size + 1) w1.heap.size) w _ := ((HR.out.up.mono (T := fun x => base + 2 ≤ x) (fun x ⟨n, hn, e⟩ => by have := HB.out.bn n hn; omega)).trans HB.out.fb ((HRT.out nq).2.mono (T := fun x => base + 2 ≤ x) (fun _ e => e.elim)).drew (fun _ e => e) (fun _ _ e => e)).trans HB.out.fb (hU3.mono (T := fun x => base + 2 ≤ x) (fun x e => by have := HB.out.bp; omega)) (fun _ e => e) (fun _ _ e => e)
      have HT3 : Hid (TrAt w3 (tgr o1 (w1.heap.size + 1) w1.heap.size) p m s (w1.heap.size + 1)) := Lib.hid (by rw [hw3]; exact hT3)
      have HN3 : Hid (NdE w3 (tgr o1 (w1.heap.size + 1) w1.heap.size) (w1.heap.size + 1) ⟨[], [], [t.id]⟩) := Lib.hid (by rw [hw3]; exact ⟨_, _, _, hN3⟩)
      have HX3 : Hid (NdE w3 (tgr o1 (w1.heap.size + 1) w1.heap.size) t1.id (nf t1.its (kidN h t1))) := Lib.hid (by rw [hw3]; exact ⟨_, _, _, hX3⟩)
      have HG3 : Hid (Gm w3 (tgr o1 (w1.heap.size + 1) w1.heap.size) (setM M1 (w1.heap.size + 1) ⟨[], [], [t.id]⟩)) := Lib.hid (by rw [hw3]; exact hG3)
      have HUB : Hid (UpB base o (tgr o1 (w1.heap.size + 1) w1.heap.size) w w3) := Lib.hid (by rw [hw3]; exact hUB)
      have HSZ : Hid (w1.heap.size ≤ w3.heap.size) := Lib.hid (by rw [hw3]; simp [World.setCell]; omega)
      have HFB3 : Hid (Fb (tgr o1 (w1.heap.size + 1) w1.heap.size) w3) := Lib.hid (by rw [hw3]; exact hU3.fb)
      clear hw3 hT3 hU3 hN3 hX3 hG3 hUB f4 f5 HRT HTR t0 t1' t4 f1 x0
      have hax : w1.heap.size + 1 ≠ t1.id := by omega
      have HSP := Lib.hid (split_any (nv p) (w1.heap.size + 1) t1.id 0 ((m + 1) / 2) (m + 1) w3 (tgr o1 (w1.heap.size + 1) w1.heap.size) ⟨[], [], [t.id]⟩ (nf t1.its (kidN h t1)) HFB3.out HN3.out HX3.out hax (by show 0 < 1; omega) (by rw [hid]; rfl) (Nat.zero_le _) rfl ⟨by show 1 ≤ 1000; omega, by show 0 ≤ 1000; omega⟩
        (by show (t1.its.map _).length = _; rw [List.length_map]; exact hL) (by show (t1.its.map _).length = _; rw [List.length_map]; exact hL) (by omega) rfl (by omega) (by
          have := kidN_len HR.out.ok
          rw [hL] at this
          exact this) (t1.its[(m + 1) / 2]).1 (t1.its[(m + 1) / 2]).2 (by show (t1.its.map _)[_]? = _; rw [List.getElem?_map, List.getElem?_eq_getElem hql]; rfl) (by show (t1.its.map _)[_]? = _; rw [List.getElem?_map, List.getElem?_eq_getElem hql]; rfl))
      have HL := Lib.hid hL
      have HID := Lib.hid hid
      obtain ⟨-, u1, -, -, u4⟩ := HT3.out.cells
      clear hL hax hid
      unfold nv at HSP u4
      have hp3 : ¬ (p + 2 = w1.heap.size + 1 + 2 ∨ p + 2 = t1.id + 2) := fun e => by
        rcases e with e | e
        · have := blk_lt HT1.out.blk; omega
        · exact HB.out.q.np _ (id_mem _ t) (by rw [← HID.out]; omega)
      have HP3 := Lib.hid hp3
      clear hp3
      go_wp2_with (go_at_call 53; refine HSP.out.mono ?_; rintro e w4 ⟨rfl, y, o4, hsp⟩; have HT4 := Lib.hid (HT3.out.up hsp.up HP3.out); obtain ⟨-, z1, -, -, -⟩ := HT4.out.cells; have z2 := blk_frozen HT4.out.blk 1)
      go_ret2
      have e1 : (⟨(nf t1.its (kidN h t1)).ks.take ((m + 1) / 2), (nf t1.its (kidN h t1)).vs.take ((m + 1) / 2), (nf t1.its (kidN h t1)).cs.take ((m + 1) / 2 + 1)⟩ : Nf Ky) = nf (t1.its.take ((m + 1) / 2)) ((kidN h t1).take ((m + 1) / 2 + 1)) := by
        unfold nf; simp [List.map_take]
      have e2 : (⟨(nf t1.its (kidN h t1)).ks.drop ((m + 1) / 2 + 1), (nf t1.its (kidN h t1)).vs.drop ((m + 1) / 2 + 1), (nf t1.its (kidN h t1)).cs.drop ((m + 1) / 2 + 1)⟩ : Nf Ky) = nf (t1.its.drop ((m + 1) / 2 + 1)) ((kidN h t1).drop ((m + 1) / 2 + 1)) := by
        unfold nf; simp [List.map_drop]
      rw [e1, e2] at hsp
      have h0 : Sp w3 (tgr o1 (w1.heap.size + 1) w1.heap.size) (w1.heap.size + 1) t1.id y (nf [t1.its[(m + 1) / 2]] [t.id, y]) _ _ w4 o4 := hsp
      have hrid : [t.id, y] = [t1.id, y] := by rw [HID.out]
      rw [hrid] at h0
      have hbq : Bq base w o p m s h t M := by rw [HS.out]; exact HB.out.q
      obtain ⟨M4, hq, hu⟩ := root_fin hbq (by omega) HR.out HL.out rfl hql (Nat.le_succ _) HSZ.out HT3.out HG3.out HUB.out h0
      rw [HS.out] at hq
      exact top_some hq hu ((rooted_toL _ HR.out.ok y hql).trans HR.out.li) HR.out.kk HG.out
    · have hgt' : decide ((m : Int) < (t1.its.length : Int)) = false := decide_eq_false (by omega)
      have hgt2 : ¬ ((m : Int) < (t1.its.length : Int)) := by omega
      go_quiet (fail)
      go_wp2_with fail
      go_ret2
      obtain ⟨hq, hu⟩ := top_same HB.out.q (by omega) HR.out (by omega)
      exact top_some (hq.drewN _) (hu.trans HB.out.fb (Up.quiet hq.fb (below_drewN w1 _))) HR.out.li HR.out.kk HG.out
end Go.Proofs.Ytfhonfeopkhdeaa.BS

namespace Go.Proofs.Ytfhonfeopkhdeaa.BS
open Go.RowKit Go.Proofs.YtfhonfeopkhdeaaW.PrintWords

theorem Put_any (base p m h : Nat) (t : BT Ky h) (k : Ky) (v : Int) (w : World) (o : Nat → Nat) (M : Nat → Option (Nf Ky)) (b : Bm base w o p m h t M) (hm : 3 ≤ m ∧ m ≤ 64) (hk : KRd w k) (hlen : (toL h t).length ≤ 65536) :
    Calls Try.prog 22 #[nv p, kv k, .int .u64 v] w (PutTop base w o p m h t k v) := by
  by_cases hg : getL kct k (toL h t) = none ∧ (toL h t).length = 65536
  · exact Put_full base p m h t k v w o M b hm hk hg.1 hg.2
  · exact Put_go base p m h t k v w o M b hm hk _ rfl (fun e hl => hg ⟨e, hl⟩) hlen
set_option maxHeartbeats 1000000 in
theorem made_bad (m : Int) (w : World) (h : ¬ (3 ≤ m ∧ m ≤ 64)) : Calls Try.prog 21 #[.int .i64 m] w fun e w' => e = .returned (.pointer none) ∧ w' = w := by
  have hmade : Calls Try.prog 50 #[.int .i64 m, .func (.func 11) #[] #[], .func (.func 51) #[] #[]] w fun e w' => e = .returned (.pointer none) ∧ w' = w := by
    by_cases h3 : m < 3
    · go_enter Try.func50, Try.ntmps50
      go_wp2_with fail
      go_ret
      exact ⟨rfl, rfl⟩
    · have h4 : 64 < m := by omega
      go_enter Try.func50, Try.ntmps50
      go_wp2_with fail
      go_ret
      exact ⟨rfl, rfl⟩
  go_enter Try.func21, Try.ntmps21
  go_wp2_with (go_at_call 50; refine hmade.mono ?_; rintro e w' ⟨rfl, e2⟩; rw [e2]; clear e2 w')
  go_ret
  exact ⟨rfl, rfl⟩
/-- The world behind a new tree. -/
def newW (w : World) (m : Nat) : World := (w.alloc (.cells #[.slice none 0 0, .slice none 0 0, .slice none 0 0] 89)).alloc (.cells #[.int .i64 m, .int .i64 0, .func (.func 11) #[] #[], .func (.func 51) #[] #[], .pointer (some ⟨w.heap.size, 0, none⟩)] 63)
set_option maxHeartbeats 1000000 in
theorem made_ok (m : Nat) (w : World) (h : 3 ≤ m ∧ m ≤ 64) : Calls Try.prog 21 #[.int .i64 m] w fun e w' => e = .returned (.pointer (some ⟨w.heap.size + 1, 0, none⟩)) ∧ w' = newW w m := by
  have h1 : ¬ (m : Int) < 3 := by omega
  have h2 : ¬ 64 < (m : Int) := by omega
  have hmade : Calls Try.prog 50 #[.int .i64 m, .func (.func 11) #[] #[], .func (.func 51) #[] #[]] w fun e w' => e = .returned (.pointer (some ⟨w.heap.size + 1, 0, none⟩)) ∧ w' = newW w m := by
    go_enter Try.func50, Try.ntmps50
    go_wp2_with fail
    go_ret
    exact ⟨rfl, rfl⟩
  go_enter Try.func21, Try.ntmps21
  go_wp2_with (go_at_call 50; refine hmade.mono ?_; rintro e w' ⟨rfl, e2⟩; rw [e2]; clear e2 w')
  go_ret
  exact ⟨rfl, rfl⟩
/-- The tags, a tree having been made. -/
def tgm (o : Nat → Nat) (n : Nat) : Nat → Nat := fun b => if b = n then n + 2 else if b = n + 1 then n + 3 else o b
theorem new_bm {w : World} {o : Nat → Nat} {m : Nat} (hf : Fb o w) (hm : 3 ≤ m ∧ m ≤ 64) :
    Bm w.heap.size (newW w m) (tgm o w.heap.size) (w.heap.size + 1) m 0 (⟨w.heap.size, [], []⟩ : BT Ky 0) (setM (fun _ => none) w.heap.size ⟨[], [], []⟩) ∧ UpB w.heap.size o (tgm o w.heap.size) w (newW w m) := by
  have hs1 : (w.alloc (.cells #[.slice none 0 0, .slice none 0 0, .slice none 0 0] 89)).heap.size = w.heap.size + 1 := by simp
  have hs2 : (newW w m).heap.size = w.heap.size + 2 := by unfold newW; simp
  have hB : Below w.heap.size w (newW w m) := ((Below.refl _ _).alloc (Nat.le_refl _) _).alloc (by omega) _
  have hn : (newW w m).heap[w.heap.size]? = some (.cells #[.slice none 0 0, .slice none 0 0, .slice none 0 0] 89 (0, 0)) := by
    unfold newW
    rw [Below.heap_alloc _ _ _ (by omega)]
    exact top_blk w _ _
  have hp : (newW w m).heap[w.heap.size + 1]? = some (.cells #[.int .i64 m, .int .i64 (0 : Nat), .func (.func 11) #[] #[], .func (.func 51) #[] #[], nv w.heap.size] 63 (0, 0)) := by
    have h := top_blk (w.alloc (.cells #[.slice none 0 0, .slice none 0 0, .slice none 0 0] 89)) #[.int .i64 m, .int .i64 0, .func (.func 11) #[] #[], .func (.func 51) #[] #[], .pointer (some ⟨w.heap.size, 0, none⟩)] 63
    rw [hs1] at h
    exact h
  have t1 : tgm o w.heap.size w.heap.size = w.heap.size + 2 := if_pos rfl
  have t2 : tgm o w.heap.size (w.heap.size + 1) = w.heap.size + 1 + 2 := by unfold tgm; rw [if_neg (by omega), if_pos rfl]
  have t3 : ∀ b, b ≠ w.heap.size → b ≠ w.heap.size + 1 → tgm o w.heap.size b = o b := fun b h1 h2 => by unfold tgm; rw [if_neg h1, if_neg h2]
  have hfb : Fb (tgm o w.heap.size) (newW w m) := ⟨fun b hb => by
    rw [hs2] at hb
    rw [t3 b (by omega) (by omega)]
    exact hf.end_ b (by omega), fun b => by
    rw [hs2]
    have := hf.le b
    by_cases h1 : b = w.heap.size
    · rw [h1, t1]; omega
    · by_cases h2 : b = w.heap.size + 1
      · rw [h2, t2]; omega
      · rw [t3 b h1 h2]; omega⟩
  refine ⟨⟨⟨hp, t2⟩, hfb, ⟨fun n F hF => ?_, setM_same _ _ _, ⟨Nat.zero_le _, Nat.zero_le _⟩, by omega, List.Pairwise.nil⟩, List.pairwise_singleton _ _, by omega, fun n hn => ?_⟩, ⟨hB.os, hB.tape, hB.output, hB.size, fun b hb _ => hB.block b hb, fun b hb => t3 b (by omega) (by omega), hfb⟩⟩
  · by_cases e : n = w.heap.size
    · subst e
      rw [setM_same] at hF
      cases hF
      exact ⟨_, _, _, ⟨hn, t1, Rw.nil _ _, Rw.nil _ _, Rw.nil _ _, (fun g e => by cases e), (fun g e => by cases e), (fun g e => by cases e), fun k hk => by cases hk⟩⟩
    · rw [setM_other _ _ e] at hF
      cases hF
  · rw [List.mem_singleton.1 hn]
    exact Nat.le_refl _
end Go.Proofs.Ytfhonfeopkhdeaa.BS

namespace Go.Proofs.Ytfhonfeopkhdeaa.BS
open Go.RowKit Go.Proofs.YtfhonfeopkhdeaaW.PrintWords

/-- A node, as Nodes tells it. -/
structure Nt where
  lv : Nat
  lf : Bool
  ks : List Ky
def nodesL : (h : Nat) → BT Ky h → Nat → List Nt
  | 0, t, lv => [⟨lv, true, t.its.map (·.1)⟩]
  | h + 1, t, lv => ⟨lv, false, t.its.map (·.1)⟩ :: t.kds.flatMap (fun c => nodesL h c (lv + 1))
theorem nodesL_len : (h : Nat) → (t : BT Ky h) → (lv : Nat) → (nodesL h t lv).length = (ids h t).length
  | 0, _, _ => rfl
  | h + 1, t, lv => by
    show (t.kds.flatMap (fun c => nodesL h c (lv + 1))).length + 1 = (t.kds.flatMap (ids h)).length + 1
    rw [List.length_flatMap, List.length_flatMap, List.map_congr_left fun c _ => nodesL_len h c (lv + 1)]
def ntC (x : Nt × Value) : List Value := [.int .i64 x.1.lv, .bool x.1.lf, x.2]
def ntR (l : List (Nt × Value)) : List Value := l.flatMap ntC
theorem ntR_len (l : List (Nt × Value)) : (ntR l).length = l.length * 3 := by
  induction l with
  | nil => rfl
  | cons a l ih => rw [ntR, List.flatMap_cons, List.length_append, ← ntR, ih, List.length_cons]; show 3 + _ = _; omega
theorem ntR_append (a b : List (Nt × Value)) : ntR (a ++ b) = ntR a ++ ntR b := List.flatMap_append
/-- A row of nodes of one's own. -/
structure NsO (w : World) (base : Nat) (v : Value) (l : List (Nt × Value)) : Prop where
  own : w.ownsRow base 36 3 v l.length (ntR l)
  ks : ∀ x ∈ l, Rw w 9 x.2 (ksR x.1.ks) ∧ ∀ g, x.2.ownBlock = some g → base ≤ g
theorem NsO.nil (w : World) (base : Nat) : NsO w base (.slice none 0 0) [] := ⟨World.ownsRow_nil w _ _ _, fun x hx => by cases hx⟩
theorem own_same (k : Ky) (w : World) : Calls Try.prog 51 #[kv k] w fun e w' => e = .returned (kv k) ∧ w' = w := by
  unfold kv
  go_enter Try.func51, Try.ntmps51
  go_wp2_with fail
  go_ret
  exact ⟨rfl, rfl⟩
theorem ownsRow_keep {w w' : World} {base e size n : Nat} {v : Value} {xs : List Value} (h : w.ownsRow base e size v n xs) (hk : ∀ g, v.ownBlock = some g → g < w.heap.size → w'.heap[g]? = w.heap[g]?) : w'.ownsRow base e size v n xs := by
  refine ⟨h.1, ?_⟩
  rcases h.2 with hn | ⟨g, cap, cur, rfl, hb, hg, rest⟩
  · exact .inl hn
  · exact .inr ⟨g, cap, cur, rfl, hb, (hk g rfl (Array.getElem?_eq_some_iff.1 hg).1).trans hg, rest⟩
theorem ownsRow_is {w : World} {base e size n : Nat} {v : Value} {xs : List Value} (h : w.ownsRow base e size v n xs) {g : Nat} (hg : v.ownBlock = some g) : ∃ cs, w.heap[g]? = some (.cells cs e (0, 0)) := by
  rcases h.2 with ⟨e', _⟩ | ⟨g', cap, cur, e', _, hgb, _⟩
  · rw [e'] at hg; cases hg
  · rw [e'] at hg
    cases hg
    exact ⟨cur, hgb⟩
theorem NsO.grow {w W w7 : World} {base : Nat} {v v7 : Value} {l : List (Nt × Value)} {x : Nt} {u : Value} (h : NsO w base v l) (hb : Below w.heap.size w W) (hg : W.grownBy w7 v.ownBlock) (hown : w7.ownsRow base 36 3 v7 (l.length + 1) (ntR l ++ ntC (x, u))) (hu : Rw W 9 u (ksR x.ks)) (hub : ∀ g, u.ownBlock = some g → base ≤ g) : NsO w7 base v7 (l ++ [(x, u)]) := by
  have hne : ∀ {y : Value} {ys : List Value}, Rw W 9 y ys → Rw w7 9 y ys := fun hy => hy.keep fun g hg2 hl => hg.block g hl fun e => by
    obtain ⟨cs, hc⟩ := ownsRow_is h.own e.symm
    obtain ⟨cur, hc2⟩ := hy.blk hg2
    have hc3 := (hb.block g (Array.getElem?_eq_some_iff.1 hc).1).trans hc
    exact blk_ne hc3 hc2 (by decide) rfl
  refine ⟨?_, fun y hy => ?_⟩
  · rw [List.length_append, ntR_append]
    have e : ntR [(x, u)] = ntC (x, u) := by simp [ntR]
    rw [e]
    exact hown
  · rcases List.mem_append.1 hy with hy | hy
    · obtain ⟨h1, h2⟩ := h.ks y hy
      exact ⟨hne (h1.keep fun g _ hl => hb.block g hl), h2⟩
    · rw [List.mem_singleton.1 hy]
      exact ⟨hne hu, hub⟩
theorem infoNode : (Try.prog.info? 36).map (fun i => (i.zero, i.size, i.bytes)) = some (some (.agg #[.int .i64 0, .bool false, .slice none 0 0]), 3, 40) := by kernel_rfl
/-- The box of a node while its keys are laid. -/
structure NbI (w0 : World) (B lv : Nat) (lf : Bool) (ks : List Ky) (i : Nat) (wr : World) : Prop where
  box : ∃ A c, wr.heap[B]? = some (.cells #[.int .i64 lv, .bool lf, .slice A i c] 36 (0, 0)) ∧ wr.ownsRow B 9 1 (.slice A i c) i (ksR (ks.take i))
  bl : Below B w0 wr
def NodesP (w0 : World) (l : List (Nt × Value)) (L : List Nt) (e : Ending) (w' : World) : Prop :=
  ∃ v' l', e = .returned v' ∧ NsO w' w0.heap.size v' l' ∧ l'.map (·.1) = l.map (·.1) ++ L ∧ Below w0.heap.size w0 w'
/-- What the rounds over the children have told. -/
def upto (L2 : Nat → List Nt) (i : Nat) : List Nt := (List.range i).flatMap L2
theorem upto_succ (L2 : Nat → List Nt) (i : Nat) : upto L2 (i + 1) = upto L2 i ++ L2 i := by unfold upto; rw [List.range_succ, List.flatMap_append]; simp
theorem upto_le (L2 : Nat → List Nt) {i n : Nat} (h : i ≤ n) : (upto L2 i).length ≤ (upto L2 n).length := by
  induction n with
  | zero => rw [Nat.le_zero.1 h]; exact Nat.le_refl _
  | succ n ih =>
    rcases Nat.lt_or_eq_of_le h with h | rfl
    · rw [upto_succ, List.length_append]; have := ih (by omega); omega
    · exact Nat.le_refl _
set_option maxRecDepth 100000 in
set_option maxHeartbeats 4000000 in
theorem nodes_node (p m sz q : Nat) (n : Nat) (its : List (Ky × Int)) (cs : List Nat) (w0 w : World) (o : Nat → Nat) (ht : TrAt w0 o p m sz q) (hN : NdE w0 o n (nf its cs)) (hits : its.length ≤ 1000) (hcs : cs.length ≤ 2000) (lf : Bool) (hlf : lf = decide (cs.length = 0)) (lv : Nat) (hlv : lv ≤ 1000000) (L2 : Nat → List Nt)
    (IH : ∀ j (hj : j < cs.length) (w : World) (v : Value) (l : List (Nt × Value)), Below w0.heap.size w0 w → NsO w w0.heap.size v l → l.length + (L2 j).length ≤ 1000000000 → Calls Try.prog 48 #[nv p, v, nv cs[j], .int .i64 (lv + 1 : Nat)] w (NodesP w0 l (L2 j)))
    (hB : Below w0.heap.size w0 w) (v : Value) (l : List (Nt × Value)) (hO : NsO w w0.heap.size v l) (hl : l.length + 1 + (upto L2 cs.length).length ≤ 1000000000) :
    Calls Try.prog 48 #[nv p, v, nv n, .int .i64 lv] w (NodesP w0 l (⟨lv, lf, its.map (·.1)⟩ :: upto L2 cs.length)) := by
  obtain ⟨vk, vv, vc, hn⟩ := hN
  obtain ⟨A1, c1, A2, c2, A3, c3, rfl, rfl, rfl, q1, q2, q3⟩ := hn.row
  have hkl : (nf its cs).ks.length = its.length := List.length_map _
  have hcl : (nf its cs).cs.length = cs.length := rfl
  have HN := Lib.hid (fun W (hW : Below w0.heap.size w0 W) => hn.keep (w' := W) (o' := o) fun b hb _ => ⟨hW.block b hb, rfl⟩)
  rw [hkl, hcl] at HN
  rw [hkl] at q1
  rw [hcl] at q3
  have HT := Lib.hid (fun W (hW : Below w0.heap.size w0 W) => (⟨(hW.block p (blk_lt ht.blk)).trans ht.blk, ht.tg⟩ : TrAt W o p m sz q))
  have HB := Lib.hid hB
  obtain ⟨-, -, d2⟩ := (HN.out w hB).cells
  have d0 : ∀ ob, (w.alloc ob).cell? ⟨n, 0, none⟩ = some (.slice A1 its.length c1) := fun ob => (HN.out _ (hB.alloc hB.size ob)).cells.1
  have HO := Lib.hid hO
  have eI : ((lv + 1 : Nat) : Int) = (lv : Int) + 1 := by omega
  rw [eI] at IH
  have HIH := Lib.hid IH
  have HLB := Lib.hid hl
  have f1 : ((cs.length : Int) == 0) = lf := by rw [hlf]; by_cases h : cs.length = 0 <;> simp [h]
  have f2 : decide ((cs.length : Int) = 0) = lf := by rw [hlf]; by_cases h : cs.length = 0 <;> simp [h]
  have f3 : decide (cs.length = 0) = lf := hlf.symm
  clear hn hO hB ht IH eI hkl hcl q2 hlf hl
  generalize (nf its cs).vs.length = nv2 at HN
  unfold nv at *
  go_enter Try.func48, Try.ntmps48
  go_wp2_with fail
  have hsz : w.heap.size ≤ w.heap.size := Nat.le_refl _
  obtain ⟨B, hBe⟩ : ∃ B, B = w.heap.size := ⟨_, rfl⟩
  have HI0 : Hid (NbI w B lv lf (its.map (·.1)) 0 (w.alloc (.cells #[.int .i64 lv, .bool lf, .slice none 0 0] 36))) := Lib.hid (by
    subst hBe
    exact ⟨⟨none, 0, top_blk _ _ _, World.ownsRow_nil _ _ _ _⟩, (Below.refl _ _).alloc (Nat.le_refl _) _⟩)
  rw [← hBe]
  have HBE := Lib.hid hBe
  clear hBe hsz d0 d2
  go_loopw [27] (fun t27 wr => ∃ i : Nat, i ≤ its.length ∧ t27 = .int .i64 i ∧ Hid (NbI w B lv lf (its.map (·.1)) i wr)) (fun t27 _ => its.length - (intOf t27).toNat)
  case atStart => exact ⟨0, Nat.zero_le _, rfl, HI0⟩
  case round =>
    obtain ⟨i, hi, rfl, HI⟩ := hrel
    have HBW := Lib.hid (HB.out.trans (HI.out.bl.mono (show w0.heap.size ≤ B from by have := HBE.out; have := HB.out.size; omega)))
    by_cases h : i < its.length
    · have hi1 : (i : Int) < (its.length : Int) := by omega
      obtain ⟨A, cA, hb, ho⟩ := HI.out.box
      obtain ⟨g, rfl, hk1, hk2⟩ := (HN.out _ HBW.out).kcell (i := i) (by show i < (its.map _).length; rw [List.length_map]; exact h)
      have c2 := fun W (hW : Below w0.heap.size w0 W) => (HT.out W hW).cells.2.2.2.1
      have hkk : (nf its cs).ks[i]'(by show i < (its.map _).length; rw [List.length_map]; exact h) = (its[i]).1 := by simp [nf]
      rw [hkk] at hk1
      have c3 := c2 wr HBW.out
      have b1 := blk_cell hb 2
      have b2 := blk_frozen hb 2
      simp only [List.getElem?_toArray, List.getElem?_cons_succ, List.getElem?_cons_zero] at b1
      have HBK := Lib.hid hb
      have HOW := Lib.hid ho
      have HHK := Lib.hid (own_same (its[i]).1 wr.drew)
      have HC2 := Lib.hid c2
      obtain ⟨i0, hi0, hz0, hz1, hz2⟩ := info_parts infoBS
      have hBl := blk_lt hb
      have HBN := Lib.hid (show (Value.slice A i cA).ownBlock ≠ some B from fun e => by
        obtain ⟨cs', hc'⟩ := ownsRow_is ho e
        exact blk_ne hc' hb (by decide) rfl)
      clear c2 hb ho hkk
      generalize hkey : (its[i]).1 = key at hk1 HHK
      have HKE := Lib.hid hkey
      clear hkey
      unfold kv at hk1 HHK
      go_wp2_with fail
      go_region_law (first
        | (go_simp; go_at_call 51; refine HHK.out.mono ?_; rintro e w1 ⟨rfl, e2⟩; have HW1 := Lib.hid e2; have hb1 : Below wr.heap.size wr w1 := (by rw [e2]; exact (Below.refl _ _).drew); clear e2; have HB1 := Lib.hid hb1; clear hb1; have d1 : w1.cell? ⟨B, 2, none⟩ = some (.slice A i cA) := (by rw [HW1.out]; exact b1); have HB2 := Lib.hid (HB1.out.alloc HB1.out.size (.cells #[.string key] 9)); have d2 := (blk_cell ((HB2.out.block B hBl).trans HBK.out) 2); simp only [List.getElem?_toArray, List.getElem?_cons_succ, List.getElem?_cons_zero] at d2)
        | (refine step_append_lies _ rfl (.tmp 32) (.tmp 39) 34 rfl B 9 i0 (.string ⟨#[]⟩) 1 16 Try.underlying34 hi0 hz0 hz1 hz2 rfl (by decide) (.slice A i cA) i (ksR ((its.map (·.1)).take i)) (by simp [Act.eval]) (ownsRow_keep HOW.out fun g hg hl => HB2.out.block g hl) _ 1 1 [.string key] (by simp [Act.eval]) rfl (World.news_of_block (top_blk _ _ _)) (by simp [Value.oneCell']) (by decide) (by simp only [maxLen]; omega) (by omega) (by have := HB2.out.size; omega) _ rfl ?_; intro g7 cap7 w7 hown hgrow hat hlt7; have hp7 := (hgrow.block B (Nat.lt_of_lt_of_le hBl HB2.out.size) (fun e => HBN.out e.symm)).trans ((HB2.out.block B hBl).trans HBK.out); have e75 := blk_cell hp7 2; have e76 := blk_frozen hp7 2; simp only [List.getElem?_toArray, List.getElem?_cons_succ, List.getElem?_cons_zero] at e75; have HOW7 := Lib.hid hown; have HGR7 := Lib.hid hgrow; have HP7 := Lib.hid hp7; clear hp7 hown hgrow hat))
      all_goals
        go_wp2_with fail
        go_roundw
        case measure => simp [intOf]; omega
        case rel =>
          have hown : (w7.setCell ⟨B, 2, none⟩ (.slice (some ⟨g7, 0, none⟩) (i + 1) cap7)).ownsRow B 9 1 (.slice (some ⟨g7, 0, none⟩) (i + 1) cap7) (i + 1) (ksR ((its.map (·.1)).take (i + 1))) := by
            have e : ksR ((its.map (·.1)).take (i + 1)) = ksR ((its.map (·.1)).take i) ++ [.string key] := by
              rw [List.take_add_one, List.getElem?_map, List.getElem?_eq_getElem h]
              simp [ksR, kv, HKE.out]
            rw [e]
            refine ownsRow_keep HOW7.out fun g' hg' _ => Below.heap_setCell w7 ⟨B, 2, none⟩ _ g' fun e2 => ?_
            obtain ⟨cs', hc'⟩ := ownsRow_is HOW7.out hg'
            exact blk_ne hc' HP7.out (by decide) e2
          refine ⟨i + 1, by omega, by simp, Lib.hid ⟨⟨_, _, blk_set HP7.out 2 _, hown⟩, ?_⟩⟩
          have hb2 : Below B wr w7 := by
            have h1 := HB2.out
            refine ⟨HGR7.out.os.trans h1.os, HGR7.out.tape.trans h1.tape, HGR7.out.output.trans h1.output, Nat.le_trans h1.size HGR7.out.size, fun b hb => (HGR7.out.block b (by have := h1.size; omega) (fun e => ?_)).trans (h1.block b (by omega))⟩
            have := (World.ownsRow.lt HOW.out b e.symm).1
            omega
          exact HI.out.bl.trans (hb2.trans ⟨rfl, rfl, rfl, by simp [World.setCell], fun b hb => Below.heap_setCell w7 ⟨B, 2, none⟩ _ b (by show b ≠ B; omega)⟩)
    · have e1 : i = its.length := by omega
      subst e1
      obtain ⟨A, cA, hb, ho⟩ := HI.out.box
      have hBl := blk_lt hb
      have b0 := blk_cell hb 0
      have b1 := blk_cell hb 1
      have b2 := blk_cell hb 2
      simp only [List.getElem?_toArray, List.getElem?_cons_succ, List.getElem?_cons_zero] at b0 b1 b2
      obtain ⟨i0, hi0, hz0, hz1, hz2⟩ := info_parts infoNode
      have hbw : Below w.heap.size w wr := HI.out.bl.mono (by have := HBE.out; omega)
      have hba : Below wr.heap.size wr (wr.alloc (.cells #[.int .i64 lv, .bool lf, .slice A its.length cA] 36)) := (Below.refl _ _).alloc (Nat.le_refl _) _
      have hOw : (wr.alloc (.cells #[.int .i64 lv, .bool lf, .slice A its.length cA] 36)).ownsRow w0.heap.size 36 3 v l.length (ntR l) := ownsRow_keep HO.out.own fun g _ hl => (hba.block g (Nat.lt_of_lt_of_le hl hbw.size)).trans (hbw.block g hl)
      obtain ⟨g7, cap7, w7, hrun, hown, hgrow, hat, hlt7⟩ := run_append_lies (P := Try.prog) _ 29 29 w0.heap.size 36 i0 _ 3 40 Try.underlying29 hi0 hz0 hz1 hz2 rfl (by decide) v l.length (ntR l) hOw ⟨wr.heap.size, 0, none⟩ 1 1 [.int .i64 lv, .bool lf, .slice A its.length cA] rfl (World.news_of_block (top_blk _ _ _)) (by simp [Value.oneCell']) (by decide) (by simp only [maxLen]; have := HLB.out; omega) (by have := HLB.out; omega) (by have := HB.out.size; have := hbw.size; have := hba.size; omega) _ rfl
      have hNs := HO.out.grow (x := ⟨lv, lf, its.map (·.1)⟩) (u := .slice A its.length cA) (hbw.trans (hba.mono hbw.size)) hgrow hown ((Rw.of_own (by rw [List.take_of_length_le (by rw [List.length_map]; exact Nat.le_refl _)] at ho; exact ho) : Rw wr 9 _ _).keep fun g _ hl => hba.block g hl) (fun g hg => by
        have := (World.ownsRow.lt ho g hg).1
        have := HBE.out
        have := HB.out.size
        omega)
      have hB7 : Below w0.heap.size w0 w7 := HB.out.trans (((hbw.trans (hba.mono hbw.size)).mono HB.out.size).trans ⟨hgrow.os, hgrow.tape, hgrow.output, hgrow.size, fun b hb => hgrow.block b (by have := HB.out.size; have := hbw.size; have := hba.size; omega) (fun e => by
        have := (World.ownsRow.lt HO.out.own b e.symm).1
        omega)⟩)
      have HRUN := Lib.hid hrun
      have HNS := Lib.hid hNs
      have HB7 := Lib.hid hB7
      have d7 := (HN.out w7 hB7).cells.2.2
      clear hrun hown hgrow hat hlt7 hNs hB7 hOw hba hbw hb ho hBl hi0 hz0 hz1 hz2 h hi
      go_wp2_with (at_builtin; refine Lib.wpList_append_run _ rfl _ _ _ _ rfl _ _ rfl rfl _ _ HRUN.out ?_)
      clear HBW HI b0 b1 b2 HRUN
      have HV0 : Hid (∃ l', NsO w7 w0.heap.size (.slice (some ⟨g7, 0, none⟩) (l.length + 1) cap7) l' ∧ l'.map (·.1) = l.map (·.1) ++ ⟨lv, lf, its.map (·.1)⟩ :: upto L2 0) := Lib.hid ⟨_, HNS.out, by simp [upto]⟩
      clear HNS
      go_loopw [1, 52] (fun t1 t52 wr => ∃ i : Nat, i ≤ cs.length ∧ t52 = .int .i64 i ∧ Hid (Below w0.heap.size w0 wr) ∧ Hid (∃ l', NsO wr w0.heap.size t1 l' ∧ l'.map (·.1) = l.map (·.1) ++ ⟨lv, lf, its.map (·.1)⟩ :: upto L2 i)) (fun _ t52 _ => cs.length - (intOf t52).toNat)
      case atStart => exact ⟨0, Nat.zero_le _, rfl, HB7, HV0⟩
      case round =>
        obtain ⟨i, hi, rfl, HBI, HVI⟩ := hrel
        by_cases h : i < cs.length
        · have hi1 : (i : Int) < (cs.length : Int) := by omega
          obtain ⟨gc, rfl, hk1, hk2⟩ := (HN.out _ HBI.out).ccell (i := i) (by show i < cs.length; exact h)
          have hkk : (nf its cs).cs[i]'(by show i < cs.length; exact h) = cs[i] := rfl
          rw [hkk] at hk1
          obtain ⟨l', hl1, hl2⟩ := HVI.out
          have hlen : l'.length = l.length + 1 + (upto L2 i).length := by
            have := congrArg List.length hl2
            simp at this
            omega
          have hu1 := upto_le L2 (show i + 1 ≤ cs.length from h)
          have hu2 := congrArg List.length (upto_succ L2 i)
          rw [List.length_append] at hu2
          have HC := Lib.hid (HIH.out i h _ _ l' HBI.out hl1 (by have := HLB.out; omega))
          have HL2 := Lib.hid hl2
          clear hkk hl1 hl2 hlen hu1 hu2
          unfold nv at hk1
          go_wp2_with (go_at_call 48; refine HC.out.mono ?_; rintro e w2 ⟨v2, l2, rfl, hN2, hm2, hB2⟩)
          go_roundw
          case measure => simp [intOf]; omega
          case rel => exact ⟨i + 1, by omega, by simp, Lib.hid hB2, Lib.hid ⟨l2, hN2, by rw [hm2, HL2.out, upto_succ]; simp⟩⟩
        · have e2 : i = cs.length := by omega
          subst e2
          go_wp2_with fail
          go_ret
          obtain ⟨l', hl1, hl2⟩ := HVI.out
          exact ⟨_, l', rfl, hl1, hl2, HBI.out⟩
/-- Any tree's nodes. -/
theorem nodes_any (p m sz q : Nat) (hm : 2 ≤ m ∧ m ≤ 1000) (w0 : World) (o : Nat → Nat) (M : Nat → Option (Nf Ky)) (ht : TrAt w0 o p m sz q) (hg : Gm w0 o M) : ∀ (h : Nat) (t : BT Ky h) (lo hi : Nat), Tr M h t → OkT m h lo hi t → hi ≤ 1000 → ∀ (lv : Nat), lv + h ≤ 1000000 → ∀ (w : World) (v : Value) (l : List (Nt × Value)), Below w0.heap.size w0 w → NsO w w0.heap.size v l → l.length + (ids h t).length ≤ 1000000000 →
    Calls Try.prog 48 #[nv p, v, nv t.id, .int .i64 lv] w (NodesP w0 l (nodesL h t lv))
  | 0, t, lo, hi, hT, hok, hhi, lv, hlv, w, v, l, hB, hO, hl => by
    have := nodes_node p m sz q t.id t.its [] w0 w o ht (hg _ _ hT) (by have := hok.2; omega) (by simp) true rfl lv (by omega) (fun _ => []) (fun j hj => by simp at hj) hB v l hO (by simpa [upto, ids] using hl)
    exact this
  | h + 1, t, lo, hi, hT, hok, hhi, lv, hlv, w, v, l, hB, hO, hl => by
    have hkl : t.kds.length = t.its.length + 1 := hok.2.1
    have hcl : (t.kds.map Nd.id).length = t.kds.length := List.length_map _
    have hil : t.its.length ≤ hi := hok.1.2
    have hU : upto (fun j => match t.kds[j]? with | some c => nodesL h c (lv + 1) | none => []) t.kds.length = t.kds.flatMap (fun c => nodesL h c (lv + 1)) := by
      have gen : ∀ (L : List (BT Ky h)) (n : Nat), n ≤ L.length → upto (fun j => match L[j]? with | some c => nodesL h c (lv + 1) | none => []) n = (L.take n).flatMap (fun c => nodesL h c (lv + 1)) := fun L n => by
        induction n with
        | zero => intro _; rfl
        | succ n ih =>
          intro hn
          rw [upto_succ, ih (by omega), List.take_add_one, List.getElem?_eq_getElem (by omega), List.flatMap_append]
          simp
      rw [gen _ _ (Nat.le_refl _), List.take_length]
    have hsub : ∀ c ∈ t.kds, (ids h c).length + 1 ≤ (ids (h + 1) t).length := fun c hc => by
      show (ids h c).length + 1 ≤ (t.kds.flatMap (ids h)).length + 1
      obtain ⟨s1, s2, e⟩ := List.append_of_mem hc
      rw [e, List.flatMap_append, List.flatMap_cons]
      simp
      omega
    have hlenU : (t.kds.flatMap (fun c => nodesL h c (lv + 1))).length + 1 = (ids (h + 1) t).length := nodesL_len (h + 1) t lv
    have := nodes_node p m sz q t.id t.its (t.kds.map Nd.id) w0 w o ht (hg _ _ hT.1) (by omega) (by omega) false (by rw [hcl, hkl]; simp) lv (by omega) (fun j => match t.kds[j]? with | some c => nodesL h c (lv + 1) | none => []) (fun j hj w v l hB hO hl => by
      have hj2 : j < t.kds.length := by omega
      have hc : t.kds[j] ∈ t.kds := List.getElem_mem _
      simp only [List.getElem?_eq_getElem hj2, List.getElem_map] at hl ⊢
      refine nodes_any p m sz q hm w0 o M ht hg h t.kds[j] (m / 2) m (hT.2 _ hc) (hok.2.2 _ hc) hm.2 (lv + 1) (by omega) w v l hB hO ?_
      rw [nodesL_len] at hl
      exact hl) hB v l hO (by rw [hcl, hU]; omega)
    rw [hcl, hU] at this
    exact this
theorem weave_len {β : Type} : ∀ (I : List β) (C : List (List β)), C.length = I.length + 1 → (weave I C).length = I.length + (C.map List.length).sum
  | [], [], h => by simp at h
  | [], [c], _ => by simp [weave]
  | [], _ :: _ :: _, h => by simp at h
  | _ :: _, [], h => by simp at h
  | a :: I, c :: C, h => by
    have := weave_len I C (by simpa using h)
    show (c ++ a :: weave I C).length = _
    rw [List.length_append, List.length_cons, this]
    simp
    omega
theorem sum_le {α : Type} {f g : α → Nat} : ∀ (l : List α), (∀ c ∈ l, f c ≤ g c) → (l.map f).sum ≤ (l.map g).sum
  | [], _ => Nat.le_refl _
  | a :: l, h => by
    have := sum_le l (fun c hc => h c (List.mem_cons_of_mem _ hc))
    have := h a List.mem_cons_self
    simp
    omega
theorem toL_len {m h lo hi : Nat} {t : BT Ky (h + 1)} (ho : OkT m (h + 1) lo hi t) : (toL (h + 1) t).length = t.its.length + (t.kds.map fun c => (toL h c).length).sum := by
  show (weave t.its (List.map (toL h) t.kds)).length = _
  rw [weave_len _ _ (by rw [List.length_map]; exact ho.kids), List.map_map]
  rfl
theorem ids_len {h : Nat} (t : BT Ky (h + 1)) : (ids (h + 1) t).length = 1 + (t.kds.map fun c => (ids h c).length).sum := by
  show (t.id :: t.kds.flatMap (ids h)).length = _
  rw [List.length_cons, List.length_flatMap]
  omega
theorem ids_le {m : Nat} (hm : 2 ≤ m) : ∀ {h lo hi : Nat} {t : BT Ky h}, OkT m h lo hi t → (ids h t).length ≤ (toL h t).length + 1 ∧ (1 ≤ lo → (ids h t).length ≤ (toL h t).length) ∧ h + 1 ≤ (ids h t).length
  | 0, lo, hi, t, ho => by
    have h1 := ho.1
    show 1 ≤ t.its.length + 1 ∧ (1 ≤ lo → 1 ≤ t.its.length) ∧ 1 ≤ 1
    omega
  | h + 1, lo, hi, t, ho => by
    have hs := sum_le t.kds (f := fun c => (ids h c).length) (g := fun c => (toL h c).length) (fun c hc => (ids_le hm (ho.2.2 c hc)).2.1 (by omega))
    rw [toL_len ho, ids_len]
    have hk : t.kds.length = t.its.length + 1 := ho.2.1
    have hlo := ho.1.1
    refine ⟨by omega, fun h1 => by omega, ?_⟩
    obtain ⟨c, L, e⟩ : ∃ c L, t.kds = c :: L := by
      cases hh : t.kds with
      | nil => rw [hh] at hk; simp at hk
      | cons c L => exact ⟨c, L, rfl⟩
    have hc := (ids_le hm (ho.2.2 c (by rw [e]; exact List.mem_cons_self))).2.2
    rw [e]
    simp
    omega
/-- What Nodes tells. -/
def nodesT (h : Nat) (t : BT Ky h) : List Nt := if (toL h t).length = 0 then [] else nodesL h t 0
set_option maxRecDepth 100000 in
theorem Nodes_any (base p m h : Nat) (t : BT Ky h) (w : World) (o : Nat → Nat) (M : Nat → Option (Nf Ky)) (b : Bm base w o p m h t M) (hm : 3 ≤ m ∧ m ≤ 64) (hlen : (toL h t).length ≤ 65536) :
    Calls Try.prog 17 #[nv p] w (NodesP w [] (nodesT h t)) := by
  have HGD := Lib.hid (good_any p m _ _ w o b.at_)
  obtain ⟨h1, h2, h3⟩ := ids_le (by omega) b.tm.ok
  have HND := Lib.hid (nodes_any p m _ t.id (by omega) w o M b.at_ b.tm.gm h t _ _ b.tm.tr b.tm.ok b.tm.le 0 (by omega) w _ _ (Below.refl _ _) (NsO.nil w w.heap.size) (by simp; omega))
  obtain ⟨-, p1, -, -, p4⟩ := b.at_.cells
  by_cases hz : (toL h t).length = 0
  · have e : nodesT h t = [] := if_pos hz
    rw [hz] at p1
    have HF := Lib.hid (show NodesP w [] (nodesT h t) (.returned (.slice none 0 0)) w from ⟨_, [], rfl, NsO.nil _ _, by rw [e]; rfl, Below.refl _ _⟩)
    clear b e hz hlen h1 h2 h3
    unfold nv at *
    go_enter Try.func17, Try.ntmps17
    go_wp2_with (go_at_call 47; refine HGD.out.mono ?_; rintro e w' ⟨rfl, e2⟩; rw [e2]; clear e2 w')
    go_ret
    exact HF.out
  · have e : nodesT h t = nodesL h t 0 := if_neg hz
    rw [e]
    have hz2 : ¬ (((toL h t).length : Int) = 0) := by omega
    have hz3 : (((toL h t).length : Int) == 0) = false := beq_eq_false_iff_ne.2 hz2
    generalize (toL h t).length = sz at p1 hz hz2 hz3 HGD hlen HND
    clear b e h1 h2 h3
    unfold nv at *
    go_enter Try.func17, Try.ntmps17
    go_wp2_with (first | (go_at_call 47; refine HGD.out.mono ?_; rintro e w' ⟨rfl, e2⟩; rw [e2]; clear e2 w') | (go_at_call 48; refine HND.out.mono ?_; rintro e w2 ⟨v2, l2, rfl, hN2, hm2, hB2⟩))
    go_ret
    exact ⟨_, _, rfl, hN2, hm2, hB2⟩
end Go.Proofs.Ytfhonfeopkhdeaa.BS
