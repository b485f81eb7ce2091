/-
  Put: the whole tree; a new root. No premise.
-/
import Derived.Test.YtfhonfeopkhdeaaBtYS
namespace Go.Proofs.Ytfhonfeopkhdeaa.BS
open Go.RowKit Go.Proofs.YtfhonfeopkhdeaaW.PrintWords

/-- A tree that some calls made: its own block p, its nodes, all at base or behind it. -/
structure Bm (base : Nat) (w : World) (o : Nat → Nat) (p m h : Nat) (t : BT Ky h) (M : Nat → Option (Nf Ky)) : Prop where
  at_ : TrAt w o p m (toL h t).length t.id
  fb : Fb o w
  tm : Tm w o M h m (min h 1) m t
  nd : (ids h t).Nodup
  bp : base ≤ p
  bn : ∀ n ∈ ids h t, base ≤ n
abbrev UpB (base : Nat) := Up (fun x => base + 2 ≤ x)
theorem UpB.trans {base : Nat} {o o' o'' : Nat → Nat} {a b c : World} (hf : Fb o a) (h : UpB base o o' a b) (k : UpB base o' o'' b c) : UpB base o o'' a c := Up.trans hf h k (fun _ e => e) (fun _ _ e => e)
theorem top_blk (W : World) (cs : Array Value) (t : TypeId) : (W.alloc (.cells cs t)).heap[W.heap.size]? = some (.cells cs t (0, 0)) := by
  show (W.heap.push _)[W.heap.size]? = _
  simp
/-- The tags, a root having been made. -/
def tgr (o : Nat → Nat) (r g : Nat) : Nat → Nat := fun b => if b = r ∨ b = g then r + 2 else o b
/-- A root without keys over a node. -/
theorem nd_root {w : World} {o : Nat → Nat} (hf : Fb o w) (c : Nat) :
    NdAt ((w.alloc (.cells #[nv c] 61)).alloc (.cells #[.slice none 0 0, .slice none 0 0, .slice (some ⟨w.heap.size, 0, none⟩) 1 1] 89)) (tgr o (w.heap.size + 1) w.heap.size) (w.heap.size + 1) (.slice none 0 0) (.slice none 0 0) (.slice (some ⟨w.heap.size, 0, none⟩) 1 1) ⟨[], [], [c]⟩ ∧
    Up (fun _ => False) o (tgr o (w.heap.size + 1) w.heap.size) w ((w.alloc (.cells #[nv c] 61)).alloc (.cells #[.slice none 0 0, .slice none 0 0, .slice (some ⟨w.heap.size, 0, none⟩) 1 1] 89)) := by
  have hB1 : Below w.heap.size w (w.alloc (.cells #[nv c] 61)) := (Below.refl _ _).alloc (Nat.le_refl _) _
  have hs1 : (w.alloc (.cells #[nv c] 61)).heap.size = w.heap.size + 1 := by simp
  have hB2 : Below w.heap.size w ((w.alloc (.cells #[nv c] 61)).alloc (.cells #[.slice none 0 0, .slice none 0 0, .slice (some ⟨w.heap.size, 0, none⟩) 1 1] 89)) := hB1.alloc (by omega) _
  have hs2 : ((w.alloc (.cells #[nv c] 61)).alloc (.cells #[.slice none 0 0, .slice none 0 0, .slice (some ⟨w.heap.size, 0, none⟩) 1 1] 89)).heap.size = w.heap.size + 2 := by simp
  have hg : ((w.alloc (.cells #[nv c] 61)).alloc (.cells #[.slice none 0 0, .slice none 0 0, .slice (some ⟨w.heap.size, 0, none⟩) 1 1] 89)).heap[w.heap.size]? = some (.cells #[nv c] 61 (0, 0)) := by
    rw [Below.heap_alloc _ _ _ (by omega)]
    show (w.heap.push _)[w.heap.size]? = _
    simp
  have hr : ((w.alloc (.cells #[nv c] 61)).alloc (.cells #[.slice none 0 0, .slice none 0 0, .slice (some ⟨w.heap.size, 0, none⟩) 1 1] 89)).heap[w.heap.size + 1]? = some (.cells #[.slice none 0 0, .slice none 0 0, .slice (some ⟨w.heap.size, 0, none⟩) 1 1] 89 (0, 0)) := by
    have h := top_blk (w.alloc (.cells #[nv c] 61)) #[.slice none 0 0, .slice none 0 0, .slice (some ⟨w.heap.size, 0, none⟩) 1 1] 89
    rw [hs1] at h
    exact h
  refine ⟨⟨hr, if_pos (.inl rfl), Rw.nil _ _, Rw.nil _ _, Rw.mk (xs := [nv c]) hg (Nat.le_refl _) (Nat.le_refl _) (by simp [maxLen]) rfl, (fun g e => by cases e), (fun g e => by cases e), fun g e => ?_, fun k hk => by cases hk⟩, ⟨hB2.os, hB2.tape, hB2.output, hB2.size, fun b hb _ => hB2.block b hb, fun b hb => ?_, ⟨fun b hb => ?_, fun b => ?_⟩⟩⟩
  · injection e with e
    exact if_pos (.inr e.symm)
  · exact if_neg (by omega)
  · rw [hs2] at hb
    exact (if_neg (by omega)).trans (hf.end_ b (by omega))
  · rw [hs2]
    have := hf.le b
    unfold tgr
    split <;> omega
/-- What is left by a put into the whole tree. -/
def PutTop (base : Nat) (w : World) (o : Nat → Nat) (p m h : Nat) (t : BT Ky h) (k : Ky) (v : Int) (e : Ending) (w' : World) : Prop :=
  ∃ (h' : Nat) (t' : BT Ky h') (o' : Nat → Nat) (M' : Nat → Option (Nf Ky)), Bm base w' o' p m h' t' M' ∧ UpB base o o' w w' ∧
    (((getL kct k (toL h t) = none ∧ (toL h t).length = 65536) ∧ e = .returned (.tuple #[.bool false, .int .i64 7]) ∧ toL h' t' = toL h t) ∨
      (¬ (getL kct k (toL h t) = none ∧ (toL h t).length = 65536) ∧ e = .returned (.tuple #[.bool (getL kct k (toL h t)).isNone, .int .i64 0]) ∧ ∃ k', kct k' = kct k ∧ toL h' t' = insL kct k' v (toL h t)))
theorem getL_ct {l : List (Ky × Int)} {k k' : Ky} (e : kct k' = kct k) : getL kct k' l = getL kct k l := by
  induction l with
  | nil => rfl
  | cons a r ih =>
    have h : kc kct k' a.1 = kc kct k a.1 := by unfold kc; rw [e]
    rw [getL, getL, h, ih]
/-- The tree's block with another size and root. -/
theorem TrAt.root {w : World} {o : Nat → Nat} {p m sz q : Nat} (h : TrAt w o p m sz q) (hf : Fb o w) (r : Nat) : TrAt (w.setCell ⟨p, 4, none⟩ (nv r)) o p m sz r ∧ Up (· = p + 2) o o w (w.setCell ⟨p, 4, none⟩ (nv r)) := by
  refine ⟨⟨?_, h.tg⟩, rfl, rfl, rfl, by simp [World.setCell], fun b _ hS => Below.heap_setCell w ⟨p, 4, none⟩ _ b (fun e => hS (by rw [show b = p from e, h.tg])), fun _ _ => rfl, hf.mono (by simp [World.setCell])⟩
  have := blk_set h.blk 4 (nv r)
  exact this
theorem TrAt.size {w : World} {o : Nat → Nat} {p m sz q : Nat} (h : TrAt w o p m sz q) (hf : Fb o w) (s : Nat) : TrAt (w.setCell ⟨p, 1, none⟩ (.int .i64 s)) o p m s q ∧ Up (· = p + 2) o o w (w.setCell ⟨p, 1, none⟩ (.int .i64 s)) := by
  refine ⟨⟨?_, h.tg⟩, rfl, rfl, rfl, by simp [World.setCell], fun b _ hS => Below.heap_setCell w ⟨p, 1, none⟩ _ b (fun e => hS (by rw [show b = p from e, h.tg])), fun _ _ => rfl, hf.mono (by simp [World.setCell])⟩
  have := blk_set h.blk 1 (.int .i64 s)
  exact this
/-- The same with a size that is told. -/
structure Bq (base : Nat) (w : World) (o : Nat → Nat) (p m sz h : Nat) (t : BT Ky h) (M : Nat → Option (Nf Ky)) : Prop where
  at_ : TrAt w o p m sz t.id
  fb : Fb o w
  tm : Tm w o M h m (min h 1) m t
  nd : (ids h t).Nodup
  bp : base ≤ p
  bn : ∀ n ∈ ids h t, base ≤ n
theorem Bm.q {base : Nat} {w : World} {o : Nat → Nat} {p m h : Nat} {t : BT Ky h} {M : Nat → Option (Nf Ky)} (b : Bm base w o p m h t M) : Bq base w o p m (toL h t).length h t M := ⟨b.at_, b.fb, b.tm, b.nd, b.bp, b.bn⟩
theorem Bq.m {base : Nat} {w : World} {o : Nat → Nat} {p m sz h : Nat} {t : BT Ky h} {M : Nat → Option (Nf Ky)} (b : Bq base w o p m sz h t M) (e : sz = (toL h t).length) : Bm base w o p m h t M := ⟨e ▸ b.at_, b.fb, b.tm, b.nd, b.bp, b.bn⟩
theorem Bq.np {base : Nat} {w : World} {o : Nat → Nat} {p m sz h : Nat} {t : BT Ky h} {M : Nat → Option (Nf Ky)} (b : Bq base w o p m sz h t M) : ∀ n ∈ ids h t, n ≠ p := fun n hn e => by
  obtain ⟨F, hF⟩ := tr_ids b.tm.tr n hn
  obtain ⟨_, _, _, hnd⟩ := b.tm.gm n F hF
  exact b.at_.ne hnd e.symm
theorem Tm.up {w w' : World} {o o' : Nat → Nat} {M : Nat → Option (Nf Ky)} {h m lo hi : Nat} {t : BT Ky h} (T : Tm w o M h m lo hi t) (g : Gm w' o' M) : Tm w' o' M h m lo hi t := ⟨g, T.tr, T.ok, T.le, T.ss⟩
/-- A step that turns the tree's own block alone. -/
theorem Gm.apart {w w' : World} {o o' : Nat → Nat} {M : Nat → Option (Nf Ky)} {p m sz q : Nat} (g : Gm w o M) (ht : TrAt w o p m sz q) (u : Up (· = p + 2) o o' w w') : Gm w' o' M := fun n F hF => by
  obtain ⟨vk, vv, vc, hn⟩ := g n F hF
  exact ⟨vk, vv, vc, hn.up u (fun e => by omega) (fun e => ht.ne hn (by omega))⟩
theorem Bq.setSize {base : Nat} {w : World} {o : Nat → Nat} {p m sz h : Nat} {t : BT Ky h} {M : Nat → Option (Nf Ky)} (b : Bq base w o p m sz h t M) (s : Nat) : Bq base (w.setCell ⟨p, 1, none⟩ (.int .i64 s)) o p m s h t M ∧ UpB base o o w (w.setCell ⟨p, 1, none⟩ (.int .i64 s)) := by
  obtain ⟨h1, h2⟩ := b.at_.size b.fb s
  exact ⟨⟨h1, h2.fb, b.tm.up (b.tm.gm.apart b.at_ h2), b.nd, b.bp, b.bn⟩, h2.mono (fun x e => by have := b.bp; omega)⟩
theorem top_same {base : Nat} {w w1 : World} {o o1 : Nat → Nat} {p m sz h : Nat} {t t1 : BT Ky h} {M M1 : Nat → Option (Nf Ky)} {k k' : Ky} {v : Int} (b : Bq base w o p m sz h t M) (hm : m ≤ 1000) (R : PutR w o M h t m (min h 1) k v w1 k' t1 o1 M1) (hle : t1.its.length ≤ m) :
    Bq base w1 o1 p m sz h t1 M1 ∧ UpB base o o1 w w1 := by
  have hnp := b.np
  refine ⟨⟨?_, R.up.fb, ⟨R.gm, R.tr, R.ok.weaken R.ok.len.1 hle, hm, ?_⟩, R.nd, b.bp, fun n hn => ?_⟩, R.up.mono (fun x ⟨n, hn, e⟩ => by have := b.bn n hn; omega)⟩
  · rw [R.id]
    exact b.at_.up R.up (fun ⟨n, hn, e⟩ => hnp n hn (by omega))
  · rw [R.li]
    exact insL_sorted b.tm.ss
  · rcases R.fr n hn with h1 | h1
    · exact b.bn n h1
    · have h2 := b.tm.lt t.id (id_mem h t)
      have h3 := b.bn t.id (id_mem h t)
      omega
/-- The tree when its root has been parted below a new one. -/
def rooted {h : Nat} (r : Nat) (t1 : BT Ky h) (q y : Nat) (b : Ky × Int) : BT Ky (h + 1) := ⟨r, [b], ([halfL t1 q, halfR y t1 q] : List (BT Ky h))⟩
theorem rooted_toL {m h lo hi : Nat} (r : Nat) {t1 : BT Ky h} (ho : OkT m h lo hi t1) {q : Nat} (y : Nat) (hq : q < t1.its.length) : toL (h + 1) (rooted r t1 q y t1.its[q]) = toL h t1 := by
  rw [toL_half ho y hq]
  rfl
theorem root_fin {base : Nat} {w w1 w3 w4 : World} {o o1 o3 o4 : Nat → Nat} {p m sz h r y q : Nat} {t t1 : BT Ky h} {M M1 : Nat → Option (Nf Ky)} {F0 : Nf Ky} {k k' : Ky} {v : Int} (b : Bq base w o p m sz h t M) (hm : 3 ≤ m ∧ m ≤ 1000) (R : PutR w o M h t m (min h 1) k v w1 k' t1 o1 M1) (hgt : t1.its.length = m + 1) (hq : q = (m + 1) / 2) (hql : q < t1.its.length)
    (hr : w1.heap.size ≤ r) (h13 : w1.heap.size ≤ w3.heap.size) (hT3 : TrAt w3 o3 p m sz r) (hG3 : Gm w3 o3 (setM M1 r F0)) (hU3 : UpB base o o3 w w3)
    (hsp : Sp w3 o3 r t1.id y (nf [t1.its[q]] [t1.id, y]) (nf (t1.its.take q) ((kidN h t1).take (q + 1))) (nf (t1.its.drop (q + 1)) ((kidN h t1).drop (q + 1))) w4 o4) :
    ∃ M4, Bq base w4 o4 p m sz (h + 1) (rooted r t1 q y t1.its[q]) M4 ∧ UpB base o o4 w w4 := by
  have hnp := b.np
  have hwb : base ≤ w.heap.size := by
    have h2 := b.tm.lt t.id (id_mem h t)
    have h3 := b.bn t.id (id_mem h t)
    omega
  have hww := R.up.size
  have hlt1 := R.lt
  have hfr1 : ∀ n ∈ ids h t1, base ≤ n := fun n hn => by
    rcases R.fr n hn with h1 | h1
    · exact b.bn n h1
    · omega
  have hyw := hsp.yn
  have hnp1 : t1.id ≠ p := by rw [R.id]; exact hnp _ (id_mem h t)
  have hrp : r ≠ p := fun e => by have := blk_lt b.at_.blk; omega
  have hrx : r ≠ t1.id := fun e => by have := hlt1 t1.id (id_mem h t1); omega
  have hyx : t1.id ≠ y := fun e => by have := hlt1 t1.id (id_mem h t1); omega
  have hry : r ≠ y := fun e => by
    have : r < w3.heap.size := hG3.lt (setM_same M1 r F0)
    omega
  have hpy : y ≠ p := fun e => by have := blk_lt hT3.blk; omega
  have hM1 : ∀ n ∈ ids h t1, n ≠ t1.id → setM (setM (setM (setM M1 r F0) y (nf (t1.its.drop (q + 1)) ((kidN h t1).drop (q + 1)))) t1.id (nf (t1.its.take q) ((kidN h t1).take (q + 1)))) r (nf [t1.its[q]] [t1.id, y]) n = M1 n := fun n hn hne => by
    have h1 := hlt1 n hn
    rw [setM_other _ _ (show n ≠ r from by omega), setM_other _ _ hne, setM_other _ _ (show n ≠ y from by omega), setM_other _ _ (show n ≠ r from by omega)]
  have hat := tr_at R.tr
  have hkc : ∀ cs, M1 t1.id = some (nf t1.its cs) → kidN h t1 = cs := fun cs e => by
    rw [hat] at e
    exact congrArg Nf.cs (Option.some.inj e)
  have hp := half_ids y t1 q
  have hids : ids (h + 1) (rooted r t1 q y t1.its[q]) = r :: (ids h (halfL t1 q) ++ ids h (halfR y t1 q)) := by
    show r :: ([halfL t1 q, halfR y t1 q] : List (BT Ky h)).flatMap (ids h) = _
    simp
  have hmem : ∀ n, n ∈ ids h (halfL t1 q) ++ ids h (halfR y t1 q) → n = y ∨ n ∈ ids h t1 := fun n hn => List.mem_cons.1 (hp.mem_iff.1 hn)
  obtain ⟨ok1, ok2⟩ := half_ok R.ok y hql
  refine ⟨_, ⟨hT3.up hsp.up (fun e => by omega), hsp.up.fb, ⟨hsp.gm hG3, ⟨setM_same _ _ _, fun d hd => ?_⟩, ⟨⟨by show min (h + 1) 1 ≤ 1; omega, by show 1 ≤ m; omega⟩, rfl, fun d hd => ?_⟩, hm.2, ?_⟩, ?_, b.bp, fun n hn => ?_⟩, hU3.trans b.fb (hsp.up.mono (fun x e => ?_))⟩
  · have hd2 : d ∈ [halfL t1 q, halfR y t1 q] := hd
    simp only [List.mem_cons, List.not_mem_nil, or_false] at hd2
    rcases hd2 with rfl | rfl
    · refine tr_halfL R.tr R.nd hM1 fun cs e => ?_
      rw [setM_other _ _ (Ne.symm hrx), setM_same, hkc cs e]
    · refine tr_halfR R.tr R.nd hM1 fun cs e => ?_
      rw [setM_other _ _ (Ne.symm hry), setM_other _ _ (Ne.symm hyx), setM_same, hkc cs e]
  · have hd2 : d ∈ [halfL t1 q, halfR y t1 q] := hd
    simp only [List.mem_cons, List.not_mem_nil, or_false] at hd2
    rcases hd2 with rfl | rfl
    · exact ok1.weaken (by have := ok1.len; omega) (by have := ok1.len; omega)
    · exact ok2.weaken (by have := ok2.len; omega) (by have := ok2.len; omega)
  · rw [rooted_toL r R.ok y hql, R.li]
    exact insL_sorted b.tm.ss
  · rw [hids]
    refine List.nodup_cons.2 ⟨fun hm => ?_, hp.nodup_iff.2 (List.nodup_cons.2 ⟨fun hm => ?_, R.nd⟩)⟩
    · rcases hmem r hm with h1 | h1
      · exact hry h1
      · have := hlt1 r h1; omega
    · have := hlt1 y hm; omega
  · rw [hids] at hn
    rcases List.mem_cons.1 hn with rfl | hn
    · omega
    · rcases hmem n hn with h1 | h1
      · omega
      · exact hfr1 n h1
  · rcases e with e | e
    · omega
    · have := hfr1 t1.id (id_mem h t1); omega
end Go.Proofs.Ytfhonfeopkhdeaa.BS
