/-
  mend: what it leaves, whichever neighbour helps. No premise.
  mend: a child that has a key too few. No premise.
  mend: any child that has a key too few. No premise.
-/
import Derived.Test.YtfhonfeopkhdeaaBtTr
import Derived.Test.YtfhonfeopkhdeaaBtSrC
import Derived.Test.YtfhonfeopkhdeaaBtSlC
import Derived.Test.YtfhonfeopkhdeaaBtJnC
namespace Go.Proofs.Ytfhonfeopkhdeaa.BC
open Go.RowKit Go.Proofs.YtfhonfeopkhdeaaW.PrintWords

theorem kidN_kidM : (h : Nat) → (t : BT Ky h) → kidN h t = kidM h t.cs
  | 0, _ => rfl
  | _ + 1, _ => rfl
theorem Th.gm {w wc : World} {o oc : Nat → Nat} {a x y : Nat} {FA FX FY : Nf Ky} {M : Nat → Option (Nf Ky)} (h : Th w o a x y FA FX FY wc oc) (g : Gm w o M) : Gm wc oc (setM (setM (setM M y FY) x FX) a FA) := fun b G hG => by
  by_cases e1 : b = a
  · subst e1
    rw [setM_same] at hG
    cases hG
    exact h.na
  · rw [setM_other _ _ e1] at hG
    by_cases e2 : b = x
    · subst e2
      rw [setM_same] at hG
      cases hG
      exact h.nx
    · rw [setM_other _ _ e2] at hG
      by_cases e3 : b = y
      · subst e3
        rw [setM_same] at hG
        cases hG
        exact h.ny
      · rw [setM_other _ _ e3] at hG
        obtain ⟨vk, vv, vc, hb⟩ := g b G hG
        exact ⟨vk, vv, vc, hb.up h.up (fun e => by omega) (fun e => by omega)⟩
/-- What mend leaves of the node that it was handed. -/
structure MdR (w : World) (o : Nat → Nat) (M : Nat → Option (Nf Ky)) (h : Nat) (t : BT Ky (h + 1)) (m lo : Nat) (w' : World) (t' : BT Ky (h + 1)) (o' : Nat → Nat) (M' : Nat → Option (Nf Ky)) : Prop where
  id : t'.id = t.id
  ok : OkT m (h + 1) (lo - 1) m t'
  li : toL (h + 1) t' = toL (h + 1) t
  gm : Gm w' o' M'
  tr : Tr M' (h + 1) t'
  nd : (ids (h + 1) t').Nodup
  fr : ∀ n ∈ ids (h + 1) t', n ∈ ids (h + 1) t
  up : Up (fun x => ∃ n ∈ ids (h + 1) t, x = n + 2) o o' w w'
  re : ∀ n, n ∉ ids (h + 1) t → M' n = M n
/-- Two neighbours of a node. -/
structure Two {h : Nat} (t : BT Ky (h + 1)) (J1 J2 : List (Ky × Int)) (b : Ky × Int) (D1 D2 : List (BT Ky h)) (l r : BT Ky h) : Prop where
  its : t.its = J1 ++ b :: J2
  kds : t.kds = D1 ++ l :: r :: D2
  l1 : D1.length = J1.length
  l2 : J2.length = D2.length
theorem Two.ids {h : Nat} {t : BT Ky (h + 1)} {J1 J2 : List (Ky × Int)} {b : Ky × Int} {D1 D2 : List (BT Ky h)} {l r : BT Ky h} (T : Two t J1 J2 b D1 D2 l r) : ids (h + 1) t = (t.id :: D1.flatMap (Go.Proofs.Ytfhonfeopkhdeaa.ids h)) ++ ((Go.Proofs.Ytfhonfeopkhdeaa.ids h l ++ Go.Proofs.Ytfhonfeopkhdeaa.ids h r) ++ D2.flatMap (Go.Proofs.Ytfhonfeopkhdeaa.ids h)) := by
  show t.id :: t.kds.flatMap (Go.Proofs.Ytfhonfeopkhdeaa.ids h) = _
  rw [T.kds, List.flatMap_append, List.flatMap_cons, List.flatMap_cons, List.append_assoc]
  rfl
theorem Two.toL {h : Nat} {t : BT Ky (h + 1)} {J1 J2 : List (Ky × Int)} {b : Ky × Int} {D1 D2 : List (BT Ky h)} {l r : BT Ky h} (T : Two t J1 J2 b D1 D2 l r) : toL (h + 1) t = preW (D1.map (Go.Proofs.Ytfhonfeopkhdeaa.toL h)) J1 ++ ((Go.Proofs.Ytfhonfeopkhdeaa.toL h l ++ b :: Go.Proofs.Ytfhonfeopkhdeaa.toL h r) ++ postW J2 (D2.map (Go.Proofs.Ytfhonfeopkhdeaa.toL h))) := by
  rw [← toL_two (n := t.id) T.l1 T.l2]
  show weave t.its (List.map _ t.kds) = weave (J1 ++ b :: J2) (List.map _ (D1 ++ l :: r :: D2))
  rw [T.its, T.kds]
/-- The blocks of the parts are apart. -/
structure Apart {h : Nat} (t : BT Ky (h + 1)) (D1 D2 : List (BT Ky h)) (l r : BT Ky h) : Prop where
  tl : t.id ≠ l.id
  tr : t.id ≠ r.id
  lr : l.id ≠ r.id
  cl : ∀ n, n ∈ idsC h l.cs ∨ n ∈ idsC h r.cs → n ≠ t.id ∧ n ≠ l.id ∧ n ≠ r.id
  dd : ∀ d, d ∈ D1 ∨ d ∈ D2 → ∀ n ∈ ids h d, n ≠ t.id ∧ n ≠ l.id ∧ n ≠ r.id
theorem Two.apart {h : Nat} {t : BT Ky (h + 1)} {J1 J2 : List (Ky × Int)} {b : Ky × Int} {D1 D2 : List (BT Ky h)} {l r : BT Ky h} (T : Two t J1 J2 b D1 D2 l r) (hnd : (Go.Proofs.Ytfhonfeopkhdeaa.ids (h + 1) t).Nodup) : Apart t D1 D2 l r := by
  rw [T.ids, ids_idsC l, ids_idsC r] at hnd
  simp only [List.nodup_append, List.nodup_cons, List.mem_append, List.mem_cons, List.cons_append, List.append_assoc, not_or] at hnd
  refine ⟨?_, ?_, ?_, ?_, ?_⟩ <;> grind
theorem Two.mem {h : Nat} {t : BT Ky (h + 1)} {J1 J2 : List (Ky × Int)} {b : Ky × Int} {D1 D2 : List (BT Ky h)} {l r : BT Ky h} (T : Two t J1 J2 b D1 D2 l r) : (∀ d, d ∈ D1 ∨ d ∈ D2 → d ∈ t.kds) ∧ l ∈ t.kds ∧ r ∈ t.kds := by
  rw [T.kds]
  refine ⟨fun d hd => ?_, by simp, by simp⟩
  rcases hd with h | h <;> simp [h]
theorem md_shift {w w' : World} {o o' : Nat → Nat} {M : Nat → Option (Nf Ky)} {h m lo : Nat} {t : BT Ky (h + 1)} {J1 J2 : List (Ky × Int)} {b b' : Ky × Int} {D1 D2 : List (BT Ky h)} {l r l' r' : BT Ky h} (_hf : Fb o w) (gm : Gm w o M) (tr : Tr M (h + 1) t) (nd : (ids (h + 1) t).Nodup) (T : Two t J1 J2 b D1 D2 l r)
    (len : lo ≤ t.its.length ∧ t.its.length ≤ m) (od : ∀ d, d ∈ D1 ∨ d ∈ D2 → OkT m h (m / 2) m d) (hl : l'.id = l.id) (hr : r'.id = r.id) (ol : OkT m h (m / 2) m l') (or' : OkT m h (m / 2) m r') (eL : toL h l' ++ b' :: toL h r' = toL h l ++ b :: toL h r) (hp : (ids h l' ++ ids h r').Perm (ids h l ++ ids h r))
    (hkl : ∀ c ∈ l'.cs, c ∈ l.cs ∨ c ∈ r.cs) (hkr : ∀ c ∈ r'.cs, c ∈ l.cs ∨ c ∈ r.cs) (hT : Th w o t.id l.id r.id (nf (J1 ++ b' :: J2) (kidM (h + 1) t.cs)) (nf l'.its (kidM h l'.cs)) (nf r'.its (kidM h r'.cs)) w' o') :
    ∃ M', MdR w o M h t m lo w' ⟨t.id, J1 ++ b' :: J2, (D1 ++ l' :: r' :: D2 : List (BT Ky h))⟩ o' M' := by
  have A := T.apart nd
  obtain ⟨m1, m2, m3⟩ := T.mem
  have e1 : t.its.length = J1.length + (J2.length + 1) := by rw [T.its]; simp
  have hids : ids (h + 1) (⟨t.id, J1 ++ b' :: J2, (D1 ++ l' :: r' :: D2 : List (BT Ky h))⟩ : BT Ky (h + 1)) = (t.id :: D1.flatMap (ids h)) ++ ((ids h l' ++ ids h r') ++ D2.flatMap (ids h)) := ids_two
  have hperm : (ids (h + 1) (⟨t.id, J1 ++ b' :: J2, (D1 ++ l' :: r' :: D2 : List (BT Ky h))⟩ : BT Ky (h + 1))).Perm (ids (h + 1) t) := by
    rw [hids, T.ids]
    exact List.Perm.append_left _ (List.Perm.append_right _ hp)
  refine ⟨_, rfl, ⟨⟨?_, ?_⟩, ?_, fun d hd => ?_⟩, ?_, hT.gm gm, ⟨?_, fun d hd => ?_⟩, hperm.nodup_iff.2 nd, fun n hn => hperm.mem_iff.1 hn, hT.up.mono (fun x e => ?_), fun n hn => ?_⟩
  · show lo - 1 ≤ (J1 ++ b' :: J2).length
    have := len.1; simp; omega
  · show (J1 ++ b' :: J2).length ≤ m
    have := len.2; simp; omega
  · show (D1 ++ l' :: r' :: D2).length = (J1 ++ b' :: J2).length + 1
    have := T.l1
    have := T.l2
    simp; omega
  · rcases List.mem_append.1 hd with h1 | h1
    · exact od d (.inl h1)
    · rcases List.mem_cons.1 h1 with rfl | h1
      · exact ol
      · rcases List.mem_cons.1 h1 with rfl | h1
        · exact or'
        · exact od d (.inr h1)
  · rw [T.toL, ← eL]
    exact toL_two T.l1 T.l2
  · rw [setM_same]
    have e2 : kidM (h + 1) t.cs = (D1 ++ l' :: r' :: D2).map Nd.id := by
      show t.kds.map Nd.id = _
      rw [T.kds]
      simp [hl, hr]
    rw [e2]
    rfl
  · have hM : ∀ n, n ≠ t.id ∧ n ≠ l.id ∧ n ≠ r.id → setM (setM (setM M r.id (nf r'.its (kidM h r'.cs))) l.id (nf l'.its (kidM h l'.cs))) t.id (nf (J1 ++ b' :: J2) (kidM (h + 1) t.cs)) n = M n := fun n ⟨a, b, c⟩ => by rw [setM_other _ _ a, setM_other _ _ b, setM_other _ _ c]
    rcases List.mem_append.1 hd with h1 | h1
    · exact (tr.2 d (m1 d (.inl h1))).congr fun n hn => hM n (A.dd d (.inl h1) n hn)
    · rcases List.mem_cons.1 h1 with rfl | h1
      · refine tr_mix (tr.2 l m2) (tr.2 r m3) (fun n hn => hM n (A.cl n hn)) ?_ hkl
        rw [hl, setM_other _ _ (Ne.symm A.tl), setM_same]
      · rcases List.mem_cons.1 h1 with rfl | h1
        · refine tr_mix (tr.2 l m2) (tr.2 r m3) (fun n hn => hM n (A.cl n hn)) ?_ hkr
          rw [hr, setM_other _ _ (Ne.symm A.tr), setM_other _ _ (Ne.symm A.lr), setM_same]
        · exact (tr.2 d (m1 d (.inr h1))).congr fun n hn => hM n (A.dd d (.inr h1) n hn)
  · have hi : ∀ d ∈ t.kds, d.id ∈ ids (h + 1) t := fun d hd => List.mem_cons_of_mem _ (List.mem_flatMap.2 ⟨d, hd, id_mem h d⟩)
    rcases e with e | e | e
    · exact ⟨_, id_mem _ t, e⟩
    · exact ⟨_, hi l m2, e⟩
    · exact ⟨_, hi r m3, e⟩
  · have hi : ∀ d ∈ t.kds, d.id ∈ ids (h + 1) t := fun d hd => List.mem_cons_of_mem _ (List.mem_flatMap.2 ⟨d, hd, id_mem h d⟩)
    rw [setM_other _ _ (show n ≠ t.id from fun e => hn (by rw [e]; exact id_mem _ t)), setM_other _ _ (show n ≠ l.id from fun e => hn (by rw [e]; exact hi l m2)), setM_other _ _ (show n ≠ r.id from fun e => hn (by rw [e]; exact hi r m3))]
theorem md_join {w w' : World} {o o' : Nat → Nat} {M : Nat → Option (Nf Ky)} {h m lo lo1 hi1 lo2 hi2 : Nat} {t : BT Ky (h + 1)} {J1 J2 : List (Ky × Int)} {b : Ky × Int} {D1 D2 : List (BT Ky h)} {l r : BT Ky h} (_hf : Fb o w) (gm : Gm w o M) (tr : Tr M (h + 1) t) (nd : (ids (h + 1) t).Nodup) (T : Two t J1 J2 b D1 D2 l r)
    (len : lo ≤ t.its.length ∧ t.its.length ≤ m) (od : ∀ d, d ∈ D1 ∨ d ∈ D2 → OkT m h (m / 2) m d) (ol : OkT m h lo1 hi1 l) (or' : OkT m h lo2 hi2 r) (hn1 : m / 2 ≤ l.its.length + 1 + r.its.length) (hn2 : l.its.length + 1 + r.its.length ≤ m)
    (hT : Th w o t.id l.id r.id (nf (J1 ++ J2) (kidM (h + 1) (D1 ++ l :: D2 : List (BT Ky h)))) (nf (joinT b l r).its (kidM h (joinT b l r).cs)) (nf r.its (kidM h r.cs)) w' o') :
    ∃ M', MdR w o M h t m lo w' ⟨t.id, J1 ++ J2, (D1 ++ joinT b l r :: D2 : List (BT Ky h))⟩ o' M' := by
  have A := T.apart nd
  obtain ⟨m1, m2, m3⟩ := T.mem
  have e1 : t.its.length = J1.length + (J2.length + 1) := by rw [T.its]; simp
  have hids : ids (h + 1) (⟨t.id, J1 ++ J2, (D1 ++ joinT b l r :: D2 : List (BT Ky h))⟩ : BT Ky (h + 1)) = (t.id :: D1.flatMap (ids h)) ++ (ids h (joinT b l r) ++ D2.flatMap (ids h)) := ids_kid
  have hjp := join_ids b l r
  have hsub : ∀ n ∈ ids (h + 1) (⟨t.id, J1 ++ J2, (D1 ++ joinT b l r :: D2 : List (BT Ky h))⟩ : BT Ky (h + 1)), n ∈ ids (h + 1) t := fun n hn => by
    rw [hids] at hn
    rw [T.ids]
    rcases List.mem_append.1 hn with h1 | h1
    · exact List.mem_append.2 (.inl h1)
    · rcases List.mem_append.1 h1 with h1 | h1
      · exact List.mem_append.2 (.inr (List.mem_append.2 (.inl (hjp.mem_iff.1 (List.mem_cons_of_mem _ h1)))))
      · exact List.mem_append.2 (.inr (List.mem_append.2 (.inr h1)))
  have hnd2 : (ids (h + 1) (⟨t.id, J1 ++ J2, (D1 ++ joinT b l r :: D2 : List (BT Ky h))⟩ : BT Ky (h + 1))).Nodup := by
    rw [hids]
    have n1 := nd
    rw [T.ids] at n1
    have hp2 : ((t.id :: D1.flatMap (ids h)) ++ ((r.id :: ids h (joinT b l r)) ++ D2.flatMap (ids h))).Nodup := ((List.Perm.append_left _ (List.Perm.append_right _ hjp)).nodup_iff).2 n1
    refine hp2.sublist ?_
    refine List.Sublist.append_left ?_ _
    refine List.Sublist.append_right ?_ _
    exact List.sublist_cons_self _ _
  have okj : OkT m h (m / 2) m (joinT b l r) := by
    refine ok_mix ol or' ?_ ?_ (fun hh => ?_) (fun c hc => List.mem_append.1 hc)
    · show m / 2 ≤ (l.its ++ [b] ++ r.its).length
      simp; omega
    · show (l.its ++ [b] ++ r.its).length ≤ m
      simp; omega
    · show (l.cs ++ r.cs).length = (l.its ++ [b] ++ r.its).length + 1
      rcases ol.cs_len with ⟨e, _⟩ | ⟨_, e1⟩
      · exact absurd e hh
      · rcases or'.cs_len with ⟨e, _⟩ | ⟨_, e2⟩
        · exact absurd e hh
        · simp; omega
  refine ⟨_, rfl, ⟨⟨?_, ?_⟩, ?_, fun d hd => ?_⟩, ?_, hT.gm gm, ⟨?_, fun d hd => ?_⟩, hnd2, hsub, hT.up.mono (fun x e => ?_), fun n hn => ?_⟩
  · show lo - 1 ≤ (J1 ++ J2).length
    have := len.1; simp; omega
  · show (J1 ++ J2).length ≤ m
    have := len.2; simp; omega
  · show (D1 ++ joinT b l r :: D2).length = (J1 ++ J2).length + 1
    have := T.l1
    have := T.l2
    simp; omega
  · rcases List.mem_append.1 hd with h1 | h1
    · exact od d (.inl h1)
    · rcases List.mem_cons.1 h1 with rfl | h1
      · exact okj
      · exact od d (.inr h1)
  · rw [T.toL, ← join_toL ol or']
    exact toL_node T.l1 T.l2
  · rw [setM_same]
    have e2 : kidM (h + 1) (D1 ++ l :: D2 : List (BT Ky h)) = (D1 ++ joinT b l r :: D2).map Nd.id := by
      show (D1 ++ l :: D2).map Nd.id = _
      simp [joinT]
    rw [e2]
    rfl
  · have hM : ∀ n, n ≠ t.id ∧ n ≠ l.id ∧ n ≠ r.id → setM (setM (setM M r.id (nf r.its (kidM h r.cs))) l.id (nf (joinT b l r).its (kidM h (joinT b l r).cs))) t.id (nf (J1 ++ J2) (kidM (h + 1) (D1 ++ l :: D2 : List (BT Ky h)))) n = M n := fun n ⟨a, b, c⟩ => by rw [setM_other _ _ a, setM_other _ _ b, setM_other _ _ c]
    rcases List.mem_append.1 hd with h1 | h1
    · exact (tr.2 d (m1 d (.inl h1))).congr fun n hn => hM n (A.dd d (.inl h1) n hn)
    · rcases List.mem_cons.1 h1 with rfl | h1
      · refine tr_mix (tr.2 l m2) (tr.2 r m3) (fun n hn => hM n (A.cl n hn)) ?_ (fun c hc => List.mem_append.1 hc)
        show setM _ _ _ l.id = _
        rw [setM_other _ _ (Ne.symm A.tl), setM_same]
      · exact (tr.2 d (m1 d (.inr h1))).congr fun n hn => hM n (A.dd d (.inr h1) n hn)
  · have hi : ∀ d ∈ t.kds, d.id ∈ ids (h + 1) t := fun d hd => List.mem_cons_of_mem _ (List.mem_flatMap.2 ⟨d, hd, id_mem h d⟩)
    rcases e with e | e | e
    · exact ⟨_, id_mem _ t, e⟩
    · exact ⟨_, hi l m2, e⟩
    · exact ⟨_, hi r m3, e⟩
  · have hi : ∀ d ∈ t.kds, d.id ∈ ids (h + 1) t := fun d hd => List.mem_cons_of_mem _ (List.mem_flatMap.2 ⟨d, hd, id_mem h d⟩)
    rw [setM_other _ _ (show n ≠ t.id from fun e => hn (by rw [e]; exact id_mem _ t)), setM_other _ _ (show n ≠ l.id from fun e => hn (by rw [e]; exact hi l m2)), setM_other _ _ (show n ≠ r.id from fun e => hn (by rw [e]; exact hi r m3))]
def MdP (w : World) (o : Nat → Nat) (M : Nat → Option (Nf Ky)) (h : Nat) (t : BT Ky (h + 1)) (m lo : Nat) (e : Ending) (w' : World) : Prop := e = .returned (.tuple #[]) ∧ ∃ t' o' M', MdR w o M h t m lo w' t' o' M'
theorem nf_set {its J1 J2 : List (Ky × Int)} {b : Ky × Int} (e : its = J1 ++ b :: J2) (k : Ky) (v : Int) (cs : List Nat) : (⟨(nf its cs).ks.set J1.length k, (nf its cs).vs.set J1.length v, (nf its cs).cs⟩ : Nf Ky) = nf (J1 ++ (k, v) :: J2) cs := by
  subst e
  unfold nf
  simp only [List.map_append, List.map_cons, Nf.mk.injEq, and_true]
  refine ⟨?_, ?_⟩
  · rw [List.set_append_right _ _ (by simp)]
    simp
  · rw [List.set_append_right _ _ (by simp)]
    simp
theorem nf_at {its : List (Ky × Int)} {cs : List Nat} {i : Nat} {b : Ky × Int} (e : its[i]? = some b) : (nf its cs).ks[i]? = some b.1 ∧ (nf its cs).vs[i]? = some b.2 := by
  unfold nf
  simp only [List.getElem?_map, e, Option.map_some, and_self]
theorem nf_len (its : List (Ky × Int)) (cs : List Nat) : (nf its cs).ks.length = its.length ∧ (nf its cs).vs.length = its.length := by
  unfold nf
  simp
theorem two_at {h : Nat} {t : BT Ky (h + 1)} {J1 J2 : List (Ky × Int)} {b : Ky × Int} {D1 D2 : List (BT Ky h)} {l r : BT Ky h} (T : Two t J1 J2 b D1 D2 l r) (its : List (Ky × Int)) : (nf its (kidM (h + 1) t.cs)).cs[J1.length]? = some l.id ∧ (nf its (kidM (h + 1) t.cs)).cs[J1.length + 1]? = some r.id ∧ t.its[J1.length]? = some b := by
  have e : kidM (h + 1) t.cs = D1.map Nd.id ++ l.id :: r.id :: D2.map Nd.id := by
    show t.kds.map Nd.id = _
    rw [T.kds]
    simp
  have hl := T.l1
  refine ⟨?_, ?_, ?_⟩
  · show (kidM (h + 1) t.cs)[J1.length]? = _
    rw [e, ← hl]
    simp
  · show (kidM (h + 1) t.cs)[J1.length + 1]? = _
    rw [e, ← hl, List.getElem?_append_right (by simp)]
    simp
  · rw [T.its]
    simp
theorem mdShiftR {w : World} {o : Nat → Nat} {M : Nat → Option (Nf Ky)} {h m lo : Nat} {t : BT Ky (h + 1)} {J1 J2 : List (Ky × Int)} {b : Ky × Int} {D1 D2 : List (BT Ky h)} {l r : BT Ky h} (hm : m ≤ 64 ∧ 3 ≤ m) (hf : Fb o w) (gm : Gm w o M) (tr : Tr M (h + 1) t) (nd : (ids (h + 1) t).Nodup) (T : Two t J1 J2 b D1 D2 l r)
    (len : lo ≤ t.its.length ∧ t.its.length ≤ m) (od : ∀ d, d ∈ D1 ∨ d ∈ D2 → OkT m h (m / 2) m d) (ol : OkT m h (m / 2 + 1) m l) (or' : OkT m h (m / 2 - 1) (m / 2 - 1) r) :
    Calls Try.prog 107 #[nv t.id, .int .i64 J1.length, .bool true] w (MdP w o M h t m lo) := by
  have A := T.apart nd
  obtain ⟨m1, m2, m3⟩ := T.mem
  obtain ⟨t1, t2, t3⟩ := two_at T t.its
  have hln := ol.len
  have hrn := or'.len
  obtain ⟨e, he⟩ : ∃ e, l.its[l.its.length - 1]? = some e := ⟨_, List.getElem?_eq_getElem (by omega)⟩
  obtain ⟨b1, b2⟩ := nf_at (cs := kidM (h + 1) t.cs) t3
  obtain ⟨c1, c2⟩ := nf_at (cs := kidM h l.cs) he
  obtain ⟨n1, n2⟩ := nf_len l.its (kidM h l.cs)
  obtain ⟨n3, n4⟩ := nf_len r.its (kidM h r.cs)
  have kl : l.cs.length ≤ m + 1 := by rcases ol.cs_len with ⟨_, e⟩ | ⟨_, e⟩ <;> rw [e] <;> simp <;> omega
  have kr : r.cs.length ≤ m + 1 := by rcases or'.cs_len with ⟨_, e⟩ | ⟨_, e⟩ <;> rw [e] <;> simp <;> omega
  have kt : t.kds.length ≤ m + 1 := by
    have := T.l1
    have := T.l2
    have := len.2
    rw [T.its] at this
    rw [T.kds]
    simp at this ⊢
    omega
  refine (shiftR_any t.id l.id r.id J1.length l.its.length w o (nf t.its (kidM (h + 1) t.cs)) (nf l.its (kidM h l.cs)) (nf r.its (kidM h r.cs)) hf (gm _ _ tr.1) (gm _ _ (tr_top (tr.2 l m2))) (gm _ _ (tr_top (tr.2 r m3))) A.tl A.tr A.lr t1 t2 (by show (t.kds.map Nd.id).length ≤ 1000; rw [List.length_map]; omega) n1 n2 (by omega) (by omega) (by omega) (by omega) (by show (kidM h r.cs).length ≤ 1000; rw [kidM_len or']; omega) (by show (kidM h l.cs).length ≤ 1001; rw [kidM_len ol]; omega) b.1 e.1 b.2 e.2 b1 b2 c1 c2).mono ?_
  rintro en w' ⟨rfl, o', hT⟩
  rw [nf_set T.its] at hT
  have e1 : (⟨(nf l.its (kidM h l.cs)).ks.take ((nf l.its (kidM h l.cs)).ks.length - 1), (nf l.its (kidM h l.cs)).vs.take ((nf l.its (kidM h l.cs)).ks.length - 1), (nf l.its (kidM h l.cs)).cs.take ((nf l.its (kidM h l.cs)).cs.length - 1)⟩ : Nf Ky) = nf (shrL l).its (kidM h (shrL l).cs) := by
    rw [n1]
    show _ = nf (l.its.take (l.its.length - 1)) (kidM h (l.cs.take (l.cs.length - 1)))
    rw [kidM_take, ← kidM_len ol]
    unfold nf
    simp [List.map_take]
  have e2 : (⟨b.1 :: (nf r.its (kidM h r.cs)).ks, b.2 :: (nf r.its (kidM h r.cs)).vs, (nf l.its (kidM h l.cs)).cs.drop ((nf l.its (kidM h l.cs)).cs.length - 1) ++ (nf r.its (kidM h r.cs)).cs⟩ : Nf Ky) = nf (shrR b l r).its (kidM h (shrR b l r).cs) := by
    show _ = nf (b :: r.its) (kidM h (l.cs.drop (l.cs.length - 1) ++ r.cs))
    rw [kidM_append, kidM_drop, ← kidM_len ol]
    rfl
  rw [e1, e2] at hT
  have ol' : OkT m h (m / 2) m (shrL l) := ok_mix ol or' (by show m / 2 ≤ (l.its.take _).length; rw [List.length_take]; omega) (by show (l.its.take _).length ≤ m; rw [List.length_take]; omega) (fun hh => by
    rcases ol.cs_len with ⟨e, _⟩ | ⟨_, e⟩
    · exact absurd e hh
    · show (l.cs.take _).length = (l.its.take _).length + 1
      rw [List.length_take, List.length_take]; omega) (fun c hc => .inl (List.mem_of_mem_take hc))
  have or2 : OkT m h (m / 2) m (shrR b l r) := ok_mix ol or' (by show m / 2 ≤ (b :: r.its).length; simp; omega) (by show (b :: r.its).length ≤ m; simp; omega) (fun hh => by
    rcases ol.cs_len with ⟨e, _⟩ | ⟨_, e⟩
    · exact absurd e hh
    · rcases or'.cs_len with ⟨e, _⟩ | ⟨_, e2⟩
      · exact absurd e hh
      · show (l.cs.drop _ ++ r.cs).length = (b :: r.its).length + 1
        simp; omega) (fun c hc => (List.mem_append.1 hc).imp (fun q => List.mem_of_mem_drop q) id)
  obtain ⟨M', hM⟩ := md_shift (l' := shrL l) (r' := shrR b l r) hf gm tr nd T len od rfl rfl ol' or2 (shr_toL ol or' he) (shr_ids b l r) (fun c hc => .inl (List.mem_of_mem_take hc)) (fun c hc => (List.mem_append.1 hc).imp (fun q => List.mem_of_mem_drop q) id) hT
  exact ⟨rfl, _, o', M', hM⟩
theorem mdShiftL {w : World} {o : Nat → Nat} {M : Nat → Option (Nf Ky)} {h m lo : Nat} {t : BT Ky (h + 1)} {J1 J2 : List (Ky × Int)} {b : Ky × Int} {D1 D2 : List (BT Ky h)} {l r : BT Ky h} (hm : m ≤ 64 ∧ 3 ≤ m) (hf : Fb o w) (gm : Gm w o M) (tr : Tr M (h + 1) t) (nd : (ids (h + 1) t).Nodup) (T : Two t J1 J2 b D1 D2 l r)
    (len : lo ≤ t.its.length ∧ t.its.length ≤ m) (od : ∀ d, d ∈ D1 ∨ d ∈ D2 → OkT m h (m / 2) m d) (ol : OkT m h (m / 2 - 1) (m / 2 - 1) l) (or' : OkT m h (m / 2 + 1) m r) :
    Calls Try.prog 107 #[nv t.id, .int .i64 J1.length, .bool false] w (MdP w o M h t m lo) := by
  have A := T.apart nd
  obtain ⟨m1, m2, m3⟩ := T.mem
  obtain ⟨t1, t2, t3⟩ := two_at T t.its
  have hln := ol.len
  have hrn := or'.len
  obtain ⟨e, he⟩ : ∃ e, r.its[0]? = some e := ⟨_, List.getElem?_eq_getElem (by omega)⟩
  obtain ⟨b1, b2⟩ := nf_at (cs := kidM (h + 1) t.cs) t3
  obtain ⟨c1, c2⟩ := nf_at (cs := kidM h r.cs) he
  obtain ⟨n1, n2⟩ := nf_len l.its (kidM h l.cs)
  obtain ⟨n3, n4⟩ := nf_len r.its (kidM h r.cs)
  have kl : l.cs.length ≤ m + 1 := by rcases ol.cs_len with ⟨_, e⟩ | ⟨_, e⟩ <;> rw [e] <;> simp <;> omega
  have kr : r.cs.length ≤ m + 1 := by rcases or'.cs_len with ⟨_, e⟩ | ⟨_, e⟩ <;> rw [e] <;> simp <;> omega
  have kt : t.kds.length ≤ m + 1 := by
    have := T.l1
    have := T.l2
    have := len.2
    rw [T.its] at this
    rw [T.kds]
    simp at this ⊢
    omega
  refine (shiftL_any t.id l.id r.id J1.length r.its.length w o (nf t.its (kidM (h + 1) t.cs)) (nf l.its (kidM h l.cs)) (nf r.its (kidM h r.cs)) hf (gm _ _ tr.1) (gm _ _ (tr_top (tr.2 l m2))) (gm _ _ (tr_top (tr.2 r m3))) A.tl A.tr A.lr t1 t2 (by show (t.kds.map Nd.id).length ≤ 1000; rw [List.length_map]; omega) n3 n4 (by omega) (by omega) (by omega) (by omega) (by show (kidM h l.cs).length ≤ 1001; rw [kidM_len ol]; omega) (by show (kidM h r.cs).length ≤ 1001; rw [kidM_len or']; omega) b.1 e.1 b.2 e.2 b1 b2 c1 c2).mono ?_
  rintro en w' ⟨rfl, o', hT⟩
  rw [nf_set T.its] at hT
  have e1 : (⟨(nf l.its (kidM h l.cs)).ks ++ [b.1], (nf l.its (kidM h l.cs)).vs ++ [b.2], (nf l.its (kidM h l.cs)).cs ++ (nf r.its (kidM h r.cs)).cs.take 1⟩ : Nf Ky) = nf (shlL b l r).its (kidM h (shlL b l r).cs) := by
    show _ = nf (l.its ++ [b]) (kidM h (l.cs ++ r.cs.take 1))
    rw [kidM_append, kidM_take]
    unfold nf
    simp
  have e2 : (⟨(nf r.its (kidM h r.cs)).ks.drop 1, (nf r.its (kidM h r.cs)).vs.drop 1, (nf r.its (kidM h r.cs)).cs.drop 1⟩ : Nf Ky) = nf (shlR r).its (kidM h (shlR r).cs) := by
    show _ = nf (r.its.drop 1) (kidM h (r.cs.drop 1))
    rw [kidM_drop]
    unfold nf
    simp
  rw [e1, e2] at hT
  have ol' : OkT m h (m / 2) m (shlL b l r) := ok_mix ol or' (by show m / 2 ≤ (l.its ++ [b]).length; simp; omega) (by show (l.its ++ [b]).length ≤ m; simp; omega) (fun hh => by
    rcases ol.cs_len with ⟨e, _⟩ | ⟨_, e⟩
    · exact absurd e hh
    · rcases or'.cs_len with ⟨e, _⟩ | ⟨_, e2⟩
      · exact absurd e hh
      · show (l.cs ++ r.cs.take 1).length = (l.its ++ [b]).length + 1
        simp [List.length_take]; omega) (fun c hc => (List.mem_append.1 hc).imp id (fun q => List.mem_of_mem_take q))
  have or2 : OkT m h (m / 2) m (shlR r) := ok_mix ol or' (by show m / 2 ≤ (r.its.drop 1).length; rw [List.length_drop]; omega) (by show (r.its.drop 1).length ≤ m; rw [List.length_drop]; omega) (fun hh => by
    rcases or'.cs_len with ⟨e, _⟩ | ⟨_, e2⟩
    · exact absurd e hh
    · show (r.cs.drop 1).length = (r.its.drop 1).length + 1
      rw [List.length_drop, List.length_drop]; omega) (fun c hc => .inr (List.mem_of_mem_drop hc))
  obtain ⟨M', hM⟩ := md_shift (l' := shlL b l r) (r' := shlR r) hf gm tr nd T len od rfl rfl ol' or2 (shl_toL ol or' he) (shl_ids b l r) (fun c hc => (List.mem_append.1 hc).imp id (fun q => List.mem_of_mem_take q)) (fun c hc => .inr (List.mem_of_mem_drop hc)) hT
  exact ⟨rfl, _, o', M', hM⟩
theorem mdJoin {w : World} {o : Nat → Nat} {M : Nat → Option (Nf Ky)} {h m lo lo1 hi1 lo2 hi2 : Nat} {t : BT Ky (h + 1)} {J1 J2 : List (Ky × Int)} {b : Ky × Int} {D1 D2 : List (BT Ky h)} {l r : BT Ky h} (hm : m ≤ 64 ∧ 3 ≤ m) (hf : Fb o w) (gm : Gm w o M) (tr : Tr M (h + 1) t) (nd : (ids (h + 1) t).Nodup) (T : Two t J1 J2 b D1 D2 l r)
    (len : lo ≤ t.its.length ∧ t.its.length ≤ m) (od : ∀ d, d ∈ D1 ∨ d ∈ D2 → OkT m h (m / 2) m d) (ol : OkT m h lo1 hi1 l) (or' : OkT m h lo2 hi2 r) (hs : l.its.length + r.its.length + 1 = 2 * (m / 2)) :
    Calls Try.prog 108 #[nv t.id, .int .i64 J1.length] w (MdP w o M h t m lo) := by
  have A := T.apart nd
  obtain ⟨m1, m2, m3⟩ := T.mem
  obtain ⟨t1, t2, t3⟩ := two_at T t.its
  obtain ⟨b1, b2⟩ := nf_at (cs := kidM (h + 1) t.cs) t3
  obtain ⟨n1, n2⟩ := nf_len l.its (kidM h l.cs)
  obtain ⟨n3, n4⟩ := nf_len r.its (kidM h r.cs)
  obtain ⟨n5, n6⟩ := nf_len t.its (kidM (h + 1) t.cs)
  have kl : l.cs.length ≤ m + 1 := by rcases ol.cs_len with ⟨_, e⟩ | ⟨_, e⟩ <;> rw [e] <;> simp <;> omega
  have kr : r.cs.length ≤ m + 1 := by rcases or'.cs_len with ⟨_, e⟩ | ⟨_, e⟩ <;> rw [e] <;> simp <;> omega
  have kt : t.kds.length ≤ m + 1 := by
    have := T.l1
    have := T.l2
    have := len.2
    rw [T.its] at this
    rw [T.kds]
    simp at this ⊢
    omega
  refine (join_any t.id l.id r.id J1.length w o (nf t.its (kidM (h + 1) t.cs)) (nf l.its (kidM h l.cs)) (nf r.its (kidM h r.cs)) hf (gm _ _ tr.1) (gm _ _ (tr_top (tr.2 l m2))) (gm _ _ (tr_top (tr.2 r m3))) A.tl A.tr A.lr t1 t2 (by show (t.kds.map Nd.id).length ≤ 1000; rw [List.length_map]; omega) (by have := len.2; omega) (by have := len.2; omega) (by omega) (by omega) (by show (kidM h l.cs).length ≤ 501; rw [kidM_len ol]; omega) (by omega) (by omega) (by show (kidM h r.cs).length ≤ 501; rw [kidM_len or']; omega) b.1 b.2 b1 b2).mono ?_
  rintro en w' ⟨rfl, o', hT⟩
  have e0 : (⟨(nf t.its (kidM (h + 1) t.cs)).ks.take J1.length ++ (nf t.its (kidM (h + 1) t.cs)).ks.drop (J1.length + 1), (nf t.its (kidM (h + 1) t.cs)).vs.take J1.length ++ (nf t.its (kidM (h + 1) t.cs)).vs.drop (J1.length + 1), (nf t.its (kidM (h + 1) t.cs)).cs.take (J1.length + 1) ++ (nf t.its (kidM (h + 1) t.cs)).cs.drop (J1.length + 1 + 1)⟩ : Nf Ky) = nf (J1 ++ J2) (kidM (h + 1) (D1 ++ l :: D2 : List (BT Ky h))) := by
    have ek : kidM (h + 1) t.cs = (D1.map Nd.id ++ [l.id]) ++ r.id :: D2.map Nd.id := by
      show t.kds.map Nd.id = _
      rw [T.kds]
      simp
    have l3 : (D1.map Nd.id ++ [l.id]).length = J1.length + 1 := by simp [T.l1]
    have d1 : ∀ {α : Type} (f : Ky × Int → α), (t.its.map f).take J1.length ++ (t.its.map f).drop (J1.length + 1) = (J1 ++ J2).map f := fun f => by
      rw [T.its, List.map_append, List.map_append, List.map_cons]
      have l0 : J1.length = (J1.map f).length := (List.length_map _).symm
      rw [l0, List.take_left, show J1.map f ++ f b :: J2.map f = (J1.map f ++ [f b]) ++ J2.map f from by simp, show (J1.map f).length + 1 = (J1.map f ++ [f b]).length from by simp, List.drop_left]
    unfold nf
    simp only [Nf.mk.injEq]
    refine ⟨d1 _, d1 _, ?_⟩
    rw [ek, ← l3, List.take_left, show ((D1.map Nd.id ++ [l.id]) ++ r.id :: D2.map Nd.id) = ((D1.map Nd.id ++ [l.id]) ++ [r.id]) ++ D2.map Nd.id from by simp, show (D1.map Nd.id ++ [l.id]).length + 1 = ((D1.map Nd.id ++ [l.id]) ++ [r.id]).length from by simp, List.drop_left]
    show _ = (D1 ++ l :: D2).map Nd.id
    simp
  have e1 : (⟨(nf l.its (kidM h l.cs)).ks ++ [b.1] ++ (nf r.its (kidM h r.cs)).ks, (nf l.its (kidM h l.cs)).vs ++ [b.2] ++ (nf r.its (kidM h r.cs)).vs, (nf l.its (kidM h l.cs)).cs ++ (nf r.its (kidM h r.cs)).cs⟩ : Nf Ky) = nf (joinT b l r).its (kidM h (joinT b l r).cs) := by
    show _ = nf (l.its ++ [b] ++ r.its) (kidM h (l.cs ++ r.cs))
    rw [kidM_append]
    unfold nf
    simp
  rw [e0, e1] at hT
  obtain ⟨M', hM⟩ := md_join hf gm tr nd T len od ol or' (by omega) (by omega) hT
  exact ⟨rfl, _, o', M', hM⟩
end Go.Proofs.Ytfhonfeopkhdeaa.BC

namespace Go.Proofs.Ytfhonfeopkhdeaa.BC
open Go.RowKit Go.Proofs.YtfhonfeopkhdeaaW.PrintWords

def Dr (w W : World) : Prop := ∃ nq, W = w.drewN nq
theorem Dr.one (w : World) (n : Nat) : Dr w (w.drewN n) := ⟨n, rfl⟩
theorem Dr.two (w : World) (n m : Nat) : Dr w ((w.drewN n).drewN m) := ⟨_, World.drewN_drewN ..⟩
set_option maxRecDepth 100000 in
set_option maxHeartbeats 2000000 in
/-- The left neighbour has a key to spare. -/
theorem mend_a (p n gc nk c m q : Nat) (hqe : q = m / 2) (hm : m ≤ 64) (j xl ll cl : Nat) (Al : Option Addr) (w : World) (R : World → Prop) (h0 : w.cell? ⟨p, 0, none⟩ = some (.int .i64 m)) (h1 : w.cell? ⟨n, 2, none⟩ = some (.slice (some ⟨gc, 0, none⟩) nk c)) (hnk : nk ≤ 1000) (hj : j + 1 < nk) (h2 : w.cell? ⟨gc, j, none⟩ = some (nv xl)) (h3 : w.cell? ⟨xl, 0, none⟩ = some (.slice Al ll cl)) (hll : q < ll) (HC : ∀ W, Dr w W → Calls Try.prog 107 #[nv n, .int .i64 j, .bool true] W fun e w' => e = .returned (.tuple #[]) ∧ R w') :
    Calls Try.prog 92 #[nv p, nv n, .int .i64 ((j : Int) + 1)] w fun e w' => e = .returned (.tuple #[]) ∧ R w' := by
  have HCC := Lib.hid HC
  have hq : ((m : Int).tdiv 2) = (q : Int) := by rw [Int.tdiv_eq_ediv_of_nonneg (by omega)]; omega
  have g1 : (0 : Int) < (j : Int) + 1 := by omega
  have g2 : (j : Int) < (nk : Int) := by omega
  have g4 : (j : Int) + 1 - 1 = (j : Int) := by omega
  have g3 : (q : Int) < (ll : Int) := by omega
  have hqm : q ≤ 64 := by omega
  clear HC hqe
  unfold nv at *
  go_enter Try.func92, Try.ntmps92
  go_wp2_with fail
  go_quiet (fail)
  go_wp2_with (go_at_call 107; refine (HCC.out _ (by first | exact Dr.one _ _ | exact Dr.two _ _ _)).mono ?_; rintro e w1 ⟨rfl, hr⟩)
  go_end0
  exact ⟨rfl, hr⟩
set_option maxRecDepth 100000 in
set_option maxHeartbeats 2000000 in
/-- The right one has, the left one has not. -/
theorem mend_b (p n gc nk c m q : Nat) (hqe : q = m / 2) (hm : m ≤ 64) (j xl ll cl : Nat) (Al : Option Addr) (xr lr cr : Nat) (Ar : Option Addr) (w : World) (R : World → Prop) (h0 : w.cell? ⟨p, 0, none⟩ = some (.int .i64 m)) (h1 : w.cell? ⟨n, 2, none⟩ = some (.slice (some ⟨gc, 0, none⟩) nk c)) (hnk : nk ≤ 1000) (_hj : j + 1 < nk) (h2 : w.cell? ⟨gc, j, none⟩ = some (nv xl)) (h3 : w.cell? ⟨xl, 0, none⟩ = some (.slice Al ll cl)) (hll : ll ≤ q) (hj2 : j + 2 < nk) (h4 : w.cell? ⟨gc, j + 2, none⟩ = some (nv xr)) (h5 : w.cell? ⟨xr, 0, none⟩ = some (.slice Ar lr cr)) (hlr : q < lr) (HC : ∀ W, Dr w W → Calls Try.prog 107 #[nv n, .int .i64 ((j : Int) + 1), .bool false] W fun e w' => e = .returned (.tuple #[]) ∧ R w') :
    Calls Try.prog 92 #[nv p, nv n, .int .i64 ((j : Int) + 1)] w fun e w' => e = .returned (.tuple #[]) ∧ R w' := by
  have HCC := Lib.hid HC
  have hq : ((m : Int).tdiv 2) = (q : Int) := by rw [Int.tdiv_eq_ediv_of_nonneg (by omega)]; omega
  have g1 : (0 : Int) < (j : Int) + 1 := by omega
  have g2 : (j : Int) < (nk : Int) := by omega
  have g4 : (j : Int) + 1 - 1 = (j : Int) := by omega
  have g3 : ¬ (q : Int) < (ll : Int) := by omega
  have g5 : (j : Int) + 1 + 1 = (j : Int) + 2 := by omega
  have g6 : (j : Int) + 2 < (nk : Int) := by omega
  have g7 : (0 : Int) ≤ (j : Int) + 2 := by omega
  have g8 : ((j : Int) + 2).toNat = j + 2 := by omega
  have g9 : (q : Int) < (lr : Int) := by omega
  have hqm : q ≤ 64 := by omega
  clear HC hqe
  unfold nv at *
  go_enter Try.func92, Try.ntmps92
  go_wp2_with fail
  go_quiet (fail)
  go_wp2_with fail
  go_quiet (fail)
  go_wp2_with (go_at_call 107; refine (HCC.out _ (by first | exact Dr.one _ _ | exact Dr.two _ _ _)).mono ?_; rintro e w1 ⟨rfl, hr⟩)
  go_end0
  exact ⟨rfl, hr⟩
set_option maxRecDepth 100000 in
set_option maxHeartbeats 2000000 in
/-- The right one of the first child. -/
theorem mend_b0 (p n gc nk c m q : Nat) (hqe : q = m / 2) (hm : m ≤ 64) (xr lr cr : Nat) (Ar : Option Addr) (w : World) (R : World → Prop) (h0 : w.cell? ⟨p, 0, none⟩ = some (.int .i64 m)) (h1 : w.cell? ⟨n, 2, none⟩ = some (.slice (some ⟨gc, 0, none⟩) nk c)) (hnk : nk ≤ 1000) (hj2 : 1 < nk) (h4 : w.cell? ⟨gc, 1, none⟩ = some (nv xr)) (h5 : w.cell? ⟨xr, 0, none⟩ = some (.slice Ar lr cr)) (hlr : q < lr) (HC : ∀ W, Dr w W → Calls Try.prog 107 #[nv n, .int .i64 0, .bool false] W fun e w' => e = .returned (.tuple #[]) ∧ R w') :
    Calls Try.prog 92 #[nv p, nv n, .int .i64 0] w fun e w' => e = .returned (.tuple #[]) ∧ R w' := by
  have HCC := Lib.hid HC
  have hq : ((m : Int).tdiv 2) = (q : Int) := by rw [Int.tdiv_eq_ediv_of_nonneg (by omega)]; omega
  have g6 : 1 < (nk : Int) := by omega
  have g9 : (q : Int) < (lr : Int) := by omega
  have hqm : q ≤ 64 := by omega
  clear HC hqe
  unfold nv at *
  go_enter Try.func92, Try.ntmps92
  go_wp2_with fail
  go_quiet (fail)
  go_wp2_with fail
  go_quiet (fail)
  go_wp2_with (go_at_call 107; refine (HCC.out _ (by first | exact Dr.one _ _ | exact Dr.two _ _ _)).mono ?_; rintro e w1 ⟨rfl, hr⟩)
  go_end0
  exact ⟨rfl, hr⟩
set_option maxRecDepth 100000 in
set_option maxHeartbeats 2000000 in
/-- Neither has; the left one joins; there is a right one. -/
theorem mend_c (p n gc nk c m q : Nat) (hqe : q = m / 2) (hm : m ≤ 64) (j xl ll cl : Nat) (Al : Option Addr) (xr lr cr : Nat) (Ar : Option Addr) (w : World) (R : World → Prop) (h0 : w.cell? ⟨p, 0, none⟩ = some (.int .i64 m)) (h1 : w.cell? ⟨n, 2, none⟩ = some (.slice (some ⟨gc, 0, none⟩) nk c)) (hnk : nk ≤ 1000) (_hj : j + 1 < nk) (h2 : w.cell? ⟨gc, j, none⟩ = some (nv xl)) (h3 : w.cell? ⟨xl, 0, none⟩ = some (.slice Al ll cl)) (hll : ll ≤ q) (hj2 : j + 2 < nk) (h4 : w.cell? ⟨gc, j + 2, none⟩ = some (nv xr)) (h5 : w.cell? ⟨xr, 0, none⟩ = some (.slice Ar lr cr)) (hlr : lr ≤ q) (HC : ∀ W, Dr w W → Calls Try.prog 108 #[nv n, .int .i64 j] W fun e w' => e = .returned (.tuple #[]) ∧ R w') :
    Calls Try.prog 92 #[nv p, nv n, .int .i64 ((j : Int) + 1)] w fun e w' => e = .returned (.tuple #[]) ∧ R w' := by
  have HCC := Lib.hid HC
  have hq : ((m : Int).tdiv 2) = (q : Int) := by rw [Int.tdiv_eq_ediv_of_nonneg (by omega)]; omega
  have g1 : (0 : Int) < (j : Int) + 1 := by omega
  have g2 : (j : Int) < (nk : Int) := by omega
  have g4 : (j : Int) + 1 - 1 = (j : Int) := by omega
  have g3 : ¬ (q : Int) < (ll : Int) := by omega
  have g5 : (j : Int) + 1 + 1 = (j : Int) + 2 := by omega
  have g6 : (j : Int) + 2 < (nk : Int) := by omega
  have g7 : (0 : Int) ≤ (j : Int) + 2 := by omega
  have g8 : ((j : Int) + 2).toNat = j + 2 := by omega
  have g9 : ¬ (q : Int) < (lr : Int) := by omega
  have hqm : q ≤ 64 := by omega
  clear HC hqe
  unfold nv at *
  go_enter Try.func92, Try.ntmps92
  go_wp2_with fail
  go_quiet (fail)
  go_wp2_with fail
  go_quiet (fail)
  go_wp2_with (go_at_call 108; refine (HCC.out _ (by first | exact Dr.one _ _ | exact Dr.two _ _ _)).mono ?_; rintro e w1 ⟨rfl, hr⟩)
  go_end0
  exact ⟨rfl, hr⟩
set_option maxRecDepth 100000 in
set_option maxHeartbeats 2000000 in
/-- The last child; the left one joins. -/
theorem mend_e (p n gc nk c m q : Nat) (hqe : q = m / 2) (hm : m ≤ 64) (j xl ll cl : Nat) (Al : Option Addr) (w : World) (R : World → Prop) (h0 : w.cell? ⟨p, 0, none⟩ = some (.int .i64 m)) (h1 : w.cell? ⟨n, 2, none⟩ = some (.slice (some ⟨gc, 0, none⟩) nk c)) (hnk : nk ≤ 1000) (hj : j + 1 < nk) (h2 : w.cell? ⟨gc, j, none⟩ = some (nv xl)) (h3 : w.cell? ⟨xl, 0, none⟩ = some (.slice Al ll cl)) (hll : ll ≤ q) (hj2 : j + 2 = nk) (HC : ∀ W, Dr w W → Calls Try.prog 108 #[nv n, .int .i64 j] W fun e w' => e = .returned (.tuple #[]) ∧ R w') :
    Calls Try.prog 92 #[nv p, nv n, .int .i64 ((j : Int) + 1)] w fun e w' => e = .returned (.tuple #[]) ∧ R w' := by
  have HCC := Lib.hid HC
  have hq : ((m : Int).tdiv 2) = (q : Int) := by rw [Int.tdiv_eq_ediv_of_nonneg (by omega)]; omega
  have g1 : (0 : Int) < (j : Int) + 1 := by omega
  have g2 : (j : Int) < (nk : Int) := by omega
  have g4 : (j : Int) + 1 - 1 = (j : Int) := by omega
  have g3 : ¬ (q : Int) < (ll : Int) := by omega
  have g5 : (j : Int) + 1 + 1 = (j : Int) + 2 := by omega
  have g6 : ¬ (j : Int) + 2 < (nk : Int) := by omega
  have hqm : q ≤ 64 := by omega
  have g10 : decide ((j : Int) + 2 < (nk : Int)) = false := decide_eq_false g6
  have g11 : (nk : Int) ≤ (j : Int) + 2 := by omega
  clear HC hqe hj2
  unfold nv at *
  go_enter Try.func92, Try.ntmps92
  go_wp2_with fail
  go_quiet (fail)
  go_wp2_with fail
  go_quiet (fail)
  go_wp2_with (go_at_call 108; refine (HCC.out _ (by first | exact Dr.one _ _ | exact Dr.two _ _ _)).mono ?_; rintro e w1 ⟨rfl, hr⟩)
  go_end0
  exact ⟨rfl, hr⟩
set_option maxRecDepth 100000 in
set_option maxHeartbeats 2000000 in
/-- The first child; the right one joins. -/
theorem mend_d (p n gc nk c m q : Nat) (hqe : q = m / 2) (hm : m ≤ 64) (xr lr cr : Nat) (Ar : Option Addr) (w : World) (R : World → Prop) (h0 : w.cell? ⟨p, 0, none⟩ = some (.int .i64 m)) (h1 : w.cell? ⟨n, 2, none⟩ = some (.slice (some ⟨gc, 0, none⟩) nk c)) (hnk : nk ≤ 1000) (hj2 : 1 < nk) (h4 : w.cell? ⟨gc, 1, none⟩ = some (nv xr)) (h5 : w.cell? ⟨xr, 0, none⟩ = some (.slice Ar lr cr)) (hlr : lr ≤ q) (HC : ∀ W, Dr w W → Calls Try.prog 108 #[nv n, .int .i64 0] W fun e w' => e = .returned (.tuple #[]) ∧ R w') :
    Calls Try.prog 92 #[nv p, nv n, .int .i64 0] w fun e w' => e = .returned (.tuple #[]) ∧ R w' := by
  have HCC := Lib.hid HC
  have hq : ((m : Int).tdiv 2) = (q : Int) := by rw [Int.tdiv_eq_ediv_of_nonneg (by omega)]; omega
  have g6 : 1 < (nk : Int) := by omega
  have g9 : ¬ (q : Int) < (lr : Int) := by omega
  have hqm : q ≤ 64 := by omega
  clear HC hqe
  unfold nv at *
  go_enter Try.func92, Try.ntmps92
  go_wp2_with fail
  go_quiet (fail)
  go_wp2_with fail
  go_quiet (fail)
  go_wp2_with (go_at_call 108; refine (HCC.out _ (by first | exact Dr.one _ _ | exact Dr.two _ _ _)).mono ?_; rintro e w1 ⟨rfl, hr⟩)
  go_end0
  exact ⟨rfl, hr⟩
end Go.Proofs.Ytfhonfeopkhdeaa.BC

namespace Go.Proofs.Ytfhonfeopkhdeaa.BC
open Go.RowKit Go.Proofs.YtfhonfeopkhdeaaW.PrintWords

theorem MdP.back {w w1 : World} {o : Nat → Nat} {M : Nat → Option (Nf Ky)} {h m lo : Nat} {t : BT Ky (h + 1)} {W : World} {e : Ending} (hd : Dr w W) (R : MdP W o M h t m lo e w1) : e = .returned (.tuple #[]) ∧ ∃ t' o' M', MdR w o M h t m lo w1 t' o' M' := by
  obtain ⟨n, rfl⟩ := hd
  obtain ⟨e, t', o', M', R⟩ := R
  exact ⟨e, t', o', M', ⟨R.id, R.ok, R.li, R.gm, R.tr, R.nd, R.fr, R.up.drew, R.re⟩⟩
/-- The keys' row of a child. -/
theorem kid_row {w : World} {o : Nat → Nat} {M : Nat → Option (Nf Ky)} {h : Nat} {l : BT Ky h} (gm : Gm w o M) (tr : Tr M h l) : ∃ Al cl, w.cell? ⟨l.id, 0, none⟩ = some (.slice Al l.its.length cl) := by
  obtain ⟨xk, xv, xc, hX⟩ := gm _ _ (tr_top tr)
  obtain ⟨A, c, -, -, -, -, rfl, -, -, -⟩ := hX.row
  have := hX.cells.1
  rw [(nf_len _ _).1] at this
  exact ⟨A, c, this⟩
theorem mend_any (p m sz q h lo : Nat) (hm : 3 ≤ m ∧ m ≤ 64) (w : World) (o : Nat → Nat) (M : Nat → Option (Nf Ky)) (t : BT Ky (h + 1)) (ht : TrAt w o p m sz q) (hf : Fb o w) (gm : Gm w o M) (tr : Tr M (h + 1) t) (nd : (ids (h + 1) t).Nodup) (len : lo ≤ t.its.length ∧ t.its.length ≤ m) (hpos : 1 ≤ t.its.length) (hk : t.kds.length = t.its.length + 1)
    (C1 : List (BT Ky h)) (c : BT Ky h) (C2 : List (BT Ky h)) (e : t.kds = C1 ++ c :: C2) (oc : OkT m h (m / 2 - 1) (m / 2 - 1) c) (od : ∀ d, d ∈ C1 ∨ d ∈ C2 → OkT m h (m / 2) m d) :
    Calls Try.prog 92 #[nv p, nv t.id, .int .i64 C1.length] w (MdP w o M h t m lo) := by
  obtain ⟨p0, -⟩ := ht.cells
  obtain ⟨tk, tv, tc, hN⟩ := gm _ _ tr.1
  obtain ⟨-, -, n2⟩ := hN.cells
  obtain ⟨A1, c1, A2, c2, A3, c3, rfl, rfl, rfl, -⟩ := hN.row
  have hkl : (t.kds.map Nd.id).length = t.kds.length := List.length_map _
  have hnl : (nf t.its (t.kds.map Nd.id)).cs.length = t.kds.length := hkl
  obtain ⟨gc, rfl, -, -⟩ := hN.ccell (i := 0) (by rw [hnl]; omega)
  have hcell : ∀ (i : Nat) (d : BT Ky h), t.kds[i]? = some d → w.cell? ⟨gc, i, none⟩ = some (nv d.id) := fun i d hd => by
    have hi : i < (nf t.its (t.kds.map Nd.id)).cs.length := by rw [hnl]; exact (List.getElem?_eq_some_iff.1 hd).1
    obtain ⟨g', e', h1, -⟩ := hN.ccell hi
    cases e'
    rw [h1]
    have h2 : (t.kds.map Nd.id)[i]? = some d.id := by rw [List.getElem?_map, hd]; rfl
    have h3 : (nf t.its (t.kds.map Nd.id)).cs[i] = d.id := by
      have := (List.getElem?_eq_some_iff.1 h2).2
      exact this
    rw [h3]
  rw [hnl] at n2
  have hkd : ∀ d ∈ t.kds, Tr M h d := tr.2
  have hlen : C1.length + C2.length + 1 = t.kds.length := by rw [e]; simp; omega
  have split_its : ∀ j, j < t.its.length → ∃ J1 b J2, t.its = J1 ++ b :: J2 ∧ J1.length = j ∧ J2.length + j + 1 = t.its.length := fun j hj => list_at t.its hj
  rcases List.eq_nil_or_concat C1 with rfl | ⟨D1, l, hC1⟩
  · -- the first child
    obtain ⟨r, D2, rfl⟩ : ∃ r D2, C2 = r :: D2 := by
      cases C2 with
      | nil => simp at hlen; omega
      | cons r D2 => exact ⟨r, D2, rfl⟩
    obtain ⟨J1, b, J2, hi, hj1, hj2⟩ := split_its 0 (by omega)
    obtain rfl : J1 = [] := List.eq_nil_of_length_eq_zero hj1
    have T : Two t [] J2 b [] D2 c r := ⟨hi, e, rfl, by simp at hlen; omega⟩
    have hr : t.kds[1]? = some r := by rw [e]; rfl
    have orr := od r (.inr List.mem_cons_self)
    obtain ⟨Ar, cr, hrow⟩ := kid_row gm (hkd r (List.mem_of_getElem? hr))
    by_cases hlr : m / 2 < r.its.length
    · refine mend_b0 p t.id gc t.kds.length c3 m (m / 2) rfl hm.2 r.id r.its.length cr Ar w _ p0 n2 (by omega) (by simp at hlen; omega) (hcell 1 r hr) hrow hlr (fun W hW => ?_)
      obtain ⟨nq, rfl⟩ := hW
      refine (mdShiftL (lo := lo) ⟨hm.2, hm.1⟩ (hf.drewN nq) (gm.drewN nq) tr nd T len (fun d hd => ?_) oc (orr.weaken (by omega) orr.len.2)).mono ?_
      · rcases hd with h1 | h1
        · cases h1
        · exact od d (.inr (List.mem_cons_of_mem _ h1))
      · intro en w' R
        exact R.back ⟨nq, rfl⟩
    · refine mend_d p t.id gc t.kds.length c3 m (m / 2) rfl hm.2 r.id r.its.length cr Ar w _ p0 n2 (by omega) (by simp at hlen; omega) (hcell 1 r hr) hrow (by omega) (fun W hW => ?_)
      obtain ⟨nq, rfl⟩ := hW
      refine (mdJoin (lo := lo) ⟨hm.2, hm.1⟩ (hf.drewN nq) (gm.drewN nq) tr nd T len (fun d hd => ?_) oc orr (by have := oc.len; have := orr.len; omega)).mono ?_
      · rcases hd with h1 | h1
        · cases h1
        · exact od d (.inr (List.mem_cons_of_mem _ h1))
      · intro en w' R
        exact R.back ⟨nq, rfl⟩
  · have hC1' : C1 = D1 ++ [l] := by rw [hC1, List.concat_eq_append]
    subst hC1'
    obtain ⟨j, hj⟩ : ∃ j, j = D1.length := ⟨_, rfl⟩
    have hcl : (D1 ++ [l]).length = j + 1 := by simp [hj]
    have hjl : j < t.its.length := by rw [hcl] at hlen; omega
    obtain ⟨J1, b, J2, hi, hj1, hj2⟩ := split_its j hjl
    have T : Two t J1 J2 b D1 C2 l c := ⟨hi, by rw [e]; simp, by omega, by rw [hcl] at hlen; omega⟩
    have hl : t.kds[j]? = some l := by rw [e, hj]; simp
    have oll := od l (.inl (by simp))
    obtain ⟨Al, cl, hrow⟩ := kid_row gm (hkd l (List.mem_of_getElem? hl))
    have odl : ∀ d, d ∈ D1 ∨ d ∈ C2 → OkT m h (m / 2) m d := fun d hd => by
      rcases hd with h1 | h1
      · exact od d (.inl (by simp [h1]))
      · exact od d (.inr h1)
    have ei : (((D1 ++ [l]).length : Nat) : Int) = (j : Int) + 1 := by rw [hcl]; rfl
    rw [ei]
    by_cases hll : m / 2 < l.its.length
    · refine mend_a p t.id gc t.kds.length c3 m (m / 2) rfl hm.2 j l.id l.its.length cl Al w _ p0 n2 (by omega) (by rw [hcl] at hlen; omega) (hcell j l hl) hrow hll (fun W hW => ?_)
      obtain ⟨nq, rfl⟩ := hW
      rw [← hj1]
      refine (mdShiftR (lo := lo) ⟨hm.2, hm.1⟩ (hf.drewN nq) (gm.drewN nq) tr nd T len odl (oll.weaken (by omega) oll.len.2) oc).mono ?_
      intro en w' R
      exact R.back ⟨nq, rfl⟩
    · have joinl : ∀ W, Dr w W → Calls Try.prog 108 #[nv t.id, .int .i64 j] W fun e w' => e = .returned (.tuple #[]) ∧ ∃ t' o' M', MdR w o M h t m lo w' t' o' M' := fun W hW => by
        obtain ⟨nq, rfl⟩ := hW
        rw [← hj1]
        refine (mdJoin (lo := lo) ⟨hm.2, hm.1⟩ (hf.drewN nq) (gm.drewN nq) tr nd T len odl oll oc (by have := oc.len; have := oll.len; omega)).mono ?_
        intro en w' R
        exact R.back ⟨nq, rfl⟩
      cases C2 with
      | nil => exact mend_e p t.id gc t.kds.length c3 m (m / 2) rfl hm.2 j l.id l.its.length cl Al w _ p0 n2 (by omega) (by rw [hcl] at hlen; omega) (hcell j l hl) hrow (by omega) (by rw [hcl] at hlen; simp at hlen; omega) joinl
      | cons r D2 =>
        have hr : t.kds[j + 2]? = some r := by
          rw [e, hj, List.getElem?_append_right (by simp)]
          simp
        have orr := od r (.inr List.mem_cons_self)
        obtain ⟨Ar, cr, hrow2⟩ := kid_row gm (hkd r (List.mem_of_getElem? hr))
        have hn2 : j + 2 < t.kds.length := (List.getElem?_eq_some_iff.1 hr).1
        by_cases hlr : m / 2 < r.its.length
        · refine mend_b p t.id gc t.kds.length c3 m (m / 2) rfl hm.2 j l.id l.its.length cl Al r.id r.its.length cr Ar w _ p0 n2 (by omega) (by omega) (hcell j l hl) hrow (by omega) hn2 (hcell (j + 2) r hr) hrow2 hlr (fun W hW => ?_)
          obtain ⟨nq, rfl⟩ := hW
          obtain ⟨K1, b2, K2, hi2, hk1, hk2⟩ := split_its (j + 1) (by omega)
          have T2 : Two t K1 K2 b2 (D1 ++ [l]) D2 c r := ⟨hi2, e, by rw [hcl]; omega, by rw [hcl] at hlen; simp at hlen; omega⟩
          have ek : ((K1.length : Nat) : Int) = (j : Int) + 1 := by rw [hk1]; rfl
          rw [← ek]
          refine (mdShiftL (lo := lo) ⟨hm.2, hm.1⟩ (hf.drewN nq) (gm.drewN nq) tr nd T2 len (fun d hd => ?_) oc (orr.weaken (by omega) orr.len.2)).mono ?_
          · rcases hd with h1 | h1
            · exact od d (.inl h1)
            · exact od d (.inr (List.mem_cons_of_mem _ h1))
          · intro en w' R
            exact R.back ⟨nq, rfl⟩
        · exact mend_c p t.id gc t.kds.length c3 m (m / 2) rfl hm.2 j l.id l.its.length cl Al r.id r.its.length cr Ar w _ p0 n2 (by omega) (by omega) (hcell j l hl) hrow (by omega) hn2 (hcell (j + 2) r hr) hrow2 (by omega) joinl
end Go.Proofs.Ytfhonfeopkhdeaa.BC
