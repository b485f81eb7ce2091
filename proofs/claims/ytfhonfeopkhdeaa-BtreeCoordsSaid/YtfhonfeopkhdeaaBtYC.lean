/-
  put, where the key goes below a child: what is left. No premise.
  put. No premise.
-/
import Derived.Test.YtfhonfeopkhdeaaBtWC
import Derived.Test.YtfhonfeopkhdeaaBtTr
namespace Go.Proofs.Ytfhonfeopkhdeaa.BC
open Go.RowKit Go.Proofs.YtfhonfeopkhdeaaW.PrintWords

theorem ids_at {h : Nat} {t : BT Ky (h + 1)} {C1 C2 : List (BT Ky h)} {c : BT Ky h} (e2 : t.kds = C1 ++ c :: C2) : ids (h + 1) t = (t.id :: C1.flatMap (ids h)) ++ (ids h c ++ C2.flatMap (ids h)) := by
  show t.id :: t.kds.flatMap (ids h) = _
  rw [e2, List.flatMap_append, List.flatMap_cons]
  rfl
theorem Tm.lt {w : World} {o : Nat → Nat} {M : Nat → Option (Nf Ky)} {h m lo hi : Nat} {t : BT Ky h} (T : Tm w o M h m lo hi t) : ∀ n ∈ ids h t, n < w.heap.size := fun n hn => by
  obtain ⟨F, hF⟩ := tr_ids T.tr n hn
  exact T.gm.lt hF
/-- A child's place, apart from the others'. -/
structure KidAt {h : Nat} (t : BT Ky (h + 1)) (I1 I2 : List (Ky × Int)) (C1 : List (BT Ky h)) (c : BT Ky h) (C2 : List (BT Ky h)) (k : Ky) : Prop where
  its : t.its = I1 ++ I2
  kds : t.kds = C1 ++ c :: C2
  l1 : C1.length = I1.length
  l2 : I2.length = C2.length
  lo : Lo kct (preW (C1.map (toL h)) I1) k
  hi : Hi kct (postW I2 (C2.map (toL h))) k
  li : toL (h + 1) t = preW (C1.map (toL h)) I1 ++ (toL h c ++ postW I2 (C2.map (toL h)))
theorem KidAt.apart {h : Nat} {t : BT Ky (h + 1)} {I1 I2 : List (Ky × Int)} {C1 C2 : List (BT Ky h)} {c : BT Ky h} {k : Ky} (K : KidAt t I1 I2 C1 c C2 k) (hnd : (ids (h + 1) t).Nodup) :
    (ids h c).Nodup ∧ t.id ∉ ids h c ∧ ∀ d, d ∈ C1 ∨ d ∈ C2 → ∀ n ∈ ids h d, n ∉ ids h c ∧ n ≠ t.id := by
  rw [ids_at K.kds] at hnd
  obtain ⟨h1, h2, h3⟩ := List.nodup_append.1 hnd
  obtain ⟨h4, h5, h6⟩ := List.nodup_append.1 h2
  refine ⟨h4, fun hm => h3 t.id List.mem_cons_self t.id (List.mem_append.2 (.inl hm)) rfl, fun d hd n hn => ?_⟩
  rcases hd with hd | hd
  · have hm : n ∈ C1.flatMap (ids h) := List.mem_flatMap.2 ⟨d, hd, hn⟩
    exact ⟨fun hc => h3 n (List.mem_cons_of_mem _ hm) n (List.mem_append.2 (.inl hc)) rfl, fun e => (List.nodup_cons.1 h1).1 (e ▸ hm)⟩
  · have hm : n ∈ C2.flatMap (ids h) := List.mem_flatMap.2 ⟨d, hd, hn⟩
    exact ⟨fun hc => h6 n hc n hm rfl, fun e => h3 t.id List.mem_cons_self n (List.mem_append.2 (.inr hm)) e.symm⟩
theorem KidAt.sub {h : Nat} {t : BT Ky (h + 1)} {I1 I2 : List (Ky × Int)} {C1 C2 : List (BT Ky h)} {c : BT Ky h} {k : Ky} (K : KidAt t I1 I2 C1 c C2 k) : ∀ n ∈ ids h c, n ∈ ids (h + 1) t := fun n hn => by
  rw [ids_at K.kds]
  simp [hn]
theorem KidAt.mem {h : Nat} {t : BT Ky (h + 1)} {I1 I2 : List (Ky × Int)} {C1 C2 : List (BT Ky h)} {c : BT Ky h} {k : Ky} (K : KidAt t I1 I2 C1 c C2 k) : ∀ d, d ∈ C1 ∨ d ∈ C2 → d ∈ t.kds := fun d hd => by
  rw [K.kds]
  rcases hd with h | h <;> simp [h]
theorem kid_fin {w w1 : World} {o o1 : Nat → Nat} {M M1 : Nat → Option (Nf Ky)} {h m lo : Nat} {t : BT Ky (h + 1)} {k k' : Ky} {v : Int} {I1 I2 : List (Ky × Int)} {C1 C2 : List (BT Ky h)} {c c' : BT Ky h} (T : Tm w o M (h + 1) m lo m t) (hnd : (ids (h + 1) t).Nodup) (K : KidAt t I1 I2 C1 c C2 k)
    (R : PutR w o M h c m (m / 2) k v w1 k' c' o1 M1) (hle : c'.its.length ≤ m) : PutR w o M (h + 1) t m lo k v w1 k' ⟨t.id, t.its, (C1 ++ c' :: C2 : List (BT Ky h))⟩ o1 M1 := by
  obtain ⟨hc, hti, hd⟩ := K.apart hnd
  have hlt := T.lt
  have hok := T.ok
  have hkl : t.kds.length = t.its.length + 1 := hok.2.1
  have hre : ∀ n ∈ ids (h + 1) t, n ∉ ids h c → M1 n = M n := fun n hn hc => R.re n hc (hlt n hn)
  refine ⟨R.kk, rfl, ⟨⟨hok.1.1, by have := hok.1.2; show t.its.length ≤ m + 1; omega⟩, ?_, fun d hdm => ?_⟩, ?_, R.gm, ⟨?_, fun d hdm => ?_⟩, ?_, fun n hn => ?_, R.up.mono (fun x ⟨n, hn, e⟩ => ⟨n, K.sub n hn, e⟩), fun n hn hl => R.re n (fun hc => hn (K.sub n hc)) hl⟩
  · show (C1 ++ c' :: C2).length = t.its.length + 1
    rw [← hkl, K.kds]
    simp
  · rcases List.mem_append.1 hdm with h1 | h1
    · exact hok.2.2 d (K.mem d (.inl h1))
    · rcases List.mem_cons.1 h1 with rfl | h1
      · exact R.ok.weaken R.ok.len.1 hle
      · exact hok.2.2 d (K.mem d (.inr h1))
  · have e : toL (h + 1) (⟨t.id, t.its, (C1 ++ c' :: C2 : List (BT Ky h))⟩ : BT Ky (h + 1)) = preW (C1.map (toL h)) I1 ++ (toL h c' ++ postW I2 (C2.map (toL h))) := by
      rw [K.its]
      exact toL_node K.l1 K.l2
    rw [e, R.li, K.li, insL_lo (lo_ct R.kk K.lo), insL_hi (hi_ct R.kk K.hi)]
  · show M1 t.id = some (nf t.its ((C1 ++ c' :: C2).map Nd.id))
    rw [hre t.id (id_mem _ t) hti, T.tr.1, K.kds]
    simp [R.id]
  · rcases List.mem_append.1 hdm with h1 | h1
    · exact (T.tr.2 d (K.mem d (.inl h1))).congr fun n hn => hre n (List.mem_cons_of_mem _ (List.mem_flatMap.2 ⟨d, K.mem d (.inl h1), hn⟩)) (hd d (.inl h1) n hn).1
    · rcases List.mem_cons.1 h1 with rfl | h1
      · exact R.tr
      · exact (T.tr.2 d (K.mem d (.inr h1))).congr fun n hn => hre n (List.mem_cons_of_mem _ (List.mem_flatMap.2 ⟨d, K.mem d (.inr h1), hn⟩)) (hd d (.inr h1) n hn).1
  · rw [ids_kid]
    rw [ids_at K.kds] at hnd hlt
    exact nodup_swap hnd R.nd hlt R.fr
  · rw [ids_kid] at hn
    rw [ids_at K.kds]
    rcases List.mem_append.1 hn with h1 | h1
    · exact .inl (List.mem_append.2 (.inl h1))
    · rcases List.mem_append.1 h1 with h1 | h1
      · rcases R.fr n h1 with h2 | h2
        · exact .inl (List.mem_append.2 (.inr (List.mem_append.2 (.inl h2))))
        · exact .inr h2
      · exact .inl (List.mem_append.2 (.inr (List.mem_append.2 (.inr h1))))
theorem Sp.gm {w wc : World} {o oc : Nat → Nat} {a x y : Nat} {FA FX FY : Nf Ky} {M : Nat → Option (Nf Ky)} (h : Sp w o a x y FA FX FY wc oc) (g : Gm w o M) : Gm wc oc (setM (setM (setM M y FY) x FX) a FA) := fun b G hG => by
  by_cases e1 : b = a
  · subst e1
    rw [setM_same] at hG
    cases hG
    exact h.na
  · rw [setM_other _ _ e1] at hG
    by_cases e2 : b = x
    · subst e2
      rw [setM_same] at hG
      cases hG
      exact h.nx
    · rw [setM_other _ _ e2] at hG
      by_cases e3 : b = y
      · subst e3
        rw [setM_same] at hG
        cases hG
        exact h.ny
      · rw [setM_other _ _ e3] at hG
        obtain ⟨vk, vv, vc, hb⟩ := g b G hG
        exact ⟨vk, vv, vc, hb.up h.up (fun e => by omega) (fun e => by omega)⟩
theorem PutR.lt {w w1 : World} {o o1 : Nat → Nat} {M M1 : Nat → Option (Nf Ky)} {h m lo : Nat} {c c' : BT Ky h} {k k' : Ky} {v : Int} (R : PutR w o M h c m lo k v w1 k' c' o1 M1) : ∀ n ∈ ids h c', n < w1.heap.size := fun n hn => by
  obtain ⟨F, hF⟩ := tr_ids R.tr n hn
  exact R.gm.lt hF
/-- The node when a child has been parted. -/
def parted {h : Nat} (t : BT Ky (h + 1)) (I1 I2 : List (Ky × Int)) (C1 : List (BT Ky h)) (c' : BT Ky h) (C2 : List (BT Ky h)) (q y : Nat) (b : Ky × Int) : BT Ky (h + 1) := ⟨t.id, I1 ++ b :: I2, (C1 ++ halfL c' q :: halfR y c' q :: C2 : List (BT Ky h))⟩
theorem split_fin {w w1 w2 : World} {o o1 o2 : Nat → Nat} {M M1 : Nat → Option (Nf Ky)} {h m lo : Nat} {t : BT Ky (h + 1)} {k k' : Ky} {v : Int} {I1 I2 : List (Ky × Int)} {C1 C2 : List (BT Ky h)} {c c' : BT Ky h} (T : Tm w o M (h + 1) m lo m t) (hf : Fb o w) (hnd : (ids (h + 1) t).Nodup) (K : KidAt t I1 I2 C1 c C2 k)
    (R : PutR w o M h c m (m / 2) k v w1 k' c' o1 M1) (_hm : 3 ≤ m) (hgt : c'.its.length = m + 1) {q y : Nat} (hq : q = (m + 1) / 2) (hql : q < c'.its.length)
    (hs : Sp w1 o1 t.id c'.id y (nf (I1 ++ c'.its[q] :: I2) (List.map Nd.id (C1 ++ halfL c' q :: halfR y c' q :: C2))) (nf (c'.its.take q) ((kidN h c').take (q + 1))) (nf (c'.its.drop (q + 1)) ((kidN h c').drop (q + 1))) w2 o2) :
    ∃ M2, PutR w o M (h + 1) t m lo k v w2 k' (parted t I1 I2 C1 c' C2 q y c'.its[q]) o2 M2 := by
  obtain ⟨hc, hti, hd⟩ := K.apart hnd
  have hlt := T.lt
  have hok := T.ok
  have hkl : t.kds.length = t.its.length + 1 := hok.2.1
  have hwy : w.heap.size ≤ y := Nat.le_trans R.up.size hs.yn
  have hcid : c'.id ∈ ids h c := R.id ▸ id_mem h c
  have hcy : c'.id ≠ y := fun e => by have := R.lt c'.id (id_mem h c'); have := hs.yn; omega
  have hct : c'.id ≠ t.id := fun e => hti (e ▸ hcid)
  have hty : t.id ≠ y := fun e => by have := hlt t.id (id_mem _ t); omega
  refine ⟨_, R.kk, rfl, ⟨⟨?_, ?_⟩, ?_, fun d hdm => ?_⟩, ?_, hs.gm R.gm, ⟨setM_same _ _ _, fun d hdm => ?_⟩, ?_, fun n hn => ?_, ?_, fun n hn hl => ?_⟩
  · show lo ≤ (I1 ++ c'.its[q] :: I2).length
    have := hok.1.1
    rw [K.its] at this
    simp at this ⊢
    omega
  · show (I1 ++ c'.its[q] :: I2).length ≤ m + 1
    have := hok.1.2
    rw [K.its] at this
    simp at this ⊢
    omega
  · show (C1 ++ halfL c' q :: halfR y c' q :: C2).length = (I1 ++ c'.its[q] :: I2).length + 1
    have h1 := K.l1
    have h2 := K.l2
    simp
    omega
  · obtain ⟨o1, o2⟩ := half_ok R.ok y hql
    rcases List.mem_append.1 hdm with h1 | h1
    · exact hok.2.2 d (K.mem d (.inl h1))
    · rcases List.mem_cons.1 h1 with rfl | h1
      · exact o1.weaken (by have := o1.len; omega) (by have := o1.len; omega)
      · rcases List.mem_cons.1 h1 with rfl | h1
        · exact o2.weaken (by have := o2.len; omega) (by have := o2.len; omega)
        · exact hok.2.2 d (K.mem d (.inr h1))
  · show toL (h + 1) (⟨t.id, I1 ++ c'.its[q] :: I2, (C1 ++ halfL c' q :: halfR y c' q :: C2 : List (BT Ky h))⟩ : BT Ky (h + 1)) = _
    rw [toL_two K.l1 K.l2, ← toL_half R.ok y hql, R.li, K.li, insL_lo (lo_ct R.kk K.lo), insL_hi (hi_ct R.kk K.hi)]
  · have hM1 : ∀ n ∈ ids h c', n ≠ c'.id → setM (setM (setM M1 y (nf (c'.its.drop (q + 1)) ((kidN h c').drop (q + 1)))) c'.id (nf (c'.its.take q) ((kidN h c').take (q + 1)))) t.id (nf (I1 ++ c'.its[q] :: I2) (List.map Nd.id (C1 ++ halfL c' q :: halfR y c' q :: C2))) n = M1 n := fun n hn hne => by
      have h1 : n ≠ t.id := fun e => by
        rcases R.fr n hn with h2 | h2
        · exact hti (e ▸ h2)
        · have := hlt t.id (id_mem _ t); omega
      have h2 : n ≠ y := fun e => by have := R.lt n hn; have := hs.yn; omega
      rw [setM_other _ _ h1, setM_other _ _ hne, setM_other _ _ h2]
    have hat := tr_at R.tr
    have hother : ∀ d, d ∈ C1 ∨ d ∈ C2 → ∀ n ∈ ids h d, setM (setM (setM M1 y (nf (c'.its.drop (q + 1)) ((kidN h c').drop (q + 1)))) c'.id (nf (c'.its.take q) ((kidN h c').take (q + 1)))) t.id (nf (I1 ++ c'.its[q] :: I2) (List.map Nd.id (C1 ++ halfL c' q :: halfR y c' q :: C2))) n = M n := fun d hdm n hn => by
      obtain ⟨h1, h2⟩ := hd d hdm n hn
      have h3 : n ∈ ids (h + 1) t := List.mem_cons_of_mem _ (List.mem_flatMap.2 ⟨d, K.mem d hdm, hn⟩)
      have h4 := hlt n h3
      rw [setM_other _ _ h2, setM_other _ _ (show n ≠ c'.id from fun e => h1 (by rw [e]; exact hcid)), setM_other _ _ (show n ≠ y from by omega)]
      exact R.re n h1 h4
    rcases List.mem_append.1 hdm with h1 | h1
    · exact (T.tr.2 d (K.mem d (.inl h1))).congr (hother d (.inl h1))
    · rcases List.mem_cons.1 h1 with rfl | h1
      · refine tr_halfL R.tr R.nd hM1 fun cs e => ?_
        rw [hat] at e
        have : kidN h c' = cs := by
          have := congrArg Nf.cs (Option.some.inj e)
          exact this
        rw [setM_other _ _ hct, setM_same, this]
      · rcases List.mem_cons.1 h1 with rfl | h1
        · refine tr_halfR R.tr R.nd hM1 fun cs e => ?_
          rw [hat] at e
          have : kidN h c' = cs := by
            have := congrArg Nf.cs (Option.some.inj e)
            exact this
          rw [setM_other _ _ (Ne.symm hty), setM_other _ _ (Ne.symm hcy), setM_same, this]
        · exact (T.tr.2 d (K.mem d (.inr h1))).congr (hother d (.inr h1))
  · show (ids (h + 1) (⟨t.id, I1 ++ c'.its[q] :: I2, (C1 ++ halfL c' q :: halfR y c' q :: C2 : List (BT Ky h))⟩ : BT Ky (h + 1))).Nodup
    rw [ids_two]
    rw [ids_at K.kds] at hnd hlt
    have hp := half_ids y c' q
    refine nodup_swap hnd (hp.nodup_iff.2 (List.nodup_cons.2 ⟨fun hm => ?_, R.nd⟩)) hlt fun x hx => ?_
    · have := R.lt y hm; have := hs.yn; omega
    · rcases List.mem_cons.1 (hp.mem_iff.1 hx) with rfl | hx
      · exact .inr hwy
      · exact R.fr x hx
  · have hn' : n ∈ ids (h + 1) (⟨t.id, I1 ++ c'.its[q] :: I2, (C1 ++ halfL c' q :: halfR y c' q :: C2 : List (BT Ky h))⟩ : BT Ky (h + 1)) := hn
    rw [ids_two] at hn'
    rw [ids_at K.kds]
    rcases List.mem_append.1 hn' with h1 | h1
    · exact .inl (List.mem_append.2 (.inl h1))
    · rcases List.mem_append.1 h1 with h1 | h1
      · rcases List.mem_cons.1 ((half_ids y c' q).mem_iff.1 h1) with rfl | h1
        · exact .inr hwy
        · rcases R.fr n h1 with h2 | h2
          · exact .inl (List.mem_append.2 (.inr (List.mem_append.2 (.inl h2))))
          · exact .inr h2
      · exact .inl (List.mem_append.2 (.inr (List.mem_append.2 (.inr h1))))
  · refine R.up.trans hf hs.up (fun x ⟨n, hn, e⟩ => ⟨n, K.sub n hn, e⟩) fun x _ hx => ?_
    rcases hx with rfl | rfl
    · exact ⟨t.id, id_mem _ t, rfl⟩
    · exact ⟨c'.id, K.sub _ hcid, rfl⟩
  · have h1 : n ≠ t.id := fun e => hn (e ▸ id_mem _ t)
    have h2 : n ∉ ids h c := fun e => hn (K.sub n e)
    rw [setM_other _ _ h1, setM_other _ _ (show n ≠ c'.id from fun e => h2 (by rw [e]; exact hcid)), setM_other _ _ (show n ≠ y from by omega)]
    exact R.re n h2 hl
end Go.Proofs.Ytfhonfeopkhdeaa.BC

namespace Go.Proofs.Ytfhonfeopkhdeaa.BC
open Go.RowKit Go.Proofs.YtfhonfeopkhdeaaW.PrintWords

theorem PutR.back {w w1 : World} {o o1 : Nat → Nat} {M M1 : Nat → Option (Nf Ky)} {h m lo n : Nat} {c c' : BT Ky h} {k k' : Ky} {v : Int} (R : PutR (w.drewN n) o M h c m lo k v w1 k' c' o1 M1) : PutR w o M h c m lo k v w1 k' c' o1 M1 :=
  ⟨R.kk, R.id, R.ok, R.li, R.gm, R.tr, R.nd, R.fr, R.up.drew, R.re⟩
theorem PutR.drewN {w w1 : World} {o o1 : Nat → Nat} {M M1 : Nat → Option (Nf Ky)} {h m lo : Nat} {c c' : BT Ky h} {k k' : Ky} {v : Int} (R : PutR w o M h c m lo k v w1 k' c' o1 M1) (n : Nat) : PutR w o M h c m lo k v (w1.drewN n) k' c' o1 M1 :=
  ⟨R.kk, R.id, R.ok, R.li, R.gm.drewN n, R.tr, R.nd, R.fr, ⟨R.up.os, R.up.tape, R.up.output, R.up.size, R.up.blk, R.up.old, R.up.fb.drewN n⟩, R.re⟩
theorem Tm.drewN {w : World} {o : Nat → Nat} {M : Nat → Option (Nf Ky)} {h m lo hi : Nat} {t : BT Ky h} (T : Tm w o M h m lo hi t) (n : Nat) : Tm (w.drewN n) o M h m lo hi t := ⟨T.gm.drewN n, T.tr, T.ok, T.le, T.ss⟩
theorem kidN_len {m h lo hi : Nat} {t : BT Ky h} (ho : OkT m h lo hi t) : kidN h t = [] ∨ (kidN h t).length = t.its.length + 1 := by
  cases h with
  | zero => exact .inl rfl
  | succ h =>
    right
    show (t.kds.map Nd.id).length = _
    rw [List.length_map]
    exact ho.kids
theorem nf_part {h : Nat} {t : BT Ky (h + 1)} {I1 I2 : List (Ky × Int)} {C1 C2 : List (BT Ky h)} {c c' : BT Ky h} {k : Ky} (K : KidAt t I1 I2 C1 c C2 k) (hid : c'.id = c.id) {i : Nat} (hi : I1.length = i) (q y : Nat) (b : Ky × Int) :
    (⟨(nf t.its (kidN (h + 1) t)).ks.take i ++ b.1 :: (nf t.its (kidN (h + 1) t)).ks.drop i, (nf t.its (kidN (h + 1) t)).vs.take i ++ b.2 :: (nf t.its (kidN (h + 1) t)).vs.drop i, (nf t.its (kidN (h + 1) t)).cs.take (i + 1) ++ y :: (nf t.its (kidN (h + 1) t)).cs.drop (i + 1)⟩ : Nf Ky) = nf (I1 ++ b :: I2) (List.map Nd.id (C1 ++ halfL c' q :: halfR y c' q :: C2)) := by
  subst hi
  have e1 : t.its.map (·.1) = I1.map (·.1) ++ I2.map (·.1) := by rw [K.its, List.map_append]
  have e2 : t.its.map (·.2) = I1.map (·.2) ++ I2.map (·.2) := by rw [K.its, List.map_append]
  have e3 : kidN (h + 1) t = (C1.map Nd.id ++ [c.id]) ++ C2.map Nd.id := by
    show t.kds.map Nd.id = _
    rw [K.kds]
    simp
  have l3 : (C1.map Nd.id ++ [c.id]).length = I1.length + 1 := by simp [K.l1]
  unfold nf
  simp only [e1, e2, e3, Nf.mk.injEq]
  refine ⟨?_, ?_, ?_⟩
  · rw [show I1.length = (I1.map (·.1)).length from (List.length_map _).symm, List.take_left, List.drop_left]; simp
  · rw [show I1.length = (I1.map (·.2)).length from (List.length_map _).symm, List.take_left, List.drop_left]; simp
  · rw [← l3, List.take_left, List.drop_left]
    simp [halfL, halfR, hid]
set_option maxRecDepth 100000 in
set_option maxHeartbeats 4000000 in
theorem put_kid (p m sz q h : Nat) (hm : 3 ≤ m ∧ m ≤ 64) (k : Ky) (v : Int)
    (IH : ∀ (c : BT Ky h) (lo : Nat) (w : World) (o : Nat → Nat) (M : Nat → Option (Nf Ky)), TrAt w o p m sz q → Fb o w → Tm w o M h m lo m c → (ids h c).Nodup → KRd w k → Calls Try.prog 64 #[nv p, nv c.id, kv k, .int .u64 v] w (PutP w o M h c m lo k v))
    (lo : Nat) (t : BT Ky (h + 1)) (w : World) (o : Nat → Nat) (M : Nat → Option (Nf Ky)) (ht : TrAt w o p m sz q) (hf : Fb o w) (T : Tm w o M (h + 1) m lo m t) (hnd : (ids (h + 1) t).Nodup) (hk : KRd w k) {i : Nat} (ha : At kct t.its k i false) :
    Calls Try.prog 64 #[nv p, nv t.id, kv k, .int .u64 v] w (PutP w o M (h + 1) t m lo k v) := by
  obtain ⟨I1, I2, C1, c, C2, k1, k2, k3, k4, k5, k6, k7, k8⟩ := node_go T.ok T.ss ha
  have K : KidAt t I1 I2 C1 c C2 k := ⟨k1, k2, by omega, k5, k6, k7, k8⟩
  obtain ⟨hcn, hti, -⟩ := K.apart hnd
  have hko := T.ok.kids
  have hile := ha.le
  obtain ⟨vk, vv, vc, hn, hs, hl⟩ := T.top
  have HF := Lib.hid (find_at p m sz q t.id vk vv vc t.its _ k w o ht hn (by omega) hs hk ha)
  obtain ⟨-, -, d2⟩ := hn.cells
  obtain ⟨A1, c1, A2, c2, A3, c3, rfl, rfl, rfl, q1, q2, q3⟩ := hn.row
  have hcl : (kidN (h + 1) t).length = t.its.length + 1 := by
    show (t.kds.map Nd.id).length = _
    rw [List.length_map]
    exact hko
  obtain ⟨gc, rfl, hv1, -⟩ := hn.ccell (i := i) (by show i < (kidN (h + 1) t).length; omega)
  have hcid : (nf t.its (kidN (h + 1) t)).cs[i]'(by show i < (kidN (h + 1) t).length; omega) = c.id := get_mid (A := C1.map Nd.id) (B := C2.map Nd.id) (by show t.kds.map Nd.id = _; rw [k2]; simp) (by rw [List.length_map]; exact k4) _
  rw [hcid] at hv1
  have hcs : (nf t.its (kidN (h + 1) t)).cs.length = t.its.length + 1 := hcl
  rw [hcs] at d2 q3
  have hi1 : (i : Int) < (t.its.length : Int) + 1 := by omega
  have HN := Lib.hid hn
  have HT := Lib.hid ht
  have HTT := Lib.hid T
  have HFB := Lib.hid hf
  have HK := Lib.hid hk
  have HKA := Lib.hid K
  have HND := Lib.hid hnd
  have HCN := Lib.hid hcn
  have HTI := Lib.hid hti
  have HC := Lib.hid (fun mq => IH c (m / 2) (w.drewN mq) o M (ht.drewN mq) (hf.drewN mq) ((T.kid (by omega) k2 k8).drewN mq) hcn (hk.drewN mq))
  have HK4 := Lib.hid k4
  have HK3 := Lib.hid k3
  have HCLN := Lib.hid hcl
  clear hn ht T hf hk K hnd hcn hti k1 k2 k3 k4 k5 k6 k7 k8 hs ha hko IH hcs hcl hcid q1 q2
  unfold nv at *
  go_enter Try.func64, Try.ntmps64
  go_upto_region 2 with (first | (go_at_call 67; refine HF.out.mono ?_; rintro e w1 ⟨rfl, mq, rfl⟩) | (go_at_call 64; refine (HC.out _).mono ?_; rintro e w1 ⟨rfl, k', c', o1, M1, hR⟩; have HR := Lib.hid hR.back; clear hR))
  have hpn : ∀ n ∈ ids h c, n ≠ p := fun n hn e => by
    obtain ⟨F, hF⟩ := tr_ids HTT.out.tr n (HKA.out.sub n hn)
    obtain ⟨_, _, _, hnd⟩ := HTT.out.gm n F hF
    exact HT.out.ne hnd e.symm
  have hP := HN.out.up HR.out.up (fun ⟨n, _, e⟩ => by omega) (fun ⟨n, hn, e⟩ => HTI.out (by
    have : n = t.id := by omega
    rw [← this]; exact hn))
  have hT1 := HT.out.up HR.out.up (fun ⟨n, hn, e⟩ => hpn n hn (by omega))
  have hid := HR.out.id
  obtain ⟨xk, xv, xc, hX⟩ := HR.out.gm c'.id _ (tr_at HR.out.tr)
  obtain ⟨B1, b1, B2, b2, B3, b3, rfl, rfl, rfl, -, -, -⟩ := hX.row
  obtain ⟨x0, -, -⟩ := hX.cells
  obtain ⟨-, -, e2⟩ := hP.cells
  obtain ⟨p0, -⟩ := hT1.cells
  have hxl : (nf c'.its (kidN h c')).ks.length = c'.its.length := List.length_map _
  have hcs2 : (nf t.its (kidN (h + 1) t)).cs.length = t.its.length + 1 := HCLN.out
  obtain ⟨gc', ee, g1, -⟩ := hP.ccell (i := i) (by rw [hcs2]; omega)
  cases ee
  have hcid2 : (nf t.its (kidN (h + 1) t)).cs[i]'(by rw [hcs2]; omega) = c'.id := by
    rw [hid]
    exact get_mid (A := C1.map Nd.id) (B := C2.map Nd.id) (by show t.kds.map Nd.id = _; rw [HKA.out.kds]; simp) (by rw [List.length_map]; exact HK4.out) _
  rw [hcid2] at g1
  rw [hxl] at x0
  rw [hcs2] at e2
  have HP := Lib.hid hP
  have HX := Lib.hid hX
  have HT1 := Lib.hid hT1
  have HXL := Lib.hid hxl
  clear hP hX hT1 hxl hcs2 hcid2 hpn hid
  unfold nv at g1
  by_cases hgt : m < c'.its.length
  · have hgt' : (m : Int) < (c'.its.length : Int) := by omega
    have hL : c'.its.length = m + 1 := by have := HR.out.ok.len.2; omega
    have hax : t.id ≠ c'.id := fun e => HTI.out (by rw [e, HR.out.id]; exact id_mem h c)
    have hql : (m + 1) / 2 < c'.its.length := by omega
    have HSP := Lib.hid (fun nq => split_any (nv p) t.id c'.id i ((m + 1) / 2) (m + 1) (w1.drewN nq) o1 (nf t.its (kidN (h + 1) t)) (nf c'.its (kidN h c')) (HR.out.up.fb.drewN nq) ⟨_, _, _, HP.out.drewN nq⟩ ⟨_, _, _, HX.out.drewN nq⟩ hax (by show i < (kidN (h + 1) t).length; have := HCLN.out; omega)
      (by
        have := HR.out.id
        show (t.kds.map Nd.id)[i]? = some c'.id
        have h4 := HK4.out
        rw [HKA.out.kds, this, ← h4]
        simp)
      (by show i ≤ (t.its.map _).length; rw [List.length_map]; exact hile) (by show (t.its.map _).length = (t.its.map _).length; rw [List.length_map, List.length_map]) ⟨by show (kidN (h + 1) t).length ≤ 1000; have := HCLN.out; have := HTT.out.ok.len.2; omega, by show (t.its.map _).length ≤ 1000; rw [List.length_map]; exact hl⟩
      (by show (c'.its.map _).length = _; rw [List.length_map]; exact hL) (by show (c'.its.map _).length = _; rw [List.length_map]; exact hL) (by omega) rfl (by omega) (by
        have := kidN_len HR.out.ok
        rw [hL] at this
        exact this) (c'.its[(m + 1) / 2]).1 (c'.its[(m + 1) / 2]).2 (by show (c'.its.map _)[_]? = _; rw [List.getElem?_map, List.getElem?_eq_getElem hql]; rfl) (by show (c'.its.map _)[_]? = _; rw [List.getElem?_map, List.getElem?_eq_getElem hql]; rfl))
    have HL := Lib.hid hL
    clear hL hax
    unfold nv at HSP
    go_quiet (fail)
    go_wp2_with (go_at_call 65; refine (HSP.out _).mono ?_; rintro e w2 ⟨rfl, y, o2, hsp⟩)
    go_end0
    rw [nf_part HKA.out HR.out.id HK3.out ((m + 1) / 2) y (c'.its[(m + 1) / 2]'hql)] at hsp
    have e1 : (⟨(nf c'.its (kidN h c')).ks.take ((m + 1) / 2), (nf c'.its (kidN h c')).vs.take ((m + 1) / 2), (nf c'.its (kidN h c')).cs.take ((m + 1) / 2 + 1)⟩ : Nf Ky) = nf (c'.its.take ((m + 1) / 2)) ((kidN h c').take ((m + 1) / 2 + 1)) := by
      unfold nf; simp [List.map_take]
    have e2 : (⟨(nf c'.its (kidN h c')).ks.drop ((m + 1) / 2 + 1), (nf c'.its (kidN h c')).vs.drop ((m + 1) / 2 + 1), (nf c'.its (kidN h c')).cs.drop ((m + 1) / 2 + 1)⟩ : Nf Ky) = nf (c'.its.drop ((m + 1) / 2 + 1)) ((kidN h c').drop ((m + 1) / 2 + 1)) := by
      unfold nf; simp [List.map_drop]
    rw [e1, e2] at hsp
    obtain ⟨M2, hR2⟩ := split_fin HTT.out HFB.out HND.out HKA.out (HR.out.drewN _) hm.1 HL.out rfl hql hsp
    exact ⟨rfl, k', _, o2, M2, hR2⟩
  · have hgt' : decide ((m : Int) < (c'.its.length : Int)) = false := decide_eq_false (by omega)
    have hgt2 : ¬ ((m : Int) < (c'.its.length : Int)) := by omega
    go_quiet (fail)
    go_wp2_with fail
    go_end0
    exact ⟨rfl, k', _, o1, M1, (kid_fin HTT.out HND.out HKA.out HR.out (by omega)).drewN _⟩
/-- put: any tree. -/
theorem put_any (p m sz q : Nat) (hm : 3 ≤ m ∧ m ≤ 64) (k : Ky) (v : Int) : ∀ (h : Nat) (t : BT Ky h) (lo : Nat) (w : World) (o : Nat → Nat) (M : Nat → Option (Nf Ky)), TrAt w o p m sz q → Fb o w → Tm w o M h m lo m t → (ids h t).Nodup → KRd w k →
    Calls Try.prog 64 #[nv p, nv t.id, kv k, .int .u64 v] w (PutP w o M h t m lo k v)
  | 0, t, lo, w, o, M, ht, hf, T, hnd, hk => by
    obtain ⟨i, is, ha⟩ := at_exists (k := k) (its_sorted T.ok T.ss)
    cases is with
    | true => exact put_is p m sz q 0 lo t k v w o M ht hf T hnd hk ha
    | false => exact put_leaf p m sz q lo t k v w o M ht hf T hm.2 hk ha
  | h + 1, t, lo, w, o, M, ht, hf, T, hnd, hk => by
    obtain ⟨i, is, ha⟩ := at_exists (k := k) (its_sorted T.ok T.ss)
    cases is with
    | true => exact put_is p m sz q (h + 1) lo t k v w o M ht hf T hnd hk ha
    | false => exact put_kid p m sz q h hm k v (fun c lo w o M a b c' d e => put_any p m sz q hm k v h c lo w o M a b c' d e) lo t w o M ht hf T hnd hk ha
end Go.Proofs.Ytfhonfeopkhdeaa.BC
