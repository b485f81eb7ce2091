/-
  put, where the key goes below a child: what is left. No premise.
-/
import Derived.Test.YtfhonfeopkhdeaaBtWS
import Derived.Test.YtfhonfeopkhdeaaBtN
namespace Go.Proofs.Ytfhonfeopkhdeaa.BS
open Go.RowKit Go.Proofs.YtfhonfeopkhdeaaW.PrintWords

theorem ids_at {h : Nat} {t : BT Ky (h + 1)} {C1 C2 : List (BT Ky h)} {c : BT Ky h} (e2 : t.kds = C1 ++ c :: C2) : ids (h + 1) t = (t.id :: C1.flatMap (ids h)) ++ (ids h c ++ C2.flatMap (ids h)) := by
  show t.id :: t.kds.flatMap (ids h) = _
  rw [e2, List.flatMap_append, List.flatMap_cons]
  rfl
theorem Tm.lt {w : World} {o : Nat → Nat} {M : Nat → Option (Nf Ky)} {h m lo hi : Nat} {t : BT Ky h} (T : Tm w o M h m lo hi t) : ∀ n ∈ ids h t, n < w.heap.size := fun n hn => by
  obtain ⟨F, hF⟩ := tr_ids T.tr n hn
  exact T.gm.lt hF
/-- A child's place, apart from the others'. -/
structure KidAt {h : Nat} (t : BT Ky (h + 1)) (I1 I2 : List (Ky × Int)) (C1 : List (BT Ky h)) (c : BT Ky h) (C2 : List (BT Ky h)) (k : Ky) : Prop where
  its : t.its = I1 ++ I2
  kds : t.kds = C1 ++ c :: C2
  l1 : C1.length = I1.length
  l2 : I2.length = C2.length
  lo : Lo kct (preW (C1.map (toL h)) I1) k
  hi : Hi kct (postW I2 (C2.map (toL h))) k
  li : toL (h + 1) t = preW (C1.map (toL h)) I1 ++ (toL h c ++ postW I2 (C2.map (toL h)))
theorem KidAt.apart {h : Nat} {t : BT Ky (h + 1)} {I1 I2 : List (Ky × Int)} {C1 C2 : List (BT Ky h)} {c : BT Ky h} {k : Ky} (K : KidAt t I1 I2 C1 c C2 k) (hnd : (ids (h + 1) t).Nodup) :
    (ids h c).Nodup ∧ t.id ∉ ids h c ∧ ∀ d, d ∈ C1 ∨ d ∈ C2 → ∀ n ∈ ids h d, n ∉ ids h c ∧ n ≠ t.id := by
  rw [ids_at K.kds] at hnd
  obtain ⟨h1, h2, h3⟩ := List.nodup_append.1 hnd
  obtain ⟨h4, h5, h6⟩ := List.nodup_append.1 h2
  refine ⟨h4, fun hm => h3 t.id List.mem_cons_self t.id (List.mem_append.2 (.inl hm)) rfl, fun d hd n hn => ?_⟩
  rcases hd with hd | hd
  · have hm : n ∈ C1.flatMap (ids h) := List.mem_flatMap.2 ⟨d, hd, hn⟩
    exact ⟨fun hc => h3 n (List.mem_cons_of_mem _ hm) n (List.mem_append.2 (.inl hc)) rfl, fun e => (List.nodup_cons.1 h1).1 (e ▸ hm)⟩
  · have hm : n ∈ C2.flatMap (ids h) := List.mem_flatMap.2 ⟨d, hd, hn⟩
    exact ⟨fun hc => h6 n hc n hm rfl, fun e => h3 t.id List.mem_cons_self n (List.mem_append.2 (.inr hm)) e.symm⟩
theorem KidAt.sub {h : Nat} {t : BT Ky (h + 1)} {I1 I2 : List (Ky × Int)} {C1 C2 : List (BT Ky h)} {c : BT Ky h} {k : Ky} (K : KidAt t I1 I2 C1 c C2 k) : ∀ n ∈ ids h c, n ∈ ids (h + 1) t := fun n hn => by
  rw [ids_at K.kds]
  simp [hn]
theorem KidAt.mem {h : Nat} {t : BT Ky (h + 1)} {I1 I2 : List (Ky × Int)} {C1 C2 : List (BT Ky h)} {c : BT Ky h} {k : Ky} (K : KidAt t I1 I2 C1 c C2 k) : ∀ d, d ∈ C1 ∨ d ∈ C2 → d ∈ t.kds := fun d hd => by
  rw [K.kds]
  rcases hd with h | h <;> simp [h]
theorem kid_fin {w w1 : World} {o o1 : Nat → Nat} {M M1 : Nat → Option (Nf Ky)} {h m lo : Nat} {t : BT Ky (h + 1)} {k k' : Ky} {v : Int} {I1 I2 : List (Ky × Int)} {C1 C2 : List (BT Ky h)} {c c' : BT Ky h} (T : Tm w o M (h + 1) m lo m t) (hnd : (ids (h + 1) t).Nodup) (K : KidAt t I1 I2 C1 c C2 k)
    (R : PutR w o M h c m (m / 2) k v w1 k' c' o1 M1) (hle : c'.its.length ≤ m) : PutR w o M (h + 1) t m lo k v w1 k' ⟨t.id, t.its, (C1 ++ c' :: C2 : List (BT Ky h))⟩ o1 M1 := by
  obtain ⟨hc, hti, hd⟩ := K.apart hnd
  have hlt := T.lt
  have hok := T.ok
  have hkl : t.kds.length = t.its.length + 1 := hok.2.1
  have hre : ∀ n ∈ ids (h + 1) t, n ∉ ids h c → M1 n = M n := fun n hn hc => R.re n hc (hlt n hn)
  refine ⟨R.kk, rfl, ⟨⟨hok.1.1, by have := hok.1.2; show t.its.length ≤ m + 1; omega⟩, ?_, fun d hdm => ?_⟩, ?_, R.gm, ⟨?_, fun d hdm => ?_⟩, ?_, fun n hn => ?_, R.up.mono (fun x ⟨n, hn, e⟩ => ⟨n, K.sub n hn, e⟩), fun n hn hl => R.re n (fun hc => hn (K.sub n hc)) hl⟩
  · show (C1 ++ c' :: C2).length = t.its.length + 1
    rw [← hkl, K.kds]
    simp
  · rcases List.mem_append.1 hdm with h1 | h1
    · exact hok.2.2 d (K.mem d (.inl h1))
    · rcases List.mem_cons.1 h1 with rfl | h1
      · exact R.ok.weaken R.ok.len.1 hle
      · exact hok.2.2 d (K.mem d (.inr h1))
  · have e : toL (h + 1) (⟨t.id, t.its, (C1 ++ c' :: C2 : List (BT Ky h))⟩ : BT Ky (h + 1)) = preW (C1.map (toL h)) I1 ++ (toL h c' ++ postW I2 (C2.map (toL h))) := by
      rw [K.its]
      exact toL_node K.l1 K.l2
    rw [e, R.li, K.li, insL_lo (lo_ct R.kk K.lo), insL_hi (hi_ct R.kk K.hi)]
  · show M1 t.id = some (nf t.its ((C1 ++ c' :: C2).map Nd.id))
    rw [hre t.id (id_mem _ t) hti, T.tr.1, K.kds]
    simp [R.id]
  · rcases List.mem_append.1 hdm with h1 | h1
    · exact (T.tr.2 d (K.mem d (.inl h1))).congr fun n hn => hre n (List.mem_cons_of_mem _ (List.mem_flatMap.2 ⟨d, K.mem d (.inl h1), hn⟩)) (hd d (.inl h1) n hn).1
    · rcases List.mem_cons.1 h1 with rfl | h1
      · exact R.tr
      · exact (T.tr.2 d (K.mem d (.inr h1))).congr fun n hn => hre n (List.mem_cons_of_mem _ (List.mem_flatMap.2 ⟨d, K.mem d (.inr h1), hn⟩)) (hd d (.inr h1) n hn).1
  · rw [ids_kid]
    rw [ids_at K.kds] at hnd hlt
    exact nodup_swap hnd R.nd hlt R.fr
  · rw [ids_kid] at hn
    rw [ids_at K.kds]
    rcases List.mem_append.1 hn with h1 | h1
    · exact .inl (List.mem_append.2 (.inl h1))
    · rcases List.mem_append.1 h1 with h1 | h1
      · rcases R.fr n h1 with h2 | h2
        · exact .inl (List.mem_append.2 (.inr (List.mem_append.2 (.inl h2))))
        · exact .inr h2
      · exact .inl (List.mem_append.2 (.inr (List.mem_append.2 (.inr h1))))
theorem Sp.gm {w wc : World} {o oc : Nat → Nat} {a x y : Nat} {FA FX FY : Nf Ky} {M : Nat → Option (Nf Ky)} (h : Sp w o a x y FA FX FY wc oc) (g : Gm w o M) : Gm wc oc (setM (setM (setM M y FY) x FX) a FA) := fun b G hG => by
  by_cases e1 : b = a
  · subst e1
    rw [setM_same] at hG
    cases hG
    exact h.na
  · rw [setM_other _ _ e1] at hG
    by_cases e2 : b = x
    · subst e2
      rw [setM_same] at hG
      cases hG
      exact h.nx
    · rw [setM_other _ _ e2] at hG
      by_cases e3 : b = y
      · subst e3
        rw [setM_same] at hG
        cases hG
        exact h.ny
      · rw [setM_other _ _ e3] at hG
        obtain ⟨vk, vv, vc, hb⟩ := g b G hG
        exact ⟨vk, vv, vc, hb.up h.up (fun e => by omega) (fun e => by omega)⟩
theorem PutR.lt {w w1 : World} {o o1 : Nat → Nat} {M M1 : Nat → Option (Nf Ky)} {h m lo : Nat} {c c' : BT Ky h} {k k' : Ky} {v : Int} (R : PutR w o M h c m lo k v w1 k' c' o1 M1) : ∀ n ∈ ids h c', n < w1.heap.size := fun n hn => by
  obtain ⟨F, hF⟩ := tr_ids R.tr n hn
  exact R.gm.lt hF
/-- The node when a child has been parted. -/
def parted {h : Nat} (t : BT Ky (h + 1)) (I1 I2 : List (Ky × Int)) (C1 : List (BT Ky h)) (c' : BT Ky h) (C2 : List (BT Ky h)) (q y : Nat) (b : Ky × Int) : BT Ky (h + 1) := ⟨t.id, I1 ++ b :: I2, (C1 ++ halfL c' q :: halfR y c' q :: C2 : List (BT Ky h))⟩
theorem split_fin {w w1 w2 : World} {o o1 o2 : Nat → Nat} {M M1 : Nat → Option (Nf Ky)} {h m lo : Nat} {t : BT Ky (h + 1)} {k k' : Ky} {v : Int} {I1 I2 : List (Ky × Int)} {C1 C2 : List (BT Ky h)} {c c' : BT Ky h} (T : Tm w o M (h + 1) m lo m t) (hf : Fb o w) (hnd : (ids (h + 1) t).Nodup) (K : KidAt t I1 I2 C1 c C2 k)
    (R : PutR w o M h c m (m / 2) k v w1 k' c' o1 M1) (hm : 3 ≤ m) (hgt : c'.its.length = m + 1) {q y : Nat} (hq : q = (m + 1) / 2) (hql : q < c'.its.length)
    (hs : Sp w1 o1 t.id c'.id y (nf (I1 ++ c'.its[q] :: I2) (List.map Nd.id (C1 ++ halfL c' q :: halfR y c' q :: C2))) (nf (c'.its.take q) ((kidN h c').take (q + 1))) (nf (c'.its.drop (q + 1)) ((kidN h c').drop (q + 1))) w2 o2) :
    ∃ M2, PutR w o M (h + 1) t m lo k v w2 k' (parted t I1 I2 C1 c' C2 q y c'.its[q]) o2 M2 := by
  obtain ⟨hc, hti, hd⟩ := K.apart hnd
  have hlt := T.lt
  have hok := T.ok
  have hkl : t.kds.length = t.its.length + 1 := hok.2.1
  have hwy : w.heap.size ≤ y := Nat.le_trans R.up.size hs.yn
  have hcid : c'.id ∈ ids h c := R.id ▸ id_mem h c
  have hcy : c'.id ≠ y := fun e => by have := R.lt c'.id (id_mem h c'); have := hs.yn; omega
  have hct : c'.id ≠ t.id := fun e => hti (e ▸ hcid)
  have hty : t.id ≠ y := fun e => by have := hlt t.id (id_mem _ t); omega
  refine ⟨_, R.kk, rfl, ⟨⟨?_, ?_⟩, ?_, fun d hdm => ?_⟩, ?_, hs.gm R.gm, ⟨setM_same _ _ _, fun d hdm => ?_⟩, ?_, fun n hn => ?_, ?_, fun n hn hl => ?_⟩
  · show lo ≤ (I1 ++ c'.its[q] :: I2).length
    have := hok.1.1
    rw [K.its] at this
    simp at this ⊢
    omega
  · show (I1 ++ c'.its[q] :: I2).length ≤ m + 1
    have := hok.1.2
    rw [K.its] at this
    simp at this ⊢
    omega
  · show (C1 ++ halfL c' q :: halfR y c' q :: C2).length = (I1 ++ c'.its[q] :: I2).length + 1
    have h1 := K.l1
    have h2 := K.l2
    simp
    omega
  · obtain ⟨o1, o2⟩ := half_ok R.ok y hql
    rcases List.mem_append.1 hdm with h1 | h1
    · exact hok.2.2 d (K.mem d (.inl h1))
    · rcases List.mem_cons.1 h1 with rfl | h1
      · exact o1.weaken (by have := o1.len; omega) (by have := o1.len; omega)
      · rcases List.mem_cons.1 h1 with rfl | h1
        · exact o2.weaken (by have := o2.len; omega) (by have := o2.len; omega)
        · exact hok.2.2 d (K.mem d (.inr h1))
  · show toL (h + 1) (⟨t.id, I1 ++ c'.its[q] :: I2, (C1 ++ halfL c' q :: halfR y c' q :: C2 : List (BT Ky h))⟩ : BT Ky (h + 1)) = _
    rw [toL_two K.l1 K.l2, ← toL_half R.ok y hql, R.li, K.li, insL_lo (lo_ct R.kk K.lo), insL_hi (hi_ct R.kk K.hi)]
  · have hM1 : ∀ n ∈ ids h c', n ≠ c'.id → setM (setM (setM M1 y (nf (c'.its.drop (q + 1)) ((kidN h c').drop (q + 1)))) c'.id (nf (c'.its.take q) ((kidN h c').take (q + 1)))) t.id (nf (I1 ++ c'.its[q] :: I2) (List.map Nd.id (C1 ++ halfL c' q :: halfR y c' q :: C2))) n = M1 n := fun n hn hne => by
      have h1 : n ≠ t.id := fun e => by
        rcases R.fr n hn with h2 | h2
        · exact hti (e ▸ h2)
        · have := hlt t.id (id_mem _ t); omega
      have h2 : n ≠ y := fun e => by have := R.lt n hn; have := hs.yn; omega
      rw [setM_other _ _ h1, setM_other _ _ hne, setM_other _ _ h2]
    have hat := tr_at R.tr
    have hother : ∀ d, d ∈ C1 ∨ d ∈ C2 → ∀ n ∈ ids h d, setM (setM (setM M1 y (nf (c'.its.drop (q + 1)) ((kidN h c').drop (q + 1)))) c'.id (nf (c'.its.take q) ((kidN h c').take (q + 1)))) t.id (nf (I1 ++ c'.its[q] :: I2) (List.map Nd.id (C1 ++ halfL c' q :: halfR y c' q :: C2))) n = M n := fun d hdm n hn => by
      obtain ⟨h1, h2⟩ := hd d hdm n hn
      have h3 : n ∈ ids (h + 1) t := List.mem_cons_of_mem _ (List.mem_flatMap.2 ⟨d, K.mem d hdm, hn⟩)
      have h4 := hlt n h3
      rw [setM_other _ _ h2, setM_other _ _ (show n ≠ c'.id from fun e => h1 (by rw [e]; exact hcid)), setM_other _ _ (show n ≠ y from by omega)]
      exact R.re n h1 h4
    rcases List.mem_append.1 hdm with h1 | h1
    · exact (T.tr.2 d (K.mem d (.inl h1))).congr (hother d (.inl h1))
    · rcases List.mem_cons.1 h1 with rfl | h1
      · refine tr_halfL R.tr R.nd hM1 fun cs e => ?_
        rw [hat] at e
        have : kidN h c' = cs := by
          have := congrArg Nf.cs (Option.some.inj e)
          exact this
        rw [setM_other _ _ hct, setM_same, this]
      · rcases List.mem_cons.1 h1 with rfl | h1
        · refine tr_halfR R.tr R.nd hM1 fun cs e => ?_
          rw [hat] at e
          have : kidN h c' = cs := by
            have := congrArg Nf.cs (Option.some.inj e)
            exact this
          rw [setM_other _ _ (Ne.symm hty), setM_other _ _ (Ne.symm hcy), setM_same, this]
        · exact (T.tr.2 d (K.mem d (.inr h1))).congr (hother d (.inr h1))
  · show (ids (h + 1) (⟨t.id, I1 ++ c'.its[q] :: I2, (C1 ++ halfL c' q :: halfR y c' q :: C2 : List (BT Ky h))⟩ : BT Ky (h + 1))).Nodup
    rw [ids_two]
    rw [ids_at K.kds] at hnd hlt
    have hp := half_ids y c' q
    refine nodup_swap hnd (hp.nodup_iff.2 (List.nodup_cons.2 ⟨fun hm => ?_, R.nd⟩)) hlt fun x hx => ?_
    · have := R.lt y hm; have := hs.yn; omega
    · rcases List.mem_cons.1 (hp.mem_iff.1 hx) with rfl | hx
      · exact .inr hwy
      · exact R.fr x hx
  · have hn' : n ∈ ids (h + 1) (⟨t.id, I1 ++ c'.its[q] :: I2, (C1 ++ halfL c' q :: halfR y c' q :: C2 : List (BT Ky h))⟩ : BT Ky (h + 1)) := hn
    rw [ids_two] at hn'
    rw [ids_at K.kds]
    rcases List.mem_append.1 hn' with h1 | h1
    · exact .inl (List.mem_append.2 (.inl h1))
    · rcases List.mem_append.1 h1 with h1 | h1
      · rcases List.mem_cons.1 ((half_ids y c' q).mem_iff.1 h1) with rfl | h1
        · exact .inr hwy
        · rcases R.fr n h1 with h2 | h2
          · exact .inl (List.mem_append.2 (.inr (List.mem_append.2 (.inl h2))))
          · exact .inr h2
      · exact .inl (List.mem_append.2 (.inr (List.mem_append.2 (.inr h1))))
  · refine R.up.trans hf hs.up (fun x ⟨n, hn, e⟩ => ⟨n, K.sub n hn, e⟩) fun x _ hx => ?_
    rcases hx with rfl | rfl
    · exact ⟨t.id, id_mem _ t, rfl⟩
    · exact ⟨c'.id, K.sub _ hcid, rfl⟩
  · have h1 : n ≠ t.id := fun e => hn (e ▸ id_mem _ t)
    have h2 : n ∉ ids h c := fun e => hn (K.sub n e)
    rw [setM_other _ _ h1, setM_other _ _ (show n ≠ c'.id from fun e => h2 (by rw [e]; exact hcid)), setM_other _ _ (show n ≠ y from by omega)]
    exact R.re n h2 hl
end Go.Proofs.Ytfhonfeopkhdeaa.BS
