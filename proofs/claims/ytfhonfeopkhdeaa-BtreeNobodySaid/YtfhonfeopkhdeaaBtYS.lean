/-
  put. No premise.
-/
import Derived.Test.YtfhonfeopkhdeaaBtXS
namespace Go.Proofs.Ytfhonfeopkhdeaa.BS
open Go.RowKit Go.Proofs.YtfhonfeopkhdeaaW.PrintWords

theorem PutR.back {w w1 : World} {o o1 : Nat → Nat} {M M1 : Nat → Option (Nf Ky)} {h m lo n : Nat} {c c' : BT Ky h} {k k' : Ky} {v : Int} (R : PutR (w.drewN n) o M h c m lo k v w1 k' c' o1 M1) : PutR w o M h c m lo k v w1 k' c' o1 M1 :=
  ⟨R.kk, R.id, R.ok, R.li, R.gm, R.tr, R.nd, R.fr, R.up.drew, R.re⟩
theorem PutR.drewN {w w1 : World} {o o1 : Nat → Nat} {M M1 : Nat → Option (Nf Ky)} {h m lo : Nat} {c c' : BT Ky h} {k k' : Ky} {v : Int} (R : PutR w o M h c m lo k v w1 k' c' o1 M1) (n : Nat) : PutR w o M h c m lo k v (w1.drewN n) k' c' o1 M1 :=
  ⟨R.kk, R.id, R.ok, R.li, R.gm.drewN n, R.tr, R.nd, R.fr, ⟨R.up.os, R.up.tape, R.up.output, R.up.size, R.up.blk, R.up.old, R.up.fb.drewN n⟩, R.re⟩
theorem Tm.drewN {w : World} {o : Nat → Nat} {M : Nat → Option (Nf Ky)} {h m lo hi : Nat} {t : BT Ky h} (T : Tm w o M h m lo hi t) (n : Nat) : Tm (w.drewN n) o M h m lo hi t := ⟨T.gm.drewN n, T.tr, T.ok, T.le, T.ss⟩
theorem kidN_len {m h lo hi : Nat} {t : BT Ky h} (ho : OkT m h lo hi t) : kidN h t = [] ∨ (kidN h t).length = t.its.length + 1 := by
  cases h with
  | zero => exact .inl rfl
  | succ h =>
    right
    show (t.kds.map Nd.id).length = _
    rw [List.length_map]
    exact ho.kids
theorem nf_part {h : Nat} {t : BT Ky (h + 1)} {I1 I2 : List (Ky × Int)} {C1 C2 : List (BT Ky h)} {c c' : BT Ky h} {k : Ky} (K : KidAt t I1 I2 C1 c C2 k) (hid : c'.id = c.id) {i : Nat} (hi : I1.length = i) (q y : Nat) (b : Ky × Int) :
    (⟨(nf t.its (kidN (h + 1) t)).ks.take i ++ b.1 :: (nf t.its (kidN (h + 1) t)).ks.drop i, (nf t.its (kidN (h + 1) t)).vs.take i ++ b.2 :: (nf t.its (kidN (h + 1) t)).vs.drop i, (nf t.its (kidN (h + 1) t)).cs.take (i + 1) ++ y :: (nf t.its (kidN (h + 1) t)).cs.drop (i + 1)⟩ : Nf Ky) = nf (I1 ++ b :: I2) (List.map Nd.id (C1 ++ halfL c' q :: halfR y c' q :: C2)) := by
  subst hi
  have e1 : t.its.map (·.1) = I1.map (·.1) ++ I2.map (·.1) := by rw [K.its, List.map_append]
  have e2 : t.its.map (·.2) = I1.map (·.2) ++ I2.map (·.2) := by rw [K.its, List.map_append]
  have e3 : kidN (h + 1) t = (C1.map Nd.id ++ [c.id]) ++ C2.map Nd.id := by
    show t.kds.map Nd.id = _
    rw [K.kds]
    simp
  have l3 : (C1.map Nd.id ++ [c.id]).length = I1.length + 1 := by simp [K.l1]
  unfold nf
  simp only [e1, e2, e3, Nf.mk.injEq]
  refine ⟨?_, ?_, ?_⟩
  · rw [show I1.length = (I1.map (·.1)).length from (List.length_map _).symm, List.take_left, List.drop_left]; simp
  · rw [show I1.length = (I1.map (·.2)).length from (List.length_map _).symm, List.take_left, List.drop_left]; simp
  · rw [← l3, List.take_left, List.drop_left]
    simp [halfL, halfR, hid]
set_option maxRecDepth 100000 in
set_option maxHeartbeats 4000000 in
theorem put_kid (p m sz q h : Nat) (hm : 3 ≤ m ∧ m ≤ 64) (k : Ky) (v : Int)
    (IH : ∀ (c : BT Ky h) (lo : Nat) (w : World) (o : Nat → Nat) (M : Nat → Option (Nf Ky)), TrAt w o p m sz q → Fb o w → Tm w o M h m lo m c → (ids h c).Nodup → KRd w k → Calls Try.prog 52 #[nv p, nv c.id, kv k, .int .u64 v] w (PutP w o M h c m lo k v))
    (lo : Nat) (t : BT Ky (h + 1)) (w : World) (o : Nat → Nat) (M : Nat → Option (Nf Ky)) (ht : TrAt w o p m sz q) (hf : Fb o w) (T : Tm w o M (h + 1) m lo m t) (hnd : (ids (h + 1) t).Nodup) (hk : KRd w k) {i : Nat} (ha : At kct t.its k i false) :
    Calls Try.prog 52 #[nv p, nv t.id, kv k, .int .u64 v] w (PutP w o M (h + 1) t m lo k v) := by
  obtain ⟨I1, I2, C1, c, C2, k1, k2, k3, k4, k5, k6, k7, k8⟩ := node_go T.ok T.ss ha
  have K : KidAt t I1 I2 C1 c C2 k := ⟨k1, k2, by omega, k5, k6, k7, k8⟩
  obtain ⟨hcn, hti, -⟩ := K.apart hnd
  have hko := T.ok.kids
  have hile := ha.le
  obtain ⟨vk, vv, vc, hn, hs, hl⟩ := T.top
  have HF := Lib.hid (find_at p m sz q t.id vk vv vc t.its _ k w o ht hn (by omega) hs hk ha)
  obtain ⟨-, -, d2⟩ := hn.cells
  obtain ⟨A1, c1, A2, c2, A3, c3, rfl, rfl, rfl, q1, q2, q3⟩ := hn.row
  have hcl : (kidN (h + 1) t).length = t.its.length + 1 := by
    show (t.kds.map Nd.id).length = _
    rw [List.length_map]
    exact hko
  obtain ⟨gc, rfl, hv1, -⟩ := hn.ccell (i := i) (by show i < (kidN (h + 1) t).length; omega)
  have hcid : (nf t.its (kidN (h + 1) t)).cs[i]'(by show i < (kidN (h + 1) t).length; omega) = c.id := get_mid (A := C1.map Nd.id) (B := C2.map Nd.id) (by show t.kds.map Nd.id = _; rw [k2]; simp) (by rw [List.length_map]; exact k4) _
  rw [hcid] at hv1
  have hcs : (nf t.its (kidN (h + 1) t)).cs.length = t.its.length + 1 := hcl
  rw [hcs] at d2 q3
  have hi1 : (i : Int) < (t.its.length : Int) + 1 := by omega
  have HN := Lib.hid hn
  have HT := Lib.hid ht
  have HTT := Lib.hid T
  have HFB := Lib.hid hf
  have HK := Lib.hid hk
  have HKA := Lib.hid K
  have HND := Lib.hid hnd
  have HCN := Lib.hid hcn
  have HTI := Lib.hid hti
  have HC := Lib.hid (fun mq => IH c (m / 2) (w.drewN mq) o M (ht.drewN mq) (hf.drewN mq) ((T.kid (by omega) k2 k8).drewN mq) hcn (hk.drewN mq))
  have HK4 := Lib.hid k4
  have HK3 := Lib.hid k3
  have HCLN := Lib.hid hcl
  clear hn ht T hf hk K hnd hcn hti k1 k2 k3 k4 k5 k6 k7 k8 hs ha hko IH hcs hcl hcid q1 q2
  unfold nv at *
  go_enter Try.func52, Try.ntmps52
  go_upto_region 2 with (first | (go_at_call 49; refine HF.out.mono ?_; rintro e w1 ⟨rfl, mq, rfl⟩) | (go_at_call 52; refine (HC.out _).mono ?_; rintro e w1 ⟨rfl, k', c', o1, M1, hR⟩; have HR := Lib.hid hR.back; clear hR))
  have hpn : ∀ n ∈ ids h c, n ≠ p := fun n hn e => by
    obtain ⟨F, hF⟩ := tr_ids HTT.out.tr n (HKA.out.sub n hn)
    obtain ⟨_, _, _, hnd⟩ := HTT.out.gm n F hF
    exact HT.out.ne hnd e.symm
  have hP := HN.out.up HR.out.up (fun ⟨n, _, e⟩ => by omega) (fun ⟨n, hn, e⟩ => HTI.out (by
    have : n = t.id := by omega
    rw [← this]; exact hn))
  have hT1 := HT.out.up HR.out.up (fun ⟨n, hn, e⟩ => hpn n hn (by omega))
  have hid := HR.out.id
  obtain ⟨xk, xv, xc, hX⟩ := HR.out.gm c'.id _ (tr_at HR.out.tr)
  obtain ⟨B1, b1, B2, b2, B3, b3, rfl, rfl, rfl, -, -, -⟩ := hX.row
  obtain ⟨x0, -, -⟩ := hX.cells
  obtain ⟨-, -, e2⟩ := hP.cells
  obtain ⟨p0, -⟩ := hT1.cells
  have hxl : (nf c'.its (kidN h c')).ks.length = c'.its.length := List.length_map _
  have hcs2 : (nf t.its (kidN (h + 1) t)).cs.length = t.its.length + 1 := HCLN.out
  obtain ⟨gc', ee, g1, -⟩ := hP.ccell (i := i) (by rw [hcs2]; omega)
  cases ee
  have hcid2 : (nf t.its (kidN (h + 1) t)).cs[i]'(by rw [hcs2]; omega) = c'.id := by
    rw [hid]
    exact get_mid (A := C1.map Nd.id) (B := C2.map Nd.id) (by show t.kds.map Nd.id = _; rw [HKA.out.kds]; simp) (by rw [List.length_map]; exact HK4.out) _
  rw [hcid2] at g1
  rw [hxl] at x0
  rw [hcs2] at e2
  have HP := Lib.hid hP
  have HX := Lib.hid hX
  have HT1 := Lib.hid hT1
  have HXL := Lib.hid hxl
  clear hP hX hT1 hxl hcs2 hcid2 hpn hid
  unfold nv at g1
  by_cases hgt : m < c'.its.length
  · have hgt' : (m : Int) < (c'.its.length : Int) := by omega
    have hL : c'.its.length = m + 1 := by have := HR.out.ok.len.2; omega
    have hax : t.id ≠ c'.id := fun e => HTI.out (by rw [e, HR.out.id]; exact id_mem h c)
    have hql : (m + 1) / 2 < c'.its.length := by omega
    have HSP := Lib.hid (fun nq => split_any (nv p) t.id c'.id i ((m + 1) / 2) (m + 1) (w1.drewN nq) o1 (nf t.its (kidN (h + 1) t)) (nf c'.its (kidN h c')) (HR.out.up.fb.drewN nq) ⟨_, _, _, HP.out.drewN nq⟩ ⟨_, _, _, HX.out.drewN nq⟩ hax (by show i < (kidN (h + 1) t).length; have := HCLN.out; omega)
      (by
        have := HR.out.id
        show (t.kds.map Nd.id)[i]? = some c'.id
        have h4 := HK4.out
        rw [HKA.out.kds, this, ← h4]
        simp)
      (by show i ≤ (t.its.map _).length; rw [List.length_map]; exact hile) (by show (t.its.map _).length = (t.its.map _).length; rw [List.length_map, List.length_map]) ⟨by show (kidN (h + 1) t).length ≤ 1000; have := HCLN.out; have := HTT.out.ok.len.2; omega, by show (t.its.map _).length ≤ 1000; rw [List.length_map]; exact hl⟩
      (by show (c'.its.map _).length = _; rw [List.length_map]; exact hL) (by show (c'.its.map _).length = _; rw [List.length_map]; exact hL) (by omega) rfl (by omega) (by
        have := kidN_len HR.out.ok
        rw [hL] at this
        exact this) (c'.its[(m + 1) / 2]).1 (c'.its[(m + 1) / 2]).2 (by show (c'.its.map _)[_]? = _; rw [List.getElem?_map, List.getElem?_eq_getElem hql]; rfl) (by show (c'.its.map _)[_]? = _; rw [List.getElem?_map, List.getElem?_eq_getElem hql]; rfl))
    have HL := Lib.hid hL
    clear hL hax
    unfold nv at HSP
    go_quiet (fail)
    go_wp2_with (go_at_call 53; refine (HSP.out _).mono ?_; rintro e w2 ⟨rfl, y, o2, hsp⟩)
    go_end0
    rw [nf_part HKA.out HR.out.id HK3.out ((m + 1) / 2) y (c'.its[(m + 1) / 2]'hql)] at hsp
    have e1 : (⟨(nf c'.its (kidN h c')).ks.take ((m + 1) / 2), (nf c'.its (kidN h c')).vs.take ((m + 1) / 2), (nf c'.its (kidN h c')).cs.take ((m + 1) / 2 + 1)⟩ : Nf Ky) = nf (c'.its.take ((m + 1) / 2)) ((kidN h c').take ((m + 1) / 2 + 1)) := by
      unfold nf; simp [List.map_take]
    have e2 : (⟨(nf c'.its (kidN h c')).ks.drop ((m + 1) / 2 + 1), (nf c'.its (kidN h c')).vs.drop ((m + 1) / 2 + 1), (nf c'.its (kidN h c')).cs.drop ((m + 1) / 2 + 1)⟩ : Nf Ky) = nf (c'.its.drop ((m + 1) / 2 + 1)) ((kidN h c').drop ((m + 1) / 2 + 1)) := by
      unfold nf; simp [List.map_drop]
    rw [e1, e2] at hsp
    obtain ⟨M2, hR2⟩ := split_fin HTT.out HFB.out HND.out HKA.out (HR.out.drewN _) hm.1 HL.out rfl hql hsp
    exact ⟨rfl, k', _, o2, M2, hR2⟩
  · have hgt' : decide ((m : Int) < (c'.its.length : Int)) = false := decide_eq_false (by omega)
    have hgt2 : ¬ ((m : Int) < (c'.its.length : Int)) := by omega
    go_quiet (fail)
    go_wp2_with fail
    go_end0
    exact ⟨rfl, k', _, o1, M1, (kid_fin HTT.out HND.out HKA.out HR.out (by omega)).drewN _⟩
/-- put: any tree. -/
theorem put_any (p m sz q : Nat) (hm : 3 ≤ m ∧ m ≤ 64) (k : Ky) (v : Int) : ∀ (h : Nat) (t : BT Ky h) (lo : Nat) (w : World) (o : Nat → Nat) (M : Nat → Option (Nf Ky)), TrAt w o p m sz q → Fb o w → Tm w o M h m lo m t → (ids h t).Nodup → KRd w k →
    Calls Try.prog 52 #[nv p, nv t.id, kv k, .int .u64 v] w (PutP w o M h t m lo k v)
  | 0, t, lo, w, o, M, ht, hf, T, hnd, hk => by
    obtain ⟨i, is, ha⟩ := at_exists (k := k) (its_sorted T.ok T.ss)
    cases is with
    | true => exact put_is p m sz q 0 lo t k v w o M ht hf T hnd hk ha
    | false => exact put_leaf p m sz q lo t k v w o M ht hf T hm.2 hk ha
  | h + 1, t, lo, w, o, M, ht, hf, T, hnd, hk => by
    obtain ⟨i, is, ha⟩ := at_exists (k := k) (its_sorted T.ok T.ss)
    cases is with
    | true => exact put_is p m sz q (h + 1) lo t k v w o M ht hf T hnd hk ha
    | false => exact put_kid p m sz q h hm k v (fun c lo w o M a b c' d e => put_any p m sz q hm k v h c lo w o M a b c' d e) lo t w o M ht hf T hnd hk ha
end Go.Proofs.Ytfhonfeopkhdeaa.BS
