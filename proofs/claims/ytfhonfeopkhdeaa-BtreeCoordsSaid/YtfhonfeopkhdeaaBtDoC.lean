/-
  drop: what is left of a tree. No premise.
  drop in a leaf. No premise.
  drop below a child. No premise.
  drop of a key that is an inner node's own. No premise.
  Drop. No premise.
-/
import Derived.Test.YtfhonfeopkhdeaaBtMeC
import Derived.Deep.LoopGhost
namespace Go.Proofs.Ytfhonfeopkhdeaa.BC
open Go.RowKit Go.Proofs.YtfhonfeopkhdeaaW.PrintWords

/-- What drop leaves of the tree that it was handed; the key was there. -/
structure DropR (w : World) (o : Nat → Nat) (M : Nat → Option (Nf Ky)) (h : Nat) (t : BT Ky h) (m lo : Nat) (k : Ky) (w' : World) (t' : BT Ky h) (o' : Nat → Nat) (M' : Nat → Option (Nf Ky)) : Prop where
  id : t'.id = t.id
  ok : OkT m h (lo - 1) m t'
  li : toL h t' = delL kct k (toL h t)
  gm : Gm w' o' M'
  tr : Tr M' h t'
  nd : (ids h t').Nodup
  fr : ∀ n ∈ ids h t', n ∈ ids h t
  up : Up (fun x => ∃ n ∈ ids h t, x = n + 2) o o' w w'
  re : ∀ n, n ∉ ids h t → M' n = M n
def DropP (w : World) (o : Nat → Nat) (M : Nat → Option (Nf Ky)) (h : Nat) (t : BT Ky h) (m lo : Nat) (k : Ky) (e : Ending) (w' : World) : Prop :=
  e = .returned (.tuple #[]) ∧ ∃ t' o' M', DropR w o M h t m lo k w' t' o' M'
/-- A child, its place, what lies beside it. -/
structure Kid {h : Nat} (t : BT Ky (h + 1)) (I1 I2 : List (Ky × Int)) (C1 : List (BT Ky h)) (c : BT Ky h) (C2 : List (BT Ky h)) : Prop where
  its : t.its = I1 ++ I2
  kds : t.kds = C1 ++ c :: C2
  l1 : C1.length = I1.length
  l2 : I2.length = C2.length
theorem Kid.ids {h : Nat} {t : BT Ky (h + 1)} {I1 I2 : List (Ky × Int)} {C1 C2 : List (BT Ky h)} {c : BT Ky h} (K : Kid t I1 I2 C1 c C2) : Go.Proofs.Ytfhonfeopkhdeaa.ids (h + 1) t = (t.id :: C1.flatMap (Go.Proofs.Ytfhonfeopkhdeaa.ids h)) ++ (Go.Proofs.Ytfhonfeopkhdeaa.ids h c ++ C2.flatMap (Go.Proofs.Ytfhonfeopkhdeaa.ids h)) := ids_at K.kds
theorem Kid.mem {h : Nat} {t : BT Ky (h + 1)} {I1 I2 : List (Ky × Int)} {C1 C2 : List (BT Ky h)} {c : BT Ky h} (K : Kid t I1 I2 C1 c C2) : c ∈ t.kds ∧ ∀ d, d ∈ C1 ∨ d ∈ C2 → d ∈ t.kds := by
  rw [K.kds]
  refine ⟨by simp, fun d hd => ?_⟩
  rcases hd with h | h <;> simp [h]
theorem Kid.apart {h : Nat} {t : BT Ky (h + 1)} {I1 I2 : List (Ky × Int)} {C1 C2 : List (BT Ky h)} {c : BT Ky h} (K : Kid t I1 I2 C1 c C2) (hnd : (Go.Proofs.Ytfhonfeopkhdeaa.ids (h + 1) t).Nodup) :
    (Go.Proofs.Ytfhonfeopkhdeaa.ids h c).Nodup ∧ t.id ∉ Go.Proofs.Ytfhonfeopkhdeaa.ids h c ∧ ∀ d, d ∈ C1 ∨ d ∈ C2 → ∀ n ∈ Go.Proofs.Ytfhonfeopkhdeaa.ids h d, n ∉ Go.Proofs.Ytfhonfeopkhdeaa.ids h c ∧ n ≠ t.id := by
  rw [K.ids] at hnd
  obtain ⟨h1, h2, h3⟩ := List.nodup_append.1 hnd
  obtain ⟨h4, h5, h6⟩ := List.nodup_append.1 h2
  refine ⟨h4, fun hm => h3 t.id List.mem_cons_self t.id (List.mem_append.2 (.inl hm)) rfl, fun d hd n hn => ?_⟩
  rcases hd with hd | hd
  · have hm : n ∈ C1.flatMap (Go.Proofs.Ytfhonfeopkhdeaa.ids h) := List.mem_flatMap.2 ⟨d, hd, hn⟩
    exact ⟨fun hc => h3 n (List.mem_cons_of_mem _ hm) n (List.mem_append.2 (.inl hc)) rfl, fun e => (List.nodup_cons.1 h1).1 (e ▸ hm)⟩
  · have hm : n ∈ C2.flatMap (Go.Proofs.Ytfhonfeopkhdeaa.ids h) := List.mem_flatMap.2 ⟨d, hd, hn⟩
    exact ⟨fun hc => h6 n hc n hm rfl, fun e => h3 t.id List.mem_cons_self n (List.mem_append.2 (.inr hm)) e.symm⟩
theorem Kid.sub {h : Nat} {t : BT Ky (h + 1)} {I1 I2 : List (Ky × Int)} {C1 C2 : List (BT Ky h)} {c : BT Ky h} (K : Kid t I1 I2 C1 c C2) : ∀ n ∈ Go.Proofs.Ytfhonfeopkhdeaa.ids h c, n ∈ Go.Proofs.Ytfhonfeopkhdeaa.ids (h + 1) t := fun n hn => by
  rw [K.ids]
  simp [hn]
/-- The node with other items and with the child that is left. -/
def put2 {h : Nat} (t : BT Ky (h + 1)) (its1 : List (Ky × Int)) (C1 : List (BT Ky h)) (c' : BT Ky h) (C2 : List (BT Ky h)) : BT Ky (h + 1) := ⟨t.id, its1, (C1 ++ c' :: C2 : List (BT Ky h))⟩
theorem drop_mid {w1 w2 : World} {o1 o2 : Nat → Nat} {M M1 M2 : Nat → Option (Nf Ky)} {h m lo : Nat} {t : BT Ky (h + 1)} {I1 I2 its1 : List (Ky × Int)} {C1 C2 : List (BT Ky h)} {c c' : BT Ky h} {k2 : Ky} (tr : Tr M (h + 1) t) (nd : (ids (h + 1) t).Nodup) (K : Kid t I1 I2 C1 c C2)
    (hM1 : M1 t.id = some (nf its1 (t.kds.map Nd.id))) (hM : ∀ n, n ≠ t.id → M1 n = M n) (R : DropR w1 o1 M1 h c m lo k2 w2 c' o2 M2) :
    Tr M2 (h + 1) (put2 t its1 C1 c' C2) ∧ (ids (h + 1) (put2 t its1 C1 c' C2)).Nodup ∧ ∀ n ∈ ids (h + 1) (put2 t its1 C1 c' C2), n ∈ ids (h + 1) t := by
  obtain ⟨a1, a2, a3⟩ := K.apart nd
  obtain ⟨m1, m2⟩ := K.mem
  have hids : ids (h + 1) (put2 t its1 C1 c' C2) = (t.id :: C1.flatMap (ids h)) ++ (ids h c' ++ C2.flatMap (ids h)) := ids_kid
  refine ⟨⟨?_, fun d hd => ?_⟩, ?_, fun n hn => ?_⟩
  · show M2 t.id = some (nf its1 ((C1 ++ c' :: C2).map Nd.id))
    rw [R.re t.id a2, hM1, K.kds]
    simp [R.id]
  · have old : ∀ d, d ∈ C1 ∨ d ∈ C2 → Tr M2 h d := fun d hd => (tr.2 d (m2 d hd)).congr fun n hn => by
      obtain ⟨q1, q2⟩ := a3 d hd n hn
      rw [R.re n q1, hM n q2]
    rcases List.mem_append.1 hd with h1 | h1
    · exact old d (.inl h1)
    · rcases List.mem_cons.1 h1 with rfl | h1
      · exact R.tr
      · exact old d (.inr h1)
  · rw [hids]
    have n1 := nd
    rw [K.ids] at n1
    obtain ⟨N, hN⟩ : ∃ N, ∀ x ∈ (t.id :: C1.flatMap (ids h)) ++ (ids h c ++ C2.flatMap (ids h)), x < N := by
      have all : ∀ l : List Nat, ∃ N, ∀ x ∈ l, x < N := fun l => by
        induction l with
        | nil => exact ⟨0, fun x hx => by cases hx⟩
        | cons a l ih =>
          obtain ⟨N, hN⟩ := ih
          refine ⟨N + a + 1, fun x hx => ?_⟩
          rcases List.mem_cons.1 hx with rfl | hx
          · omega
          · have := hN x hx; omega
      exact all _
    exact nodup_swap n1 R.nd hN (fun x hx => .inl (R.fr x hx))
  · rw [hids] at hn
    rw [K.ids]
    rcases List.mem_append.1 hn with h1 | h1
    · exact List.mem_append.2 (.inl h1)
    · rcases List.mem_append.1 h1 with h1 | h1
      · exact List.mem_append.2 (.inr (List.mem_append.2 (.inl (R.fr n h1))))
      · exact List.mem_append.2 (.inr (List.mem_append.2 (.inr h1)))
theorem drop_plain {w w1 w2 : World} {o o2 : Nat → Nat} {M M1 M2 : Nat → Option (Nf Ky)} {h m lo : Nat} {t : BT Ky (h + 1)} {I1 I2 its1 : List (Ky × Int)} {C1 C2 : List (BT Ky h)} {c c' : BT Ky h} {k k2 : Ky} (hf : Fb o w) (ok : OkT m (h + 1) lo m t) (tr : Tr M (h + 1) t) (nd : (ids (h + 1) t).Nodup) (K : Kid t I1 I2 C1 c C2)
    (hM1 : M1 t.id = some (nf its1 (t.kds.map Nd.id))) (hM : ∀ n, n ≠ t.id → M1 n = M n) (hlen : its1.length = t.its.length) (U : Up (· = t.id + 2) o o w w1) (R : DropR w1 o M1 h c m (m / 2) k2 w2 c' o2 M2) (eL : toL (h + 1) (put2 t its1 C1 c' C2) = delL kct k (toL (h + 1) t)) (hge : m / 2 ≤ c'.its.length) :
    DropR w o M (h + 1) t m lo k w2 (put2 t its1 C1 c' C2) o2 M2 := by
  obtain ⟨b1, b2, b3⟩ := drop_mid tr nd K hM1 hM R
  obtain ⟨m1, m2⟩ := K.mem
  obtain ⟨a1, a2, a3⟩ := K.apart nd
  refine ⟨rfl, ⟨⟨?_, ?_⟩, ?_, fun d hd => ?_⟩, eL, R.gm, b1, b2, b3, U.trans hf R.up (fun x e => ⟨t.id, id_mem _ t, e⟩) (fun x _ ⟨n, hn, e⟩ => ⟨n, K.sub n hn, e⟩), fun n hn => ?_⟩
  · show lo - 1 ≤ its1.length
    have := ok.1.1; omega
  · show its1.length ≤ m
    have := ok.1.2; omega
  · show (C1 ++ c' :: C2).length = its1.length + 1
    have : t.kds.length = t.its.length + 1 := ok.2.1
    rw [K.kds] at this
    simp at this ⊢
    omega
  · rcases List.mem_append.1 hd with h1 | h1
    · exact ok.2.2 d (m2 d (.inl h1))
    · rcases List.mem_cons.1 h1 with rfl | h1
      · exact R.ok.weaken hge R.ok.len.2
      · exact ok.2.2 d (m2 d (.inr h1))
  · rw [R.re n (fun hc => hn (K.sub n hc)), hM n (fun e => hn (by rw [e]; exact id_mem _ t))]
theorem drop_mend {w w1 w2 w3 : World} {o o2 o3 : Nat → Nat} {M M1 M2 M3 : Nat → Option (Nf Ky)} {h m lo : Nat} {t t3 : BT Ky (h + 1)} {I1 I2 its1 : List (Ky × Int)} {C1 C2 : List (BT Ky h)} {c c' : BT Ky h} {k k2 : Ky} (hf : Fb o w) (tr : Tr M (h + 1) t) (nd : (ids (h + 1) t).Nodup) (K : Kid t I1 I2 C1 c C2)
    (hM1 : M1 t.id = some (nf its1 (t.kds.map Nd.id))) (hM : ∀ n, n ≠ t.id → M1 n = M n) (U : Up (· = t.id + 2) o o w w1) (R : DropR w1 o M1 h c m (m / 2) k2 w2 c' o2 M2) (eL : toL (h + 1) (put2 t its1 C1 c' C2) = delL kct k (toL (h + 1) t)) (D : MdR w2 o2 M2 h (put2 t its1 C1 c' C2) m lo w3 t3 o3 M3) :
    DropR w o M (h + 1) t m lo k w3 t3 o3 M3 := by
  obtain ⟨b1, b2, b3⟩ := drop_mid tr nd K hM1 hM R
  have U2 : Up (fun x => ∃ n ∈ ids (h + 1) t, x = n + 2) o o2 w w2 := U.trans hf R.up (fun x e => ⟨t.id, id_mem _ t, e⟩) (fun x _ ⟨n, hn, e⟩ => ⟨n, K.sub n hn, e⟩)
  refine ⟨D.id, D.ok, D.li.trans eL, D.gm, D.tr, D.nd, fun n hn => b3 n (D.fr n hn), U2.trans hf D.up (fun x e => e) (fun x _ ⟨n, hn, e⟩ => ⟨n, b3 n hn, e⟩), fun n hn => ?_⟩
  rw [D.re n (fun hc => hn (b3 n hc)), R.re n (fun hc => hn (K.sub n hc)), hM n (fun e => hn (by rw [e]; exact id_mem _ t))]
/-- The last child of a node. -/
theorem last_kid {m h lo hi : Nat} {t : BT Ky (h + 1)} (ho : OkT m (h + 1) lo hi t) : ∃ c P, t.kds[t.kds.length - 1]? = some c ∧ toL (h + 1) t = P ++ toL h c := by
  have hk : t.kds.length = t.its.length + 1 := ho.2.1
  obtain ⟨c, hc⟩ : ∃ c, t.kds[t.kds.length - 1]? = some c := ⟨_, List.getElem?_eq_getElem (by omega)⟩
  have hs := last_split hc
  refine ⟨c, preW ((t.kds.take (t.kds.length - 1)).map (toL h)) t.its, hc, ?_⟩
  show weave t.its (List.map (toL h) t.kds) = _
  conv => lhs; rw [hs, List.map_append]
  have := weave_pre (C1 := (t.kds.take (t.kds.length - 1)).map (toL h)) (I1 := t.its) (by rw [List.length_map, List.length_take]; omega) [] (toL h c) []
  rw [List.append_nil] at this
  refine this.trans ?_
  rfl
/-- The greatest key let go. -/
theorem delL_last {Z : List (Ky × Int)} {b : Ky × Int} (hs : SortedL kct (Z ++ [b])) : delL kct b.1 (Z ++ [b]) = Z := by
  have h1 : Lo kct Z b.1 := lo_before hs (by show kc kct b.1 b.1 ≤ 0; unfold kc; rw [cmpL_self]; omega)
  have h2 := delL_at (B := []) h1 (show kc kct b.1 b.1 = 0 from cmpL_self _)
  rw [h2, List.append_nil]
theorem getL_last {Z : List (Ky × Int)} {b : Ky × Int} (hs : SortedL kct (Z ++ [b])) : getL kct b.1 (Z ++ [b]) = some b.2 := by
  have h1 : Lo kct Z b.1 := lo_before hs (by show kc kct b.1 b.1 ≤ 0; unfold kc; rw [cmpL_self]; omega)
  exact getL_at h1 (cmpL_self _)
/-- The list, the key being a child's. -/
theorem list_false {h : Nat} {t : BT Ky (h + 1)} {I1 I2 : List (Ky × Int)} {C1 C2 : List (BT Ky h)} {c c' : BT Ky h} {k : Ky} (K : KidAt t I1 I2 C1 c C2 k) (e : toL h c' = delL kct k (toL h c)) : toL (h + 1) (put2 t t.its C1 c' C2) = delL kct k (toL (h + 1) t) := by
  have e1 : toL (h + 1) (put2 t t.its C1 c' C2) = preW (C1.map (toL h)) I1 ++ (toL h c' ++ postW I2 (C2.map (toL h))) := by
    unfold put2
    rw [K.its]
    exact toL_node K.l1 K.l2
  rw [e1, K.li, e, delL_lo K.lo, delL_hi K.hi]
/-- The list, the key being the node's. -/
theorem list_true {h : Nat} {t : BT Ky (h + 1)} {I1 I2 : List (Ky × Int)} {a b : Ky × Int} {C1 C2 : List (BT Ky h)} {c c' : BT Ky h} {k : Ky} {Z : List (Ky × Int)} (hi : t.its = I1 ++ a :: I2) (hk : t.kds = C1 ++ c :: C2) (l1 : C1.length = I1.length) (hs : SortedL kct (toL (h + 1) t)) (ha : kc kct k a.1 = 0) (ec : toL h c = Z ++ [b]) (e : toL h c' = delL kct b.1 (toL h c)) :
    toL (h + 1) (put2 t (I1 ++ b :: I2) C1 c' C2) = delL kct k (toL (h + 1) t) := by
  have e0 : toL (h + 1) t = (preW (C1.map (toL h)) I1 ++ toL h c) ++ a :: weave I2 (C2.map (toL h)) := by
    rw [← toL_item (n := t.id) l1]
    show weave t.its (List.map _ t.kds) = weave (I1 ++ a :: I2) (List.map _ (C1 ++ c :: C2))
    rw [hi, hk]
  have e1 : toL (h + 1) (put2 t (I1 ++ b :: I2) C1 c' C2) = (preW (C1.map (toL h)) I1 ++ toL h c') ++ b :: weave I2 (C2.map (toL h)) := toL_item l1
  rw [e0] at hs ⊢
  have hsc : SortedL kct (Z ++ [b]) := by
    rw [← ec]
    have := (List.pairwise_append.1 hs).1
    exact (List.pairwise_append.1 this).2.1
  have hlo : Lo kct (preW (C1.map (toL h)) I1 ++ toL h c) k := lo_before hs (by have := kc_swap kct k a.1; omega)
  rw [e1, delL_at hlo ha, e, ec, delL_last hsc]
  simp
theorem val_delW0 {w : World} {o : Nat → Nat} {n : Nat} {vk vv vc : Value} {F : Nf Ky} (hn : NdAt w o n vk vv vc F) (hl : F.vs.length ≤ 1000000) (i : Nat) (hi : i < F.vs.length) (x y : Int) (hx : x = (i : Int)) (hy : y = (i : Int) + 1) (zs : List Int) (hz : zs = F.vs.take i ++ F.vs.drop (i + 1)) :
    Calls Try.prog 83 #[vv, .int .i64 x, .int .i64 y] w fun e w2 => ∃ v', e = .returned v' ∧ Rw w2 38 v' (vsR zs) ∧ w.grownBy w2 vv.ownBlock ∧ Nw w vv v' :=
  val_delW hn hl i hi x y hx hy zs hz (World.grownBy.refl _ _)
end Go.Proofs.Ytfhonfeopkhdeaa.BC

namespace Go.Proofs.Ytfhonfeopkhdeaa.BC
open Go.RowKit Go.Proofs.YtfhonfeopkhdeaaW.PrintWords

set_option maxRecDepth 100000 in
set_option maxHeartbeats 4000000 in
theorem drop_leaf (p m sz q lo : Nat) (t : BT Ky 0) (k : Ky) (w : World) (o : Nat → Nat) (M : Nat → Option (Nf Ky)) (ht : TrAt w o p m sz q) (hf : Fb o w) (T : Tm w o M 0 m lo m t) (hk : KRd w k) {i : Nat} (ha : At kct t.its k i true) :
    Calls Try.prog 68 #[nv p, nv t.id, kv k] w (DropP w o M 0 t m lo k) := by
  obtain ⟨vk, vv, vc, hn, hs, hl⟩ := T.top
  have HF := Lib.hid (find_at p m sz q t.id vk vv vc t.its _ k w o ht hn (by omega) hs hk ha)
  have hil := ha.lt
  have d2 := hn.cells.2.2
  obtain ⟨A, c, A', c', A'', c'', rfl, rfl, rfl, q1, q2, q3⟩ := hn.row
  have HN := Lib.hid hn
  have HTT := Lib.hid T
  have HFB := Lib.hid hf
  have HA := Lib.hid ha
  have hz : (nf t.its (kidN 0 t)).cs.length = 0 := rfl
  rw [hz] at d2
  have c1 := hn.cells.1
  have HKD := Lib.hid (fun V (hb : Below w.heap.size w V) => key_delW hn (V := V) (by show (t.its.map _).length ≤ _; rw [List.length_map]; omega) i (by show i < (t.its.map _).length; rw [List.length_map]; exact hil) (i : Int) ((i : Int) + 1) rfl rfl ((nf t.its (kidN 0 t)).ks.take i ++ (nf t.its (kidN 0 t)).ks.drop (i + 1)) rfl hb)
  generalize (nf t.its (kidN 0 t)).ks.length = nk at HN HKD c1 q1
  generalize (nf t.its (kidN 0 t)).vs.length = nn at HN q2
  generalize (nf t.its (kidN 0 t)).cs.length = nc at HN q3
  have HIL := Lib.hid hil
  have hib : (i : Int) ≤ 1000 := by omega
  clear hn hs ht T ha hf hk hz hil
  unfold nv at *
  go_enter Try.func68, Try.ntmps68
  go_wp2_with (first | (go_at_call 67; refine HF.out.mono ?_; rintro e w1 ⟨rfl, mq, rfl⟩) | (go_at_call 91; refine (HKD.out _ (below_drewN w mq)).mono ?_; rintro e w2 ⟨vk', rfl, hr2, hg2, hn2⟩; obtain ⟨Ak, lk, ck, rfl⟩ := rw_slice hr2; obtain ⟨c5, c6, c7, c8⟩ := HN.out.hold (grown_of (below_drewN w mq) hg2) HN.out.nek.1; have c9 := c8 0; obtain ⟨hN3, hU3⟩ := HN.out.sk (mid_plain HFB.out (below_drewN w mq) hg2 hn2) hr2 (fun x hx => .inl ((List.mem_append.1 hx).elim List.mem_of_mem_take List.mem_of_mem_drop)); have HN3 := Lib.hid hN3; have HU3 := Lib.hid hU3; have c10 := c8 1; have HVD := Lib.hid (val_delW0 hN3 (by show (t.its.map _).length ≤ _; rw [List.length_map]; omega) i (by show i < (t.its.map _).length; rw [List.length_map]; exact HIL.out) (i : Int) ((i : Int) + 1) rfl rfl ((nf t.its (kidN 0 t)).vs.take i ++ (nf t.its (kidN 0 t)).vs.drop (i + 1)) rfl); clear hN3 hU3 c8 hr2 hg2 hn2) | (go_at_call 83; refine HVD.out.mono ?_; rintro e w4 ⟨vv', rfl, hr4, hg4, hn4⟩; obtain ⟨Av, lv, cv, rfl⟩ := rw_slice hr4; obtain ⟨e5, e6, e7, e8⟩ := HN3.out.hold hg4 HN3.out.nek.2.1; have e9 := e8 1))
  obtain ⟨hN5, hU5⟩ := HN3.out.sv (mid_plain HU3.out.fb (Below.refl _ _) hg4 hn4) hr4
  first
    | (refine bodyPost_ret (results_none rfl _ _ _) rfl ?_)
    | go_end0
  have hA := HA.out
  obtain ⟨I1, a, I2, ei, hl1, hlo, hz⟩ := hA.get
  have hF : (⟨(nf t.its (kidN 0 t)).ks.take i ++ (nf t.its (kidN 0 t)).ks.drop (i + 1), (nf t.its (kidN 0 t)).vs.take i ++ (nf t.its (kidN 0 t)).vs.drop (i + 1), (nf t.its (kidN 0 t)).cs⟩ : Nf Ky) = nf (I1 ++ I2) [] := by
    subst hl1
    have d1 : ∀ {α : Type} (f : Ky × Int → α), (t.its.map f).take I1.length ++ (t.its.map f).drop (I1.length + 1) = (I1 ++ I2).map f := fun f => by
      rw [ei, List.map_append, List.map_append, List.map_cons]
      have l0 : I1.length = (I1.map f).length := (List.length_map _).symm
      rw [l0, List.take_left, show I1.map f ++ f a :: I2.map f = (I1.map f ++ [f a]) ++ I2.map f from by simp, show (I1.map f).length + 1 = (I1.map f ++ [f a]).length from by simp, List.drop_left]
    unfold nf
    simp only [Nf.mk.injEq]
    exact ⟨d1 _, d1 _, rfl⟩
  have hN6 := hN5
  rw [hF] at hN6
  have hU6 := HU3.out.trans HFB.out hU5 (U := (· = t.id + 2)) (fun _ e => e) (fun _ _ e => e)
  have hok := HTT.out.ok
  have el : t.its.length = I1.length + (I2.length + 1) := by rw [ei]; simp
  refine ⟨rfl, ⟨t.id, I1 ++ I2, t.cs⟩, _, setM M t.id (nf (I1 ++ I2) []), ⟨rfl, ⟨?_, ?_⟩, ?_, HTT.out.gm.set hU6 (fun _ e => e) hN6, setM_same _ _ _, List.pairwise_singleton _ _, fun n hn => hn, hU6.mono (fun x e => ⟨t.id, List.mem_singleton.2 rfl, e⟩), fun n hn => setM_other M _ (fun e => hn (List.mem_singleton.2 e))⟩⟩
  · show lo - 1 ≤ (I1 ++ I2).length
    have := hok.1; simp; omega
  · show (I1 ++ I2).length ≤ m
    have := hok.2; simp; omega
  · show I1 ++ I2 = delL kct k t.its
    rw [ei]
    exact (delL_at hlo hz).symm
end Go.Proofs.Ytfhonfeopkhdeaa.BC

namespace Go.Proofs.Ytfhonfeopkhdeaa.BC
open Go.RowKit Go.Proofs.YtfhonfeopkhdeaaW.PrintWords

theorem DropR.back {w w1 : World} {o o1 : Nat → Nat} {M M1 : Nat → Option (Nf Ky)} {h m lo n : Nat} {c c' : BT Ky h} {k : Ky} (R : DropR (w.drewN n) o M h c m lo k w1 c' o1 M1) : DropR w o M h c m lo k w1 c' o1 M1 :=
  ⟨R.id, R.ok, R.li, R.gm, R.tr, R.nd, R.fr, R.up.drew, R.re⟩
theorem DropR.drewN {w w1 : World} {o o1 : Nat → Nat} {M M1 : Nat → Option (Nf Ky)} {h m lo : Nat} {c c' : BT Ky h} {k : Ky} (R : DropR w o M h c m lo k w1 c' o1 M1) (n : Nat) : DropR w o M h c m lo k (w1.drewN n) c' o1 M1 :=
  ⟨R.id, R.ok, R.li, R.gm.drewN n, R.tr, R.nd, R.fr, ⟨R.up.os, R.up.tape, R.up.output, R.up.size, R.up.blk, R.up.old, R.up.fb.drewN n⟩, R.re⟩
/-- mend, behind a drop below the child. -/
theorem mend_after (p m sz q h lo : Nat) (hm : 3 ≤ m ∧ m ≤ 64) {w w1 w2 : World} {o o2 : Nat → Nat} {M M1 M2 : Nat → Option (Nf Ky)} {t : BT Ky (h + 1)} {I1 I2 its1 : List (Ky × Int)} {C1 C2 : List (BT Ky h)} {c c' : BT Ky h} {k k2 : Ky} (hf : Fb o w) (ok : OkT m (h + 1) lo m t) (hpos : 1 ≤ lo) (tr : Tr M (h + 1) t) (nd : (ids (h + 1) t).Nodup) (K : Kid t I1 I2 C1 c C2)
    (hM1 : M1 t.id = some (nf its1 (t.kds.map Nd.id))) (hM : ∀ n, n ≠ t.id → M1 n = M n) (hlen : its1.length = t.its.length) (U : Up (· = t.id + 2) o o w w1) (R : DropR w1 o M1 h c m (m / 2) k2 w2 c' o2 M2) (eL : toL (h + 1) (put2 t its1 C1 c' C2) = delL kct k (toL (h + 1) t)) (hlt : c'.its.length < m / 2) (ht : TrAt w2 o2 p m sz q) (nq : Nat) :
    Calls Try.prog 92 #[nv p, nv t.id, .int .i64 C1.length] (w2.drewN nq) (DropP w o M (h + 1) t m lo k) := by
  obtain ⟨b1, b2, b3⟩ := drop_mid tr nd K hM1 hM R
  obtain ⟨m1, m2⟩ := K.mem
  have hk : t.kds.length = t.its.length + 1 := ok.2.1
  have hc := R.ok.len
  have hkk := K.kds
  refine (mend_any p m sz q h lo hm (w2.drewN nq) o2 M2 (put2 t its1 C1 c' C2) (ht.drewN nq) (R.up.fb.drewN nq) (R.gm.drewN nq) b1 b2 ⟨by show lo ≤ its1.length; have := ok.1.1; omega, by show its1.length ≤ m; have := ok.1.2; omega⟩ (by show 1 ≤ its1.length; have := ok.1.1; omega) (by
    show (C1 ++ c' :: C2).length = its1.length + 1
    rw [K.kds] at hk
    simp at hk ⊢
    omega) C1 c' C2 rfl (R.ok.weaken (by omega) (by omega)) (fun d hd => ok.2.2 d (m2 d hd))).mono ?_
  rintro e w3 ⟨rfl, t3, o3, M3, D⟩
  refine ⟨rfl, t3, o3, M3, drop_mend hf tr nd K hM1 hM U (R.drewN nq) eL D⟩
set_option maxRecDepth 100000 in
set_option maxHeartbeats 4000000 in
theorem drop_kid (p m sz q h : Nat) (hm : 3 ≤ m ∧ m ≤ 64) (k : Ky)
    (IH : ∀ (c : BT Ky h) (lo : Nat) (w : World) (o : Nat → Nat) (M : Nat → Option (Nf Ky)), TrAt w o p m sz q → Fb o w → Tm w o M h m lo m c → (h ≠ 0 → 1 ≤ lo) → (ids h c).Nodup → KRd w k → (getL kct k (toL h c)).isSome → Calls Try.prog 68 #[nv p, nv c.id, kv k] w (DropP w o M h c m lo k))
    (lo : Nat) (hlo : 1 ≤ lo) (t : BT Ky (h + 1)) (w : World) (o : Nat → Nat) (M : Nat → Option (Nf Ky)) (ht : TrAt w o p m sz q) (hf : Fb o w) (T : Tm w o M (h + 1) m lo m t) (hnd : (ids (h + 1) t).Nodup) (hk : KRd w k) (hg : (getL kct k (toL (h + 1) t)).isSome) {i : Nat} (ha : At kct t.its k i false) :
    Calls Try.prog 68 #[nv p, nv t.id, kv k] w (DropP w o M (h + 1) t m lo k) := by
  obtain ⟨I1, I2, C1, c, C2, k1, k2, k3, k4, k5, k6, k7, k8⟩ := node_go T.ok T.ss ha
  have KA : KidAt t I1 I2 C1 c C2 k := ⟨k1, k2, by omega, k5, k6, k7, k8⟩
  have K : Kid t I1 I2 C1 c C2 := ⟨k1, k2, by omega, k5⟩
  obtain ⟨hcn, hti, -⟩ := K.apart hnd
  have hgc : (getL kct k (toL h c)).isSome := by rw [k8, getL_lo k6, getL_hi k7] at hg; exact hg
  have hko := T.ok.kids
  have hile := ha.le
  obtain ⟨vk, vv, vc, hn, hs, hl⟩ := T.top
  have HF := Lib.hid (find_at p m sz q t.id vk vv vc t.its _ k w o ht hn (by omega) hs hk ha)
  obtain ⟨-, -, d2⟩ := hn.cells
  obtain ⟨A1, c1, A2, c2, A3, c3, rfl, rfl, rfl, q1, q2, q3⟩ := hn.row
  have hcl : (kidN (h + 1) t).length = t.its.length + 1 := by
    show (t.kds.map Nd.id).length = _
    rw [List.length_map]
    exact hko
  obtain ⟨gc, rfl, hv1, -⟩ := hn.ccell (i := i) (by show i < (kidN (h + 1) t).length; omega)
  have hcid : (nf t.its (kidN (h + 1) t)).cs[i]'(by show i < (kidN (h + 1) t).length; omega) = c.id := get_mid (A := C1.map Nd.id) (B := C2.map Nd.id) (by show t.kds.map Nd.id = _; rw [k2]; simp) (by rw [List.length_map]; exact k4) _
  rw [hcid] at hv1
  have hcs : (nf t.its (kidN (h + 1) t)).cs.length = t.its.length + 1 := hcl
  rw [hcs] at d2 q3
  have hi1 : (i : Int) < (t.its.length : Int) + 1 := by omega
  have hi3 : ¬ (t.its.length : Int) + 1 = 0 := by omega
  have HN := Lib.hid hn
  have HT := Lib.hid ht
  have HTT := Lib.hid T
  have HFB := Lib.hid hf
  have HKA := Lib.hid KA
  have HKK := Lib.hid K
  have HND := Lib.hid hnd
  have HTI := Lib.hid hti
  have HC := Lib.hid (fun mq => IH c (m / 2) (w.drewN mq) o M (ht.drewN mq) (hf.drewN mq) ((T.kid (by omega) k2 k8).drewN mq) (fun _ => by omega) hcn (hk.drewN mq) hgc)
  have HK4 := Lib.hid k4
  have HCLN := Lib.hid hcl
  clear hn ht T hf hk K KA hnd hcn hti k1 k2 k3 k4 k5 k6 k7 k8 hs ha hko IH hcs hcl hcid q1 q2 hg hgc
  unfold nv at *
  go_enter Try.func68, Try.ntmps68
  go_upto_region 13 with (first | (go_at_call 67; refine HF.out.mono ?_; rintro e w1 ⟨rfl, mq, rfl⟩) | (go_at_call 68; refine (HC.out _).mono ?_; rintro e w1 ⟨rfl, c', o1, M1, hR⟩; have HR := Lib.hid hR.back; clear hR))
  have hpn : ∀ n ∈ ids h c, n ≠ p := fun n hn e => by
    obtain ⟨F, hF⟩ := tr_ids HTT.out.tr n (HKA.out.sub n hn)
    obtain ⟨_, _, _, hnd⟩ := HTT.out.gm n F hF
    exact HT.out.ne hnd e.symm
  have hP := HN.out.up HR.out.up (fun ⟨n, _, e⟩ => by omega) (fun ⟨n, hn, e⟩ => HTI.out (by
    have : n = t.id := by omega
    rw [← this]; exact hn))
  have hT1 := HT.out.up HR.out.up (fun ⟨n, hn, e⟩ => hpn n hn (by omega))
  have hid := HR.out.id
  obtain ⟨xk, xv, xc, hX⟩ := HR.out.gm c'.id _ (tr_at HR.out.tr)
  obtain ⟨B1, b1, B2, b2, B3, b3, rfl, rfl, rfl, -, -, -⟩ := hX.row
  obtain ⟨x0, -, -⟩ := hX.cells
  obtain ⟨-, -, e2⟩ := hP.cells
  obtain ⟨p0, -⟩ := hT1.cells
  have hxl : (nf c'.its (kidN h c')).ks.length = c'.its.length := List.length_map _
  have hcs2 : (nf t.its (kidN (h + 1) t)).cs.length = t.its.length + 1 := HCLN.out
  obtain ⟨gc', ee, g1, -⟩ := hP.ccell (i := i) (by rw [hcs2]; omega)
  cases ee
  have hcid2 : (nf t.its (kidN (h + 1) t)).cs[i]'(by rw [hcs2]; omega) = c'.id := by
    rw [hid]
    exact get_mid (A := C1.map Nd.id) (B := C2.map Nd.id) (by show t.kds.map Nd.id = _; rw [HKA.out.kds]; simp) (by rw [List.length_map]; exact HK4.out) _
  rw [hcid2] at g1
  rw [hxl] at x0
  rw [hcs2] at e2
  have HT1 := Lib.hid hT1
  have hxm : c'.its.length ≤ 64 := by have := HR.out.ok.len.2; omega
  clear hP hX hT1 hxl hcs2 hcid2 hpn hid
  unfold nv at g1
  obtain ⟨qm, hqm⟩ : ∃ qm, qm = m / 2 := ⟨_, rfl⟩
  have hq : ((m : Int).tdiv 2) = (qm : Int) := by rw [Int.tdiv_eq_ediv_of_nonneg (by omega)]; omega
  have hq64 : qm ≤ 64 := by omega
  have HQM := Lib.hid hqm
  clear hqm
  have HU := Lib.hid (show Up (· = t.id + 2) o o w w from ⟨rfl, rfl, rfl, Nat.le_refl _, fun _ _ _ => rfl, fun _ _ => rfl, HFB.out⟩)
  have HEL := Lib.hid (list_false HKA.out HR.out.li)
  have HM1 := Lib.hid (show M t.id = some (nf t.its (t.kds.map Nd.id)) from HTT.out.tr.1)
  by_cases hgt : c'.its.length < qm
  · have hgt' : (c'.its.length : Int) < (qm : Int) := by omega
    have HMD := Lib.hid (fun nq => mend_after p m sz q h lo hm HFB.out HTT.out.ok hlo HTT.out.tr HND.out HKK.out HM1.out (fun n _ => rfl) rfl HU.out HR.out HEL.out (by rw [← HQM.out]; exact hgt) HT1.out nq)
    have ec : ((C1.length : Nat) : Int) = (i : Int) := by rw [HK4.out]
    rw [ec] at HMD
    clear ec
    unfold nv at HMD
    go_quiet (fail)
    go_wp2_with (go_at_call 92; refine (HMD.out _).mono ?_; rintro e w2 ⟨rfl, hR2⟩)
    go_end0
    exact ⟨rfl, hR2⟩
  · have hgt' : decide ((c'.its.length : Int) < (qm : Int)) = false := decide_eq_false (by omega)
    have hgt2 : ¬ ((c'.its.length : Int) < (qm : Int)) := by omega
    go_quiet (fail)
    go_wp2_with fail
    go_end0
    exact ⟨rfl, _, o1, M1, (drop_plain HFB.out HTT.out.ok HTT.out.tr HND.out HKK.out HM1.out (fun n _ => rfl) rfl HU.out HR.out HEL.out (by rw [← HQM.out]; omega)).drewN _⟩
end Go.Proofs.Ytfhonfeopkhdeaa.BC

namespace Go.Proofs.Ytfhonfeopkhdeaa.BC
open Go.RowKit Go.Proofs.YtfhonfeopkhdeaaW.PrintWords

theorem last_cell {w : World} {o : Nat → Nat} {M : Nat → Option (Nf Ky)} {g m lo hi : Nat} {t : BT Ky (g + 1)} (T : Tm w o M (g + 1) m lo hi t) {c : BT Ky g} (hc : t.kds[t.kds.length - 1]? = some c) : ∃ gx cx, w.cell? ⟨t.id, 2, none⟩ = some (.slice (some ⟨gx, 0, none⟩) t.kds.length cx) ∧ w.cell? ⟨gx, t.kds.length - 1, none⟩ = some (nv c.id) := by
  obtain ⟨vk, vv, vc, hn⟩ := T.gm _ _ T.tr.1
  obtain ⟨A1, c1, A2, c2, A3, c3, rfl, rfl, rfl, -⟩ := hn.row
  have hcl : (nf t.its (t.kds.map Nd.id)).cs.length = t.kds.length := List.length_map _
  have hlt := (List.getElem?_eq_some_iff.1 hc).1
  have d2 := hn.cells.2.2
  obtain ⟨gx, rfl, h1, -⟩ := hn.ccell (i := t.kds.length - 1) (by rw [hcl]; exact hlt)
  rw [hcl] at d2
  refine ⟨gx, c3, d2, ?_⟩
  rw [h1]
  have h2 : (t.kds.map Nd.id)[t.kds.length - 1]? = some c.id := by rw [List.getElem?_map, hc]; rfl
  have h3 : (nf t.its (t.kds.map Nd.id)).cs[t.kds.length - 1]'(by rw [hcl]; exact hlt) = c.id := (List.getElem?_eq_some_iff.1 h2).2
  rw [h3]
set_option maxRecDepth 100000 in
set_option maxHeartbeats 8000000 in
theorem drop_own (p m sz q h : Nat) (hm : 3 ≤ m ∧ m ≤ 64) (k : Ky)
    (IH : ∀ (k : Ky) (c : BT Ky h) (lo : Nat) (w : World) (o : Nat → Nat) (M : Nat → Option (Nf Ky)), TrAt w o p m sz q → Fb o w → Tm w o M h m lo m c → (h ≠ 0 → 1 ≤ lo) → (ids h c).Nodup → KRd w k → (getL kct k (toL h c)).isSome → Calls Try.prog 68 #[nv p, nv c.id, kv k] w (DropP w o M h c m lo k))
    (lo : Nat) (hlo : 1 ≤ lo) (t : BT Ky (h + 1)) (w : World) (o : Nat → Nat) (M : Nat → Option (Nf Ky)) (ht : TrAt w o p m sz q) (hf : Fb o w) (T : Tm w o M (h + 1) m lo m t) (hnd : (ids (h + 1) t).Nodup) (hk : KRd w k) {i : Nat} (ha : At kct t.its k i true) :
    Calls Try.prog 68 #[nv p, nv t.id, kv k] w (DropP w o M (h + 1) t m lo k) := by
  obtain ⟨I1, a, I2, ei, hl1, -, hz⟩ := ha.get
  have hko := T.ok.kids
  have hile := ha.lt
  obtain ⟨C1, c, C2, ek, hc1, hc2⟩ := list_at t.kds (i := i) (by show i < t.cs.length; omega)
  have hkl0 : t.kds.length = t.its.length + 1 := hko
  have K : Kid t I1 (a :: I2) C1 c C2 := ⟨ei, ek, by omega, by rw [ei] at hkl0; simp at hkl0 ⊢; omega⟩
  have et : toL (h + 1) t = preW (C1.map (toL h)) I1 ++ (toL h c ++ postW (a :: I2) (C2.map (toL h))) := by
    rw [← toL_node (n := t.id) K.l1 K.l2]
    show weave t.its (List.map _ t.kds) = weave (I1 ++ a :: I2) (List.map _ (C1 ++ c :: C2))
    rw [ei, ek]
  have TC := T.kid (by omega) ek et
  obtain ⟨hcn, hti, -⟩ := K.apart hnd
  obtain ⟨vk, vv, vc, hn, hs, hl⟩ := T.top
  have HF := Lib.hid (find_at p m sz q t.id vk vv vc t.its _ k w o ht hn (by omega) hs hk ha)
  obtain ⟨-, -, d2⟩ := hn.cells
  obtain ⟨A1, c1, A2, c2, A3, c3, rfl, rfl, rfl, q1, q2, q3⟩ := hn.row
  have hcl : (kidN (h + 1) t).length = t.its.length + 1 := by
    show (t.kds.map Nd.id).length = _
    rw [List.length_map]
    exact hko
  obtain ⟨gc, rfl, hv1, -⟩ := hn.ccell (i := i) (by show i < (kidN (h + 1) t).length; omega)
  have hcid : (nf t.its (kidN (h + 1) t)).cs[i]'(by show i < (kidN (h + 1) t).length; omega) = c.id := get_mid (A := C1.map Nd.id) (B := C2.map Nd.id) (by show t.kds.map Nd.id = _; rw [ek]; simp) (by rw [List.length_map]; exact hc1) _
  rw [hcid] at hv1
  have hcs : (nf t.its (kidN (h + 1) t)).cs.length = t.its.length + 1 := hcl
  rw [hcs] at d2 q3
  have hi1 : (i : Int) < (t.its.length : Int) + 1 := by omega
  have hi3 : ¬ (t.its.length : Int) + 1 = 0 := by omega
  have HN := Lib.hid hn
  have HT := Lib.hid ht
  have HTT := Lib.hid T
  have HTC := Lib.hid TC
  have HFB := Lib.hid hf
  have HKK := Lib.hid K
  have HND := Lib.hid hnd
  have HTI := Lib.hid hti
  have HCN := Lib.hid hcn
  have HIH := Lib.hid IH
  have HEI := Lib.hid ei
  have HEK := Lib.hid ek
  have HZ := Lib.hid hz
  have HL1 := Lib.hid hl1
  have HC1 := Lib.hid hc1
  have HCLN := Lib.hid hcl
  have HIL := Lib.hid hile
  clear hn ht T TC hf hk K hnd hcn hti hs ha hko IH hcs hcl hcid q1 q2 et ei ek hz hl1 hc1 hc2 hkl0 hile
  unfold nv at *
  go_enter Try.func68, Try.ntmps68
  go_wp2_with (go_at_call 67; refine HF.out.mono ?_; rintro e w1 ⟨rfl, mq, rfl⟩)
  go_loopg [8] h (fun gk v8 wr => ∃ (lo' hi' : Nat) (t' : BT Ky gk) (P : List (Ky × Int)), v8 = .pointer (some ⟨t'.id, 0, none⟩) ∧ Hid (Tm w o M gk m lo' hi' t') ∧ Hid (1 ≤ lo') ∧ Hid (toL h c = P ++ toL gk t') ∧ Hid (∃ mm, wr = w.drewN mm))
  case atStart => exact ⟨m / 2, m, c, [], rfl, HTC, Lib.hid (by omega), Lib.hid rfl, Lib.hid ⟨mq, rfl⟩⟩
  case round =>
    obtain ⟨lo', hi', t', P, rfl, HQ, HLO, HP, HW⟩ := hrel
    obtain ⟨mm, rfl⟩ := HW.out
    cases gk with
    | succ g =>
      obtain ⟨c', P', hc', ep⟩ := last_kid HQ.out.ok
      obtain ⟨gx, cx, x2, x3⟩ := last_cell HQ.out hc'
      have hkl : t'.kds.length = t'.its.length + 1 := HQ.out.ok.kids
      have hle : t'.kds.length ≤ 1001 := by have := HQ.out.ok.len; have := HQ.out.le; omega
      have HKT := Lib.hid (show Tm w o M g m (m / 2) m c' from ⟨HQ.out.gm, HQ.out.tr.2 c' (List.mem_of_getElem? hc'), HQ.out.ok.2.2 c' (List.mem_of_getElem? hc'), by omega, by
        have := HQ.out.ss
        rw [ep] at this
        exact (List.pairwise_append.1 this).2.1⟩)
      have HP2 := Lib.hid (show toL h c = (P ++ P') ++ toL g c' from by rw [HP.out, ep, List.append_assoc])
      obtain ⟨N, hN⟩ : ∃ N, N = t'.kds.length := ⟨_, rfl⟩
      rw [← hN] at x2 x3 hkl hle
      have n1 : 0 < (N : Int) := by omega
      have n2 : (0 : Int) ≤ (N : Int) - 1 := by omega
      have n3 : (N : Int) - 1 < (N : Int) := by omega
      have n4 : ((N : Int) - 1).toNat = N - 1 := by omega
      have n5 : 1 ≤ (N : Int) := by omega
      clear hc' ep hN hkl
      unfold nv at x3
      go_wp2_with fail
      go_quiet (fail)
      go_wp2_with fail
      go_roundg g
      case measure => omega
      case rel => exact ⟨m / 2, m, c', P ++ P', rfl, HKT, Lib.hid (by omega), HP2, Lib.hid (by first | exact ⟨_, rfl⟩ | exact ⟨_, World.drewN_drewN ..⟩)⟩
    | zero =>
      obtain ⟨L, hL⟩ : ∃ L, L = t'.its.length := ⟨_, rfl⟩
      have hL1 : 0 < L := by have := HQ.out.ok.len.1; have := HLO.out; omega
      have hL3 : L ≤ 1000 := by have := HQ.out.ok.len; have := HQ.out.le; omega
      obtain ⟨b, hb⟩ : ∃ b, t'.its[t'.its.length - 1]? = some b := ⟨_, List.getElem?_eq_getElem (by omega)⟩
      have hbs := last_split hb
      have HEC := Lib.hid (show toL h c = (P ++ t'.its.take (t'.its.length - 1)) ++ [b] from by
        rw [HP.out]
        show P ++ t'.its = _
        conv => lhs; rw [hbs]
        simp)
      obtain ⟨xk, xv, xc, hX⟩ := HQ.out.gm _ _ HQ.out.tr
      obtain ⟨b1, b2⟩ := nf_at (cs := ([] : List Nat)) hb
      rw [← hL] at b1 b2
      have hA := HN.out
      obtain ⟨t1, t2⟩ := nf_at (its := t.its) (cs := kidN (h + 1) t) (show t.its[i]? = some a from by rw [HEI.out, ← HL1.out]; simp)
      obtain ⟨gk, e1, gv, e2, ee1, ee2, -, -, hi4, hi5⟩ := hA.rows t1 t2
      cases ee1
      cases ee2
      obtain ⟨hk, d1, hv, d2', rfl, rfl, -, -, -, -⟩ := hX.rows b1 b2
      obtain ⟨a0, k0⟩ := hA.kat t1
      obtain ⟨a1, v0⟩ := hA.vat t2
      obtain ⟨x0, k1⟩ := hX.kat b1
      obtain ⟨x1, v1⟩ := hX.vat b2
      have x2 := hX.cells.2.2
      obtain ⟨B1, B1c, -, -, B3, B3c, -, -, rfl, -⟩ := hX.row
      have hz0 : (nf t'.its ([] : List Nat)).cs.length = 0 := rfl
      have hz1 : (nf t'.its ([] : List Nat)).ks.length = L := by rw [hL]; exact (nf_len _ _).1
      have hz2 : (nf t'.its ([] : List Nat)).vs.length = L := by rw [hL]; exact (nf_len _ _).2
      rw [hz0] at x2
      rw [hz1] at x0
      rw [hz2] at x1
      obtain ⟨cur1, hb1⟩ := hA.rk.blk rfl
      obtain ⟨cur2, hb2⟩ := hA.rv.blk rfl
      have f1 := blk_frozen hb1 i
      have f2 := blk_frozen hb2 i
      have hg1 : ¬ gk = gv := blk_ne hb1 hb2 (by decide)
      have hg2 : ¬ gv = gk := fun e => hg1 e.symm
      have hw3 : (0 : Int) ≤ (L : Int) - 1 := by omega
      have hw6 : 1 ≤ (L : Int) := by omega
      have hw4 : (L : Int) - 1 < (L : Int) := by omega
      have hw5 : ((L : Int) - 1).toNat = L - 1 := by omega
      have HA := Lib.hid hA
      have HOB := Lib.hid (hX.ok b.1 (List.mem_of_getElem? b1))
      have HIX : Hid (1 = 1) := Lib.hid rfl
      clear hA hX hb1 hb2 hb hbs hz0 hz1 hz2 hL t1 t2 b1 b2
      go_upto_region 10 with (fail)
      go_cut [] (fun wc => Hid (Gm wc o (setM M t.id (nf (I1 ++ b :: I2) (kidM (h + 1) t.cs))) ∧ Up (· = t.id + 2) o o w wc))
      case first =>
        go_region
        all_goals
          go_wp2_with fail
          go_meet
          case rel =>
            obtain ⟨hA5, hU5⟩ := (HA.out.drewN mm).kset (HFB.out.drewN mm) i b.1 (HOB.out.keep fun _ _ h => ⟨rfl, h⟩)
            obtain ⟨hA6, hU6⟩ := hA5.vset hU5.fb i b.2
            have hset := nf_set HEI.out b.1 b.2 (kidN (h + 1) t)
            rw [HL1.out] at hset
            rw [hset] at hA6
            have hU7 : Up (· = t.id + 2) o o w _ := (hU5.drew).trans HFB.out hU6 (fun _ e => e) (fun _ _ e => e)
            have hg7 : Gm _ o (setM M t.id (nf (I1 ++ b :: I2) (kidM (h + 1) t.cs))) := HTT.out.gm.set hU7 (fun _ e => e) hA6
            exact Lib.hid ⟨hg7.drewN 1, ⟨hU7.os, hU7.tape, hU7.output, hU7.size, hU7.blk, hU7.old, hU7.fb.drewN 1⟩⟩
      case rest =>
        clear HA a0 a1 k0 v0 x0 x1 x2 k1 v1 f1 f2 hg1 hg2 hi4 hi5 hw3 hw6 hw4 hw5 d2 hv1 HN
        obtain ⟨hG, hU⟩ := hcut.out
        have HG := Lib.hid hG
        have HU := Lib.hid hU
        clear hcut hG hU
        have hpt : p ≠ t.id := HT.out.ne (HTT.out.gm _ _ HTT.out.tr.1).choose_spec.choose_spec.choose_spec
        have hT0 := HT.out.up HU.out (fun e => hpt (by omega))
        have HT0 := Lib.hid hT0
        obtain ⟨vk, vv, vc, hn⟩ := HG.out t.id _ (setM_same _ _ _)
        obtain ⟨A1, c1, A2, c2, A3, c3, rfl, rfl, rfl, q1, q2, q3⟩ := hn.row
        have hkl := (nf_len (I1 ++ b :: I2) (kidM (h + 1) t.cs)).1
        have hil : I1.length < (I1 ++ b :: I2).length := by simp
        have hlen : (I1 ++ b :: I2).length = t.its.length := by rw [HEI.out]; simp
        have hcl : (nf (I1 ++ b :: I2) (kidM (h + 1) t.cs)).cs.length = t.its.length + 1 := HCLN.out
        obtain ⟨gc, rfl, hv1, -⟩ := hn.ccell (i := i) (by rw [hcl]; omega)
        have hcid : (nf (I1 ++ b :: I2) (kidM (h + 1) t.cs)).cs[i]'(by rw [hcl]; omega) = c.id := get_mid (A := C1.map Nd.id) (B := C2.map Nd.id) (by show t.kds.map Nd.id = _; rw [HEK.out]; simp) (by rw [List.length_map]; exact HC1.out) _
        rw [hcid] at hv1
        obtain ⟨t1, -⟩ := nf_at (its := I1 ++ b :: I2) (cs := kidM (h + 1) t.cs) (show (I1 ++ b :: I2)[i]? = some b from by rw [← HL1.out]; simp)
        have hki : i < (nf (I1 ++ b :: I2) (kidM (h + 1) t.cs)).ks.length := (List.getElem?_eq_some_iff.1 t1).1
        obtain ⟨gk, rfl, -⟩ := hn.kcell hki
        obtain ⟨a0, k0⟩ := hn.kat t1
        have d2 := hn.cells.2.2
        rw [hcl] at d2
        rw [hkl, hlen] at a0
        have hi1 : (i : Int) < (t.its.length : Int) := by have := HIL.out; omega
        have hi2 : (i : Int) < (t.its.length : Int) + 1 := by omega
        have HN := Lib.hid hn
        have hM2 : ∀ n, n ≠ t.id → setM M t.id (nf (I1 ++ b :: I2) (kidM (h + 1) t.cs)) n = M n := fun n hne => setM_other _ _ hne
        have HM2 := Lib.hid hM2
        have hTC : Tm wc o (setM M t.id (nf (I1 ++ b :: I2) (kidM (h + 1) t.cs))) h m (m / 2) m c := ⟨HG.out, HTC.out.tr.congr fun n hn => hM2 n (fun e => HTI.out (e ▸ hn)), HTC.out.ok, HTC.out.le, HTC.out.ss⟩
        have hkr : KRd wc b.1 := (hn.ok b.1 (List.mem_of_getElem? t1)).rd
        have hgb : (getL kct b.1 (toL h c)).isSome := by
          have hss := HTC.out.ss
          rw [HEC.out] at hss ⊢
          rw [getL_last hss]
          rfl
        have HC := Lib.hid (HIH.out b.1 c (m / 2) wc o _ hT0 HU.out.fb hTC (fun _ => by omega) HCN.out hkr hgb)
        clear hn hkl hil hcl hcid hki hTC hkr hgb hM2 t1 hT0 q1 q2 q3 hlen hpt HIH
        unfold nv at *
        unfold kv at HC
        go_upto_region 13 with (go_at_call 68; refine HC.out.mono ?_; rintro e w1 ⟨rfl, c', o1, M1, hR⟩; have HR := Lib.hid hR; clear hR)
        have hpn : ∀ n ∈ ids h c, n ≠ p := fun n hn e => by
          obtain ⟨F, hF⟩ := tr_ids HTT.out.tr n (HKK.out.sub n hn)
          obtain ⟨_, _, _, hnd⟩ := HTT.out.gm n F hF
          exact HT.out.ne hnd e.symm
        have hP := HN.out.up HR.out.up (fun ⟨n, _, e⟩ => by omega) (fun ⟨n, hn, e⟩ => HTI.out (by
          have : n = t.id := by omega
          rw [← this]; exact hn))
        have hT1 := HT0.out.up HR.out.up (fun ⟨n, hn, e⟩ => hpn n hn (by omega))
        have hid := HR.out.id
        obtain ⟨xk, xv, xc, hX⟩ := HR.out.gm c'.id _ (tr_at HR.out.tr)
        obtain ⟨B1, b1, B2, b2, B3, b3, rfl, rfl, rfl, -, -, -⟩ := hX.row
        obtain ⟨x0, -, -⟩ := hX.cells
        obtain ⟨-, -, e2⟩ := hP.cells
        obtain ⟨p0, -⟩ := hT1.cells
        have hxl : (nf c'.its (kidN h c')).ks.length = c'.its.length := List.length_map _
        have hcs2 : (nf (I1 ++ b :: I2) (kidM (h + 1) t.cs)).cs.length = t.its.length + 1 := HCLN.out
        obtain ⟨gc', ee, g1, -⟩ := hP.ccell (i := i) (by rw [hcs2]; omega)
        cases ee
        have hcid2 : (nf (I1 ++ b :: I2) (kidM (h + 1) t.cs)).cs[i]'(by rw [hcs2]; omega) = c'.id := by
          rw [hid]
          exact get_mid (A := C1.map Nd.id) (B := C2.map Nd.id) (by show t.kds.map Nd.id = _; rw [HEK.out]; simp) (by rw [List.length_map]; exact HC1.out) _
        rw [hcid2] at g1
        rw [hxl] at x0
        rw [hcs2] at e2
        have HT1 := Lib.hid hT1
        have hxm : c'.its.length ≤ 64 := by have := HR.out.ok.len.2; omega
        clear hP hX hT1 hxl hcs2 hcid2 hpn hid hv1 a0 k0 d2
        unfold nv at g1
        obtain ⟨qm, hqm⟩ : ∃ qm, qm = m / 2 := ⟨_, rfl⟩
        have hq : ((m : Int).tdiv 2) = (qm : Int) := by rw [Int.tdiv_eq_ediv_of_nonneg (by omega)]; omega
        have hq64 : qm ≤ 64 := by omega
        have HQM := Lib.hid hqm
        clear hqm
        have HEL := Lib.hid (list_true HEI.out HEK.out (by rw [HC1.out, HL1.out]) HTT.out.ss HZ.out HEC.out HR.out.li)
        have HLN := Lib.hid (show (I1 ++ b :: I2).length = t.its.length from by rw [HEI.out]; simp)
        have HM1 := Lib.hid (show setM M t.id (nf (I1 ++ b :: I2) (kidM (h + 1) t.cs)) t.id = some (nf (I1 ++ b :: I2) (t.kds.map Nd.id)) from setM_same _ _ _)
        by_cases hgt : c'.its.length < qm
        · have hgt' : (c'.its.length : Int) < (qm : Int) := by omega
          have HMD := Lib.hid (fun nq => mend_after p m sz q h lo hm HFB.out HTT.out.ok hlo HTT.out.tr HND.out HKK.out HM1.out HM2.out HLN.out HU.out HR.out HEL.out (by rw [← HQM.out]; exact hgt) HT1.out nq)
          have ec : ((C1.length : Nat) : Int) = (i : Int) := by rw [HC1.out]
          rw [ec] at HMD
          clear ec
          unfold nv at HMD
          go_quiet (fail)
          go_wp2_with (go_at_call 92; refine (HMD.out _).mono ?_; rintro e w2 ⟨rfl, hR2⟩)
          go_end0
          exact ⟨rfl, hR2⟩
        · have hgt' : decide ((c'.its.length : Int) < (qm : Int)) = false := decide_eq_false (by omega)
          have hgt2 : ¬ ((c'.its.length : Int) < (qm : Int)) := by omega
          go_quiet (fail)
          go_wp2_with fail
          go_end0
          exact ⟨rfl, _, o1, M1, (drop_plain HFB.out HTT.out.ok HTT.out.tr HND.out HKK.out HM1.out HM2.out HLN.out HU.out HR.out HEL.out (by rw [← HQM.out]; omega)).drewN _⟩
/-- drop: any tree that has the key. -/
theorem drop_any (p m sz q : Nat) (hm : 3 ≤ m ∧ m ≤ 64) : ∀ (h : Nat) (k : Ky) (t : BT Ky h) (lo : Nat) (w : World) (o : Nat → Nat) (M : Nat → Option (Nf Ky)), TrAt w o p m sz q → Fb o w → Tm w o M h m lo m t → (h ≠ 0 → 1 ≤ lo) → (ids h t).Nodup → KRd w k → (getL kct k (toL h t)).isSome →
    Calls Try.prog 68 #[nv p, nv t.id, kv k] w (DropP w o M h t m lo k)
  | 0, k, t, lo, w, o, M, ht, hf, T, _, _, hk, hg => by
    obtain ⟨i, is, ha⟩ := at_exists (k := k) (its_sorted T.ok T.ss)
    cases is with
    | true => exact drop_leaf p m sz q lo t k w o M ht hf T hk ha
    | false =>
      obtain ⟨A, B, e, -, hlo, hhi⟩ := ha.not
      have : getL kct k (toL 0 t) = none := by
        show getL kct k t.its = none
        rw [e]
        exact getL_new hlo hhi
      rw [this] at hg
      cases hg
  | h + 1, k, t, lo, w, o, M, ht, hf, T, hlo, hnd, hk, hg => by
    obtain ⟨i, is, ha⟩ := at_exists (k := k) (its_sorted T.ok T.ss)
    cases is with
    | true => exact drop_own p m sz q h hm k (fun k c lo w o M a b c' d e f g => drop_any p m sz q hm h k c lo w o M a b c' d e f g) lo (hlo (by omega)) t w o M ht hf T hnd hk ha
    | false => exact drop_kid p m sz q h hm k (fun c lo w o M a b c' d e f g => drop_any p m sz q hm h k c lo w o M a b c' d e f g) lo (hlo (by omega)) t w o M ht hf T hnd hk hg ha
end Go.Proofs.Ytfhonfeopkhdeaa.BC

namespace Go.Proofs.Ytfhonfeopkhdeaa.BC
open Go.RowKit Go.Proofs.YtfhonfeopkhdeaaW.PrintWords

/-- What is left by a drop out of the whole tree. -/
def DropTop (base : Nat) (w : World) (o : Nat → Nat) (p m h : Nat) (t : BT Ky h) (k : Ky) (e : Ending) (w' : World) : Prop :=
  ∃ (h' : Nat) (t' : BT Ky h') (o' : Nat → Nat) (M' : Nat → Option (Nf Ky)), Bm base w' o' p m h' t' M' ∧ UpB base o o' w w' ∧ e = .returned (.bool (getL kct k (toL h t)).isSome) ∧ toL h' t' = delL kct k (toL h t)
theorem delL_none {l : List (Ky × Int)} {k : Ky} (h : getL kct k l = none) : delL kct k l = l := by
  induction l with
  | nil => rfl
  | cons a r ih =>
    rw [getL] at h
    rw [delL]
    split
    · rfl
    · next h1 =>
      rw [if_neg h1] at h
      split
      · next h2 => rw [if_pos h2] at h; cases h
      · next h2 => rw [if_neg h2] at h; rw [ih h]
theorem Bm.drewN {base : Nat} {w : World} {o : Nat → Nat} {p m h : Nat} {t : BT Ky h} {M : Nat → Option (Nf Ky)} (b : Bm base w o p m h t M) (n : Nat) : Bm base (w.drewN n) o p m h t M := ⟨b.at_.drewN n, b.fb.drewN n, b.tm.drewN n, b.nd, b.bp, b.bn⟩
set_option maxRecDepth 100000 in
set_option maxHeartbeats 4000000 in
theorem Drop_none (base p m h : Nat) (t : BT Ky h) (k : Ky) (w : World) (o : Nat → Nat) (M : Nat → Option (Nf Ky)) (b : Bm base w o p m h t M) (hm : 3 ≤ m ∧ m ≤ 64) (hk : KRd w k) (hg : getL kct k (toL h t) = none) :
    Calls Try.prog 36 #[nv p, kv k] w (DropTop base w o p m h t k) := by
  have HGT := Lib.hid (get_any p m _ h (min h 1) m t k w o M b.at_ b.tm (by omega) hk)
  rw [hg] at HGT
  have HFIN := Lib.hid (fun n => show DropTop base w o p m h t k (.returned (.bool false)) (w.drewN n) from ⟨h, t, o, M, b.drewN n, Up.quiet b.fb (below_drewN w n), by rw [hg]; rfl, (delL_none hg).symm⟩)
  clear b hg
  unfold nv at *
  go_enter Try.func36, Try.ntmps36
  go_wp2_with (go_at_call 34; refine HGT.out.mono ?_; rintro e w1 ⟨rfl, mq, rfl⟩)
  go_ret
  exact HFIN.out _
/-- The tree behind a drop, before its root is looked at. -/
theorem drop_bq {base : Nat} {w w1 : World} {o o1 : Nat → Nat} {p m h : Nat} {t t1 : BT Ky h} {k : Ky} {M M1 : Nat → Option (Nf Ky)} (b : Bm base w o p m h t M) (hm : 3 ≤ m ∧ m ≤ 64) (R : DropR w o M h t m (min h 1) k w1 t1 o1 M1) (hlo : min h 1 ≤ t1.its.length) : Bq base w1 o1 p m (toL h t).length h t1 M1 ∧ UpB base o o1 w w1 := by
  have U : UpB base o o1 w w1 := R.up.mono (fun x ⟨n, hn, e⟩ => by have := b.bn n hn; omega)
  have hp := b.q.np
  refine ⟨⟨by rw [R.id]; exact b.at_.up R.up (fun ⟨n, hn, e⟩ => hp n hn (by omega)), R.up.fb, ⟨R.gm, R.tr, R.ok.weaken hlo R.ok.len.2, by omega, by rw [R.li]; exact delL_sorted b.tm.ss⟩, R.nd, b.bp, fun n hn => b.bn n (R.fr n hn)⟩, U⟩
theorem drop_len {h h2 : Nat} {t : BT Ky h} {t2 : BT Ky h2} {k : Ky} {x : Int} (e : toL h2 t2 = delL kct k (toL h t)) (hg : getL kct k (toL h t) = some x) : (toL h2 t2).length = (toL h t).length - 1 ∧ 1 ≤ (toL h t).length := by
  have h1 := delL_length (ct := kct) k (toL h t)
  rw [hg] at h1
  have h2 : 1 ≤ (toL h t).length := by
    cases hl : toL h t with
    | nil => rw [hl] at hg; cases hg
    | cons a r => simp
  exact ⟨by rw [e, h1]; rfl, h2⟩
theorem drop_top {base : Nat} {w w2 : World} {o o2 : Nat → Nat} {p m h h2 : Nat} {t : BT Ky h} {t2 : BT Ky h2} {M2 : Nat → Option (Nf Ky)} {k : Ky} {x : Int} (hf : Fb o w) (b : Bq base w2 o2 p m (toL h t).length h2 t2 M2) (u : UpB base o o2 w w2) (e : toL h2 t2 = delL kct k (toL h t)) (hg : getL kct k (toL h t) = some x) (s : Int) (hs : s = ((toL h t).length : Int) - 1) :
    DropTop base w o p m h t k (.returned (.bool true)) (w2.setCell ⟨p, 1, none⟩ (.int .i64 s)) := by
  obtain ⟨l1, l2⟩ := drop_len e hg
  obtain ⟨h1, h2'⟩ := b.setSize ((toL h t).length - 1)
  have e1 : (((toL h t).length - 1 : Nat) : Int) = s := by omega
  rw [e1] at h1 h2'
  exact ⟨h2, t2, o2, M2, h1.m l1.symm, u.trans hf h2', by rw [hg]; rfl, e⟩
set_option maxRecDepth 100000 in
set_option maxHeartbeats 4000000 in
theorem Drop_some (base p m h : Nat) (t : BT Ky h) (k : Ky) (w : World) (o : Nat → Nat) (M : Nat → Option (Nf Ky)) (b : Bm base w o p m h t M) (hm : 3 ≤ m ∧ m ≤ 64) (hk : KRd w k) (x : Int) (hg : getL kct k (toL h t) = some x) (hlen : (toL h t).length ≤ 65536) :
    Calls Try.prog 36 #[nv p, kv k] w (DropTop base w o p m h t k) := by
  have HB := Lib.hid b
  have HGT := Lib.hid (get_any p m _ h (min h 1) m t k w o M b.at_ b.tm (by omega) hk)
  have HDR := Lib.hid (fun mq => drop_any p m (toL h t).length t.id hm h k t (min h 1) (w.drewN mq) o M (b.at_.drewN mq) (b.fb.drewN mq) (b.tm.drewN mq) (fun hh => by omega) b.nd (hk.drewN mq) (by rw [hg]; rfl))
  obtain ⟨-, p1, -, -, p4⟩ := b.at_.cells
  rw [hg] at HGT
  obtain ⟨s, hs⟩ : ∃ s, s = (toL h t).length := ⟨_, rfl⟩
  have hs1 : 1 ≤ s := by
    rw [hs]
    cases hl : toL h t with
    | nil => rw [hl] at hg; cases hg
    | cons a r => simp
  rw [← hs] at p1 hlen
  have HG := Lib.hid hg
  have HS := Lib.hid hs
  clear hg b hs
  unfold nv at *
  go_enter Try.func36, Try.ntmps36
  go_upto_region 5 with (first | (go_at_call 34; refine HGT.out.mono ?_; rintro e w1 ⟨rfl, mq, rfl⟩) | (go_at_call 68; refine (HDR.out _).mono ?_; rintro e w1 ⟨rfl, t1, o1, M1, hR⟩; have HR := Lib.hid hR.back; clear hR))
  have HT1 := Lib.hid (show TrAt w1 o1 p m s t.id from by
    rw [HS.out]
    exact HB.out.at_.up HR.out.up (fun ⟨n, hn, e⟩ => HB.out.q.np n hn (by omega)))
  obtain ⟨xk, xv, xc, hX⟩ := HR.out.gm t1.id _ (tr_top HR.out.tr)
  obtain ⟨B1, b1, B2, b2, B3, b3, rfl, rfl, rfl, -, -, -⟩ := hX.row
  obtain ⟨x0, -, x2⟩ := hX.cells
  obtain ⟨t0, t1', -, -, t4⟩ := HT1.out.cells
  have f1 := blk_frozen HT1.out.blk 1
  have f4 := blk_frozen HT1.out.blk 4
  rw [(nf_len _ _).1, HR.out.id] at x0
  have hcl : (nf t1.its (kidM h t1.cs)).cs.length = t1.cs.length := kidM_len HR.out.ok
  rw [hcl, HR.out.id] at x2
  have HX := Lib.hid hX
  have hw1 : IntKind.i64.wrap ((s : Int) - 1) = (s : Int) - 1 := by rw [IntKind.wrap_i64]; omega
  clear hX p1 p4 hcl
  unfold nv at t4
  by_cases hz : 0 < t1.its.length
  · have hz1 : ¬ (t1.its.length : Int) = 0 := by omega
    have hz2 : ((t1.its.length : Int) == 0) = false := beq_eq_false_iff_ne.2 hz1
    go_wp2_with fail
    go_ret
    obtain ⟨hq, hu⟩ := drop_bq HB.out hm HR.out (by omega)
    exact drop_top HB.out.fb hq hu HR.out.li HG.out _ (by rw [← HS.out])
  · have hz0 : t1.its.length = 0 := by omega
    rw [hz0] at x0
    cases h with
    | zero =>
      have hc0 : t1.cs.length = 0 := by rw [no_kids t1]; rfl
      rw [hc0] at x2
      go_wp2_with fail
      go_ret
      obtain ⟨hq, hu⟩ := drop_bq HB.out hm HR.out (by omega)
      exact drop_top HB.out.fb hq hu HR.out.li HG.out _ (by rw [← HS.out])
    | succ g =>
      have hko : t1.kds.length = t1.its.length + 1 := HR.out.ok.kids
      have hc0 : t1.cs.length = 1 := by
        have : t1.cs.length = t1.its.length + 1 := HR.out.ok.kids
        omega
      rw [hc0] at x2
      obtain ⟨c, hc⟩ : ∃ c, t1.kds = [c] := by
        rw [hz0] at hko
        match hh : t1.kds, hko with
        | [c], _ => exact ⟨c, rfl⟩
      have HC := Lib.hid hc
      obtain ⟨gx, ee, h1, -⟩ := HX.out.ccell (i := 0) (by show 0 < (t1.kds.map Nd.id).length; rw [hc]; simp)
      have hid0 : (nf t1.its (kidM (g + 1) t1.cs)).cs[0]'(by show 0 < (t1.kds.map Nd.id).length; rw [hc]; simp) = c.id := by
        have h2 : (t1.kds.map Nd.id)[0]? = some c.id := by rw [hc]; rfl
        exact (List.getElem?_eq_some_iff.1 h2).2
      rw [hid0] at h1
      subst ee
      unfold nv at h1
      clear hid0 hc hko HX
      go_wp2_with fail
      go_ret
      have hmem : c ∈ t1.kds := by rw [HC.out]; simp
      have hokc : OkT m g (m / 2) m c := HR.out.ok.2.2 c hmem
      have hidsub : ∀ n ∈ ids g c, n ∈ ids (g + 1) t1 := fun n hn => List.mem_cons_of_mem _ (List.mem_flatMap.2 ⟨c, hmem, hn⟩)
      have etl : toL (g + 1) t1 = toL g c := by
        show weave t1.its (List.map (toL g) t1.kds) = _
        rw [HC.out, List.eq_nil_of_length_eq_zero hz0]
        rfl
      obtain ⟨hT2, hU2⟩ := HT1.out.root HR.out.up.fb c.id
      have hg2 := HR.out.gm.apart HT1.out hU2
      have hq : Bq base (w1.setCell ⟨p, 4, none⟩ (nv c.id)) o1 p m s g c M1 := ⟨hT2, hU2.fb, ⟨hg2, HR.out.tr.2 c hmem, hokc.weaken (by have := hokc.len.1; omega) hokc.len.2, by omega, by rw [← etl, HR.out.li]; exact delL_sorted HB.out.tm.ss⟩, by
        have := HR.out.nd
        rw [show ids (g + 1) t1 = t1.id :: t1.kds.flatMap (ids g) from rfl, HC.out] at this
        simpa using (List.nodup_cons.1 this).2, HB.out.bp, fun n hn => HB.out.bn n (HR.out.fr n (hidsub n hn))⟩
      have hu : UpB base o o1 w (w1.setCell ⟨p, 4, none⟩ (nv c.id)) := (HR.out.up.mono (T := fun x => base + 2 ≤ x) (fun x ⟨n, hn, e⟩ => by have := HB.out.bn n hn; omega)).trans HB.out.fb (hU2.mono (T := fun x => base + 2 ≤ x) (fun x e => by have := HB.out.bp; omega)) (fun _ e => e) (fun _ _ e => e)
      rw [HS.out] at hq
      exact drop_top HB.out.fb hq hu (etl.symm.trans HR.out.li) HG.out _ (by rw [← HS.out])
theorem Drop_any (base p m h : Nat) (t : BT Ky h) (k : Ky) (w : World) (o : Nat → Nat) (M : Nat → Option (Nf Ky)) (b : Bm base w o p m h t M) (hm : 3 ≤ m ∧ m ≤ 64) (hk : KRd w k) (hlen : (toL h t).length ≤ 65536) :
    Calls Try.prog 36 #[nv p, kv k] w (DropTop base w o p m h t k) := by
  cases hg : getL kct k (toL h t) with
  | none => exact Drop_none base p m h t k w o M b hm hk hg
  | some x => exact Drop_some base p m h t k w o M b hm hk x hg hlen
end Go.Proofs.Ytfhonfeopkhdeaa.BC
