/-
  put, where the key is a node's own. No premise.
-/
import Derived.Test.YtfhonfeopkhdeaaBtGS
import Derived.Test.YtfhonfeopkhdeaaInsGS
import Derived.Test.YtfhonfeopkhdeaaInsGU
import Derived.Test.YtfhonfeopkhdeaaInsGN
namespace Go.Proofs.Ytfhonfeopkhdeaa.BS
open Go.RowKit Go.Proofs.YtfhonfeopkhdeaaW.PrintWords

/-- What put leaves of the tree that it was handed. -/
structure PutR (w : World) (o : Nat → Nat) (M : Nat → Option (Nf Ky)) (h : Nat) (t : BT Ky h) (m lo : Nat) (k : Ky) (v : Int) (w' : World) (k' : Ky) (t' : BT Ky h) (o' : Nat → Nat) (M' : Nat → Option (Nf Ky)) : Prop where
  kk : kct k' = kct k
  id : t'.id = t.id
  ok : OkT m h lo (m + 1) t'
  li : toL h t' = insL kct k' v (toL h t)
  gm : Gm w' o' M'
  tr : Tr M' h t'
  nd : (ids h t').Nodup
  fr : ∀ n ∈ ids h t', n ∈ ids h t ∨ w.heap.size ≤ n
  up : Up (fun x => ∃ n ∈ ids h t, x = n + 2) o o' w w'
  re : ∀ n, n ∉ ids h t → n < w.heap.size → M' n = M n
def PutP (w : World) (o : Nat → Nat) (M : Nat → Option (Nf Ky)) (h : Nat) (t : BT Ky h) (m lo : Nat) (k : Ky) (v : Int) (e : Ending) (w' : World) : Prop :=
  e = .returned (.tuple #[]) ∧ ∃ k' t' o' M', PutR w o M h t m lo k v w' k' t' o' M'
theorem Up.drew {S : Nat → Prop} {o o' : Nat → Nat} {w w' : World} {n : Nat} (h : Up S o o' (w.drewN n) w') : Up S o o' w w' := ⟨h.os, h.tape, h.output, h.size, h.blk, h.old, h.fb⟩
theorem Gm.drewN {w : World} {o : Nat → Nat} {M : Nat → Option (Nf Ky)} (h : Gm w o M) (n : Nat) : Gm (w.drewN n) o M := fun b F hF => by
  obtain ⟨a, b', c, hb⟩ := h b F hF
  exact ⟨a, b', c, hb.drewN n⟩
theorem Fb.drewN {w : World} {o : Nat → Nat} (h : Fb o w) (n : Nat) : Fb o (w.drewN n) := ⟨h.end_, h.le⟩
set_option maxRecDepth 100000 in
set_option maxHeartbeats 2000000 in
theorem put_is (p m sz q : Nat) (h lo : Nat) (t : BT Ky h) (k : Ky) (v : Int) (w : World) (o : Nat → Nat) (M : Nat → Option (Nf Ky)) (ht : TrAt w o p m sz q) (hf : Fb o w) (T : Tm w o M h m lo m t) (hnd : (ids h t).Nodup) (hk : KRd w k) {i : Nat} (ha : At kct t.its k i true) :
    Calls Try.prog 52 #[nv p, nv t.id, kv k, .int .u64 v] w (PutP w o M h t m lo k v) := by
  obtain ⟨vk, vv, vc, hn, hs, hl⟩ := T.top
  have HF := Lib.hid (find_at p m sz q t.id vk vv vc t.its _ k w o ht hn (by omega) hs hk ha)
  obtain ⟨d0, d1, d2⟩ := hn.cells
  obtain ⟨A, c, A', c', A'', c'', rfl, rfl, rfl, q1, q2, q3⟩ := hn.row
  have hvl : (nf t.its (kidN h t)).vs.length = t.its.length := List.length_map _
  obtain ⟨g, e1, hv1, hv2⟩ := hn.vcell (i := i) (by have := ha.lt; omega)
  subst e1
  have hi1 : (i : Int) < (t.its.length : Int) := by have := ha.lt; omega
  obtain ⟨I1, a, I2, X, Y, k1, k2, k3, k4, k5, k6⟩ := node_is T.ok T.ss ha
  rw [hvl] at d1 q2
  have hfin : ∀ n, PutP w o M h t m lo k v (.returned (.tuple #[])) ((w.drewN n).setCell ⟨g, i, none⟩ (.int .u64 v)) := fun n => by
    obtain ⟨hn2, hup⟩ := (hn.drewN n).vset (hf.drewN n) i v
    have hlen : (I1 ++ (a.1, v) :: I2).length = t.its.length := by rw [k1]; simp
    have hset : (⟨(nf t.its (kidN h t)).ks, (nf t.its (kidN h t)).vs.set i v, (nf t.its (kidN h t)).cs⟩ : Nf Ky) = nf (I1 ++ (a.1, v) :: I2) (kidN h t) := by
      unfold nf
      simp only [k1, Nf.mk.injEq, and_true]
      refine ⟨by simp, ?_⟩
      rw [← k2]
      simp
    rw [hset] at hn2
    refine ⟨rfl, k, ⟨t.id, I1 ++ (a.1, v) :: I2, t.cs⟩, o, setM M t.id (nf (I1 ++ (a.1, v) :: I2) (kidN h t)), ?_⟩
    have hids : ids h (⟨t.id, I1 ++ (a.1, v) :: I2, t.cs⟩ : BT Ky h) = ids h t := by cases h <;> rfl
    have hother : ∀ n, n ≠ t.id → setM M t.id (nf (I1 ++ (a.1, v) :: I2) (kidN h t)) n = M n := fun n hne => setM_other M _ hne
    refine ⟨rfl, rfl, ?_, ?_, (T.gm.drewN n).set hup (fun _ e => e) hn2, ?_, by rw [hids]; exact hnd, fun n hn => .inl (by rw [hids] at hn; exact hn), (hup.drew).mono (fun x e => ⟨t.id, id_mem h t, e⟩), fun n hn _ => hother n (fun e => hn (by rw [e]; exact id_mem h t))⟩
    · have := T.ok
      cases h with
      | zero => exact ⟨by rw [hlen]; exact this.1, by rw [hlen]; have := this.2; omega⟩
      | succ h => exact ⟨⟨by rw [hlen]; exact this.1.1, by rw [hlen]; have := this.1.2; omega⟩, by rw [hlen]; exact this.2.1, this.2.2⟩
    · rw [k6, k4]
      exact (insL_at k5 k3).symm
    · have := T.tr
      cases h with
      | zero => exact setM_same _ _ _
      | succ h =>
        refine ⟨setM_same _ _ _, fun c hc => (this.2 c hc).congr fun n hn => hother n fun e => ?_⟩
        have hnd2 : t.id ∉ t.kds.flatMap (ids h) := (List.nodup_cons.1 hnd).1
        exact hnd2 (List.mem_flatMap.2 ⟨c, hc, e ▸ hn⟩)
  have HFIN := Lib.hid hfin
  generalize (nf t.its (kidN h t)).vs[i]'_ = ov at hv1
  clear hn hs ht T hfin ha d0 d2 k1 k2 k3 k4 k5 k6 hnd hf
  unfold nv at *
  go_enter Try.func52, Try.ntmps52
  go_wp2_with (go_at_call 49; refine HF.out.mono ?_; rintro e w1 ⟨rfl, mq, rfl⟩)
  go_end0
  exact HFIN.out mq
end Go.Proofs.Ytfhonfeopkhdeaa.BS
