/-
  good, Get. No premise.
-/
import Derived.Test.YtfhonfeopkhdeaaBtFS
import Derived.Test.YtfhonfeopkhdeaaBtQ
import Derived.Deep.LoopGhost
namespace Go.Proofs.Ytfhonfeopkhdeaa.BS
open Go.RowKit Go.Proofs.YtfhonfeopkhdeaaW.PrintWords

theorem get_mid {α : Type} {l A B : List α} {a : α} {i : Nat} (e : l = A ++ a :: B) (hA : A.length = i) (h : i < l.length) : l[i] = a := by
  subst e
  subst hA
  simp
theorem good_any (p m sz q : Nat) (w : World) (o : Nat → Nat) (ht : TrAt w o p m sz q) : Calls Try.prog 47 #[nv p] w fun e w' => e = .returned (.bool true) ∧ w' = w := by
  obtain ⟨_, _, _, _, c4⟩ := ht.cells
  clear ht
  unfold nv at *
  go_enter Try.func47, Try.ntmps47
  go_wp2_with fail
  go_ret
  exact ⟨rfl, rfl⟩
theorem TrAt.drewN {w : World} {o : Nat → Nat} {p m sz q : Nat} (h : TrAt w o p m sz q) (n : Nat) : TrAt (w.drewN n) o p m sz q := ⟨h.blk, h.tg⟩
theorem NdAt.drewN {w : World} {o : Nat → Nat} {n : Nat} {vk vv vc : Value} {F : Nf Ky} (h : NdAt w o n vk vv vc F) (m : Nat) : NdAt (w.drewN m) o n vk vv vc F := h.keep fun _ _ _ => ⟨rfl, rfl⟩
/-- A tree in memory. -/
structure Tm (w : World) (o : Nat → Nat) (M : Nat → Option (Nf Ky)) (h m lo hi : Nat) (t : BT Ky h) : Prop where
  gm : Gm w o M
  tr : Tr M h t
  ok : OkT m h lo hi t
  le : hi ≤ 1000
  ss : SortedL kct (toL h t)
/-- The places of a node's children. -/
def kidN : (h : Nat) → BT Ky h → List Nat
  | 0, _ => []
  | _ + 1, t => t.kds.map Nd.id
theorem tr_at {M : Nat → Option (Nf Ky)} {h : Nat} {t : BT Ky h} (ht : Tr M h t) : M t.id = some (nf t.its (kidN h t)) := by
  cases h with
  | zero => exact ht
  | succ h => exact ht.1
theorem Tm.top {w : World} {o : Nat → Nat} {M : Nat → Option (Nf Ky)} {h m lo hi : Nat} {t : BT Ky h} (T : Tm w o M h m lo hi t) : ∃ vk vv vc, NdAt w o t.id vk vv vc (nf t.its (kidN h t)) ∧ SortedL kct t.its ∧ t.its.length ≤ 1000 := by
  have e := tr_at T.tr
  obtain ⟨vk, vv, vc, hn⟩ := T.gm _ _ e
  have := T.ok.len
  have := T.le
  exact ⟨vk, vv, vc, hn, its_sorted T.ok T.ss, by omega⟩
theorem NdAt.row {w : World} {o : Nat → Nat} {n : Nat} {vk vv vc : Value} {F : Nf Ky} (h : NdAt w o n vk vv vc F) : ∃ A c A' c' A'' c'', vk = .slice A F.ks.length c ∧ vv = .slice A' F.vs.length c' ∧ vc = .slice A'' F.cs.length c'' ∧ F.ks.length ≤ c ∧ F.vs.length ≤ c' ∧ F.cs.length ≤ c'' := by
  obtain ⟨A, c, e1, h1⟩ := h.rk.form
  obtain ⟨A', c', e2, h2⟩ := h.rv.form
  obtain ⟨A'', c'', e3, h3⟩ := h.rc.form
  unfold ksR at e1 h1
  unfold vsR at e2 h2
  unfold csR at e3 h3
  rw [List.length_map] at e1 e2 e3 h1 h2 h3
  exact ⟨A, c, A', c', A'', c'', e1, e2, e3, h1, h2, h3⟩
theorem NdAt.vcell {w : World} {o : Nat → Nat} {n N c : Nat} {A : Option Addr} {vk vc : Value} {F : Nf Ky} (h : NdAt w o n vk (.slice A N c) vc F) {i : Nat} (hi : i < F.vs.length) : ∃ g, A = some ⟨g, 0, none⟩ ∧ w.cell? ⟨g, i, none⟩ = some (.int .u64 F.vs[i]) ∧ w.frozen? ⟨g, i, none⟩ = false := by
  obtain ⟨g, rfl, _⟩ := h.rv.cells (by unfold vsR; rw [List.length_map]; omega)
  have := h.rv.cell (j := i) (by unfold vsR; rw [List.length_map]; exact hi)
  exact ⟨g, rfl, by simpa [vsR] using this⟩
theorem NdAt.ccell {w : World} {o : Nat → Nat} {n N c : Nat} {A : Option Addr} {vk vv : Value} {F : Nf Ky} (h : NdAt w o n vk vv (.slice A N c) F) {i : Nat} (hi : i < F.cs.length) : ∃ g, A = some ⟨g, 0, none⟩ ∧ w.cell? ⟨g, i, none⟩ = some (nv F.cs[i]) ∧ w.frozen? ⟨g, i, none⟩ = false := by
  obtain ⟨g, rfl, _⟩ := h.rc.cells (by unfold csR; rw [List.length_map]; omega)
  have := h.rc.cell (j := i) (by unfold csR; rw [List.length_map]; exact hi)
  exact ⟨g, rfl, by simpa [csR] using this⟩
theorem NdAt.kcell {w : World} {o : Nat → Nat} {n N c : Nat} {A : Option Addr} {vv vc : Value} {F : Nf Ky} (h : NdAt w o n (.slice A N c) vv vc F) {i : Nat} (hi : i < F.ks.length) : ∃ g, A = some ⟨g, 0, none⟩ ∧ w.cell? ⟨g, i, none⟩ = some (kv F.ks[i]) ∧ w.frozen? ⟨g, i, none⟩ = false := by
  obtain ⟨g, rfl, _⟩ := h.rk.cells (by unfold ksR; rw [List.length_map]; omega)
  have := h.rk.cell (j := i) (by unfold ksR; rw [List.length_map]; exact hi)
  exact ⟨g, rfl, by simpa [ksR] using this⟩
theorem Tm.kid {w : World} {o : Nat → Nat} {M : Nat → Option (Nf Ky)} {h m lo hi : Nat} {t : BT Ky (h + 1)} (T : Tm w o M (h + 1) m lo hi t) (hm : m ≤ 1000) {C1 : List (BT Ky h)} {c : BT Ky h} {C2 : List (BT Ky h)} {P Q : List (Ky × Int)} (e : t.kds = C1 ++ c :: C2) (et : toL (h + 1) t = P ++ (toL h c ++ Q)) : Tm w o M h m (m / 2) m c := by
  have hc : c ∈ t.kds := by rw [e]; simp
  exact ⟨T.gm, T.tr.2 c hc, T.ok.2.2 c hc, hm, sorted_mid (et ▸ T.ss)⟩
def GetP (r : Option Int) (w : World) (e : Ending) (w' : World) : Prop := e = .returned (.tuple #[.int .u64 (r.getD 0), .bool r.isSome]) ∧ ∃ m, w' = w.drewN m
set_option maxRecDepth 100000 in
set_option maxHeartbeats 2000000 in
theorem get_any (p m sz : Nat) (h lo hi : Nat) (t : BT Ky h) (k : Ky) (w : World) (o : Nat → Nat) (M : Nat → Option (Nf Ky)) (ht : TrAt w o p m sz t.id) (T : Tm w o M h m lo hi t) (hm : m ≤ 1000) (hk : KRd w k) :
    Calls Try.prog 19 #[nv p, kv k] w (GetP (getL kct k (toL h t)) w) := by
  obtain ⟨_, _, _, _, c4⟩ := ht.cells
  have HT := Lib.hid ht
  have HTT := Lib.hid T
  have HK := Lib.hid hk
  clear ht T hk
  unfold nv at *
  go_enter Try.func19, Try.ntmps19
  go_wp2_with (go_at_call 47; refine (good_any _ _ _ _ _ _ HT.out).mono ?_; rintro e w ⟨rfl, rfl⟩)
  go_loopg [6] h (fun kq v6 wr => ∃ (lo' hi' : Nat) (t' : BT Ky kq), v6 = nv t'.id ∧ Hid (Tm w o M kq m lo' hi' t') ∧ Hid (getL kct k (toL h t) = getL kct k (toL kq t')) ∧ Hid (∃ mm, wr = w.drewN mm))
  case atStart => exact ⟨lo, hi, t, rfl, HTT, Lib.hid rfl, Lib.hid ⟨0, rfl⟩⟩
  case round =>
    obtain ⟨lo', hi', t', rfl, HQ, HG, HW⟩ := hrel
    obtain ⟨mm, rfl⟩ := HW.out
    obtain ⟨vk, vv, vc, hn, hs, hl⟩ := HQ.out.top
    obtain ⟨cs, hcs⟩ : ∃ cs, cs = kidN gk t' := ⟨_, rfl⟩
    rw [← hcs] at hn
    obtain ⟨i, is, ha⟩ := at_exists (k := k) hs
    have HF := Lib.hid (fun mq => find_at p m sz t.id t'.id vk vv vc t'.its cs k (w.drewN mq) o (HT.out.drewN _) (hn.drewN _) (by omega) hs (HK.out.drewN _) ha)
    obtain ⟨d0, d1, d2⟩ := hn.cells
    obtain ⟨A, c, A', c', A'', c'', rfl, rfl, rfl, q1, q2, q3⟩ := hn.row
    have hvl : (nf t'.its cs).vs.length = t'.its.length := List.length_map _
    have hkl : (nf t'.its cs).ks.length = t'.its.length := List.length_map _
    have hccl : (nf t'.its cs).cs.length = cs.length := rfl
    rw [hkl] at d0 q1
    rw [hvl] at d1 q2
    rw [hccl] at d2 q3
    have HA := Lib.hid ha
    cases is with
    | true =>
      have hi := ha.lt
      obtain ⟨g, e1, hv1, hv2⟩ := hn.vcell (i := i) (by omega)
      subst e1
      obtain ⟨I1, a, I2, X, Y, k1, k2, k3, k4, k5, _⟩ := node_is HQ.out.ok HQ.out.ss ha
      have hgv : (nf t'.its cs).vs[i]'(by omega) = a.2 := get_mid (A := I1.map (·.2)) (B := I2.map (·.2)) (by show t'.its.map (·.2) = _; rw [k1]; simp) (by rw [List.length_map]; exact k2) _
      have hgl : getL kct k (toL gk t') = some a.2 := by rw [k4]; exact getL_at k5 k3
      rw [hgv] at hv1
      have HR := Lib.hid (HG.out.trans hgl)
      have hi1 : (i : Int) < (t'.its.length : Int) := by omega
      clear hn hs ha hcs HW d0 d2 k1 k2 k3 k4 k5 hgv hgl
      unfold nv
      go_wp2_with (go_at_call 49; refine (HF.out _).mono ?_; rintro e w1 ⟨rfl, mq, rfl⟩)
      go_ret2
      rw [HR.out]
      exact ⟨rfl, _, rfl⟩
    | false =>
      cases gk with
      | zero =>
        obtain rfl : cs = [] := hcs
        obtain ⟨I1, I2, k1, _, k3, k4⟩ := ha.not
        have hgl : getL kct k (toL 0 t') = none := by
          show getL kct k t'.its = none
          rw [k1]; exact getL_new k3 k4
        have HR := Lib.hid (HG.out.trans hgl)
        simp only [List.length_nil] at d2 q3
        clear hn hs ha HW d0 d1 k1 k3 k4 hgl
        unfold nv
        go_wp2_with (go_at_call 49; refine (HF.out _).mono ?_; rintro e w1 ⟨rfl, mq, rfl⟩)
        go_ret2
        rw [HR.out]
        exact ⟨rfl, _, rfl⟩
      | succ gh =>
        obtain ⟨I1, I2, C1, cc, C2, k1, k2, k3, k4, k5, k6, k7, k8⟩ := node_go HQ.out.ok HQ.out.ss ha
        have hgl : getL kct k (toL (gh + 1) t') = getL kct k (toL gh cc) := by
          rw [k8, getL_lo k6, getL_hi k7]
        have HR := Lib.hid (HG.out.trans hgl)
        have HKT := Lib.hid (HQ.out.kid hm k2 k8)
        have hko := HQ.out.ok.kids
        have hile := ha.le
        have hcs2 : cs = t'.kds.map Nd.id := hcs
        have hcl : cs.length = t'.cs.length := by rw [hcs2]; exact List.length_map _
        obtain ⟨g, e1, hv1, hv2⟩ := hn.ccell (i := i) (by show i < cs.length; omega)
        subst e1
        have hcid : (nf t'.its cs).cs[i]'(by show i < cs.length; omega) = cc.id := get_mid (A := C1.map Nd.id) (B := C2.map Nd.id) (by show cs = _; rw [hcs2, k2]; simp) (by rw [List.length_map]; exact k4) _
        rw [hcid] at hv1
        have hi1 : (i : Int) < (cs.length : Int) := by omega
        have hcz : ¬ cs.length = 0 := by omega
        clear hn hs ha hcs hcl HW d0 d1 k1 k2 k3 k4 k5 k6 k7 k8 hgl hcid hcs2 hko
        unfold nv at *
        go_wp2_with (go_at_call 49; refine (HF.out _).mono ?_; rintro e w1 ⟨rfl, mq, rfl⟩)
        go_roundg gh
        case measure => omega
        case rel => exact ⟨_, _, cc, rfl, HKT, HR, Lib.hid ⟨_, rfl⟩⟩
end Go.Proofs.Ytfhonfeopkhdeaa.BS
