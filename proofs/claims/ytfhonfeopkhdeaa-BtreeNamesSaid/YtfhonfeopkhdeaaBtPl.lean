/-
  A tree of names to which acts were done (slabvaultlaw07.played). No premise.
  How deep a tree is: plain; Len. No premise.
  The shape of a tree's nodes as they are told: plain. No premise.
-/
import Derived.Test.YtfhonfeopkhdeaaBtDoS
import Derived.Test.YtfhonfeopkhdeaaBtL7
import Derived.Test.YtfhonfeopkhdeaaBtAc
namespace Go.Proofs.Ytfhonfeopkhdeaa.BS
open Go.RowKit Go.Proofs.YtfhonfeopkhdeaaW.PrintWords

theorem NT.drop {base : Nat} {w : World} {o : Nat → Nat} {p m : Nat} {L : List (Ky × Int)} (T : NT base w o p m L) (hm : 3 ≤ m ∧ m ≤ 64) (k : Ky) (hl : L.length ≤ 65536) :
    Calls Try.prog 23 #[nv p, kv k] w fun e w' => ∃ o', UpB base o o' w w' ∧ NT base w' o' p m (delL kct k L) ∧ e = .returned (.bool (getL kct k L).isSome) := by
  obtain ⟨h, t, M, b, rfl⟩ := T
  refine (Drop_any base p m h t k w o M b hm trivial hl).mono ?_
  rintro e w' ⟨h', t', o', M', hb, hu, he, h2⟩
  exact ⟨o', hu, ⟨h', t', M', hb, h2⟩, he⟩
/-- What acts make of a list. -/
def actL (L : List (Ky × Int)) (r : A7) : List (Ky × Int) := if r.kd = 2 then delL kct r.nm L else insL kct r.nm r.v L
def playL (l : List A7) : List (Ky × Int) := l.foldl actL []
theorem playL_succ {l : List A7} {i : Nat} (h : i < l.length) : playL (l.take (i + 1)) = actL (playL (l.take i)) l[i] := by
  unfold playL
  rw [List.take_add_one, List.getElem?_eq_getElem h, List.foldl_append]
  rfl
theorem actL_len (L : List (Ky × Int)) (r : A7) : (actL L r).length ≤ L.length + 1 := by
  unfold actL
  split
  · rw [delL_length]; split <;> omega
  · rw [insL_length]; split <;> omega
theorem playL_len (l : List A7) (i : Nat) : (playL (l.take i)).length ≤ i := by
  induction i with
  | zero => simp [playL]
  | succ i ih =>
    by_cases h : i < l.length
    · rw [playL_succ h]
      have := actL_len (playL (l.take i)) l[i]
      omega
    · rw [List.take_of_length_le (by omega)] at ih ⊢
      omega
theorem UpB.bel {w w' : World} {o o' : Nat → Nat} (u : UpB w.heap.size o o' w w') (hf : ∀ b, b < w.heap.size → o b = 0) : Below w.heap.size w w' := u.below (Nat.le_refl _) (fun b hb e => by rw [hf b hb] at e; omega)
set_option maxRecDepth 100000 in
set_option maxHeartbeats 2000000 in
theorem played_any (m : Nat) (hm : 3 ≤ m ∧ m ≤ 64) (A : Option Addr) (cap : Nat) (l : List A7) (w : World) (h : Acs7 w A l) :
    Calls Try.prog 16 #[.int .i64 m, .slice A l.length cap] w fun e w' => ∃ p o', e = .returned (nv p) ∧ NT w.heap.size w' o' p m (playL (l.take 300)) ∧ UpB w.heap.size zo o' w w' := by
  have HA := Lib.hid h
  have HNW := Lib.hid (NT.made m w zo (zo_fb w) hm)
  clear h
  unfold nv at HNW
  go_enter Try.func16, Try.ntmps16
  go_wp2_with (go_at_call 21; refine HNW.out.mono ?_; rintro e w1 ⟨p, o1, rfl, hn1, hu1⟩)
  have HN1 := Lib.hid hn1
  have HU1 := Lib.hid hu1
  clear hn1 hu1 HNW
  go_loopw [6] (fun t6 wr => ∃ i : Nat, i ≤ l.length ∧ i ≤ 300 ∧ t6 = .int .i64 i ∧ Hid (∃ o', NT w.heap.size wr o' p m (playL (l.take i)) ∧ UpB w.heap.size zo o' w wr)) (fun t6 _ => l.length - (intOf t6).toNat)
  case atStart => exact ⟨0, Nat.zero_le _, by omega, rfl, Lib.hid ⟨o1, HN1.out, HU1.out⟩⟩
  case round =>
    obtain ⟨i, hi1, hi2, rfl, HI⟩ := hrel
    obtain ⟨o2, hn2, hu2⟩ := HI.out
    by_cases hc : i < l.length ∧ i < 300
    · obtain ⟨h1, h2⟩ := hc
      have g1 : (i : Int) < (l.length : Int) := by omega
      have g2 : (i : Int) < 300 := by omega
      obtain ⟨ad, rfl, hcell⟩ := (HA.out.below (UpB.bel hu2 (fun _ _ => rfl))).2.2 (by omega)
      obtain ⟨c1, c2', c3'⟩ := hcell i h1
      have c2 := fld_cell (d := 1) (by decide) c2'
      have c3 := fld_cell (d := 2) (by decide) c3'
      clear c2' c3'
      have hlen := playL_len l i
      have HSC := Lib.hid (playL_succ h1)
      have HU2 := Lib.hid hu2
      by_cases hk : l[i].kd = 2
      · have HD := Lib.hid (hn2.drop hm l[i].nm (by omega))
        have HE := Lib.hid (show actL (playL (l.take i)) l[i] = delL kct l[i].nm (playL (l.take i)) from if_pos hk)
        rw [hk] at c1
        unfold nv kv at HD
        clear hn2 hu2 hcell hk c3
        go_wp2_with (go_at_call 23; refine HD.out.mono ?_; rintro e w3 ⟨o3, hu3, hn3, rfl⟩)
        go_roundw
        case measure => simp [intOf]; omega
        case rel => exact ⟨i + 1, by omega, by omega, by simp, Lib.hid ⟨o3, by rw [HSC.out, HE.out]; exact hn3, HU2.out.trans (zo_fb w) hu3⟩⟩
      · have HD := Lib.hid (hn2.put hm l[i].nm l[i].v (by omega))
        have HE := Lib.hid (show actL (playL (l.take i)) l[i] = insL kct l[i].nm l[i].v (playL (l.take i)) from if_neg hk)
        have hD2 := fun n => (hn2.drewN n).put hm l[i].nm l[i].v (by omega)
        have HD2 := Lib.hid hD2
        unfold nv kv at HD HD2
        clear hn2 hu2 hcell hD2
        generalize l[i].kd = kd at c1 hk
        go_wp2_with fail
        go_region_law (go_simp; go_at_call 22; refine (HD2.out 1).mono ?_; rintro e w3 ⟨o3, hu3, hn3, rfl⟩)
        all_goals
          go_wp2_with fail
          go_roundw
          case measure => simp [intOf]; omega
          case rel => exact ⟨i + 1, by omega, by omega, by simp, Lib.hid ⟨o3, by rw [HSC.out, HE.out]; exact hn3, HU2.out.trans (zo_fb w) (Up.drew hu3)⟩⟩
    · have e1 : l.take i = l.take 300 := by
        by_cases h1 : i < l.length
        · rw [show i = 300 from by omega]
        · rw [List.take_of_length_le (by omega), List.take_of_length_le (by omega)]
      rw [e1] at hn2
      have HF := Lib.hid (And.intro hn2 hu2)
      clear hn2 hu2 e1
      by_cases h1 : i < l.length
      · have g1 : (i : Int) < (l.length : Int) := by omega
        have g2 : ¬ (i : Int) < 300 := by omega
        go_wp2_with fail
        go_ret
        exact ⟨p, rfl, o2, HF.out.1, HF.out.2⟩
      · have g1 : ¬ (i : Int) < (l.length : Int) := by omega
        go_wp2_with fail
        go_ret
        exact ⟨p, rfl, o2, HF.out.1, HF.out.2⟩
end Go.Proofs.Ytfhonfeopkhdeaa.BS

namespace Go.Proofs.Ytfhonfeopkhdeaa.BS
open Go.RowKit Go.Proofs.YtfhonfeopkhdeaaW.PrintWords

theorem deep_len {m : Nat} : ∀ {h lo hi : Nat} {t : BT Ky h}, OkT m h lo hi t → (lo + 1) * (m / 2 + 1) ^ h ≤ (toL h t).length + 1
  | 0, lo, hi, t, ho => by
    have := ho.1
    show (lo + 1) * 1 ≤ t.its.length + 1
    omega
  | h + 1, lo, hi, t, ho => by
    have hk : t.kds.length = t.its.length + 1 := ho.2.1
    have hs : ∀ l : List (BT Ky h), (∀ c ∈ l, OkT m h (m / 2) m c) → l.length * (m / 2 + 1) ^ (h + 1) ≤ (l.map fun c => (toL h c).length).sum + l.length := fun l hl => by
      induction l with
      | nil => simp
      | cons c l ih =>
        have h1 := deep_len (hl c List.mem_cons_self)
        have h2 := ih (fun d hd => hl d (List.mem_cons_of_mem _ hd))
        rw [List.map_cons, List.sum_cons, List.length_cons, Nat.add_mul, Nat.one_mul]
        have h3 : (m / 2 + 1) * (m / 2 + 1) ^ h = (m / 2 + 1) ^ (h + 1) := by rw [Nat.pow_succ, Nat.mul_comm]
        omega
    have h1 := hs t.kds ho.2.2
    rw [toL_len ho]
    have h2 : (lo + 1) * (m / 2 + 1) ^ (h + 1) ≤ t.kds.length * (m / 2 + 1) ^ (h + 1) := Nat.mul_le_mul_right _ (by have := ho.1.1; omega)
    omega
theorem nodesL_lv : (h : Nat) → (t : BT Ky h) → (lv : Nat) → ∀ x ∈ nodesL h t lv, lv ≤ x.lv ∧ x.lv ≤ lv + h
  | 0, _, lv, x, hx => by
    rw [List.mem_singleton.1 hx]
    exact ⟨Nat.le_refl _, by show lv ≤ lv + 0; omega⟩
  | h + 1, t, lv, x, hx => by
    rcases List.mem_cons.1 hx with rfl | hx
    · exact ⟨Nat.le_refl _, by show lv ≤ lv + (h + 1); omega⟩
    · obtain ⟨c, _, hc⟩ := List.mem_flatMap.1 hx
      have := nodesL_lv h c (lv + 1) x hc
      omega
theorem NT.len {base : Nat} {w : World} {o : Nat → Nat} {p m : Nat} {L : List (Ky × Int)} (T : NT base w o p m L) :
    Calls Try.prog 20 #[nv p] w fun e w' => e = .returned (.int .i64 L.length) ∧ w' = w := by
  obtain ⟨h, t, M, b, rfl⟩ := T
  have HGD := Lib.hid (good_any p m _ _ w o b.at_)
  obtain ⟨-, p1, -, -, -⟩ := b.at_.cells
  clear b
  unfold nv at *
  go_enter Try.func20, Try.ntmps20
  go_wp2_with (go_at_call 47; refine HGD.out.mono ?_; rintro e w' ⟨rfl, e2⟩; rw [e2]; clear e2 w')
  go_ret
  exact ⟨rfl, rfl⟩
/-- No level lies above the bound. -/
theorem depth_ok {m h b : Nat} {t : BT Ky h} (hm : 3 ≤ m) (ho : OkT m h (min h 1) m t) (hb : (toL h t).length / (m / 2 + 1) < (m / 2 + 1) ^ b) : h ≤ b + 1 := by
  by_cases hh : h ≤ b + 1
  · exact hh
  · exfalso
    have h1 := deep_len ho
    rw [show min h 1 = 1 from by omega] at h1
    generalize hB : m / 2 + 1 = B at h1 hb
    have hB2 : 2 ≤ B := by omega
    have h2 : B ^ (b + 1) ≤ B ^ h := Nat.pow_le_pow_right (by omega) (by omega)
    have h3 : (toL h t).length < B ^ b * B := (Nat.div_lt_iff_lt_mul (by omega)).1 hb
    rw [← Nat.pow_succ] at h3
    have h4 : 0 < B ^ (b + 1) := Nat.pow_pos (by omega)
    have e5 : B ^ b.succ = B ^ (b + 1) := rfl
    rw [e5] at h3
    omega
theorem nodesT_len {m h : Nat} {t : BT Ky h} (hm : 3 ≤ m) (ho : OkT m h (min h 1) m t) : (nodesT h t).length ≤ (toL h t).length + 1 := by
  unfold nodesT
  split
  · exact Nat.zero_le _
  · rw [nodesL_len]
    exact (ids_le (by omega) ho).1
theorem nodesT_lv {h : Nat} {t : BT Ky h} {x : Nt} (hx : x ∈ nodesT h t) : x.lv ≤ h := by
  unfold nodesT at hx
  split at hx
  · cases hx
  · have := nodesL_lv h t 0 x hx
    omega
end Go.Proofs.Ytfhonfeopkhdeaa.BS

namespace Go.Proofs.Ytfhonfeopkhdeaa.BS
open Go.RowKit Go.Proofs.YtfhonfeopkhdeaaW.PrintWords

theorem nodesL_cons (h : Nat) (t : BT Ky h) (lv : Nat) : ∃ R, nodesL h t lv = ⟨lv, decide (h = 0), t.its.map (·.1)⟩ :: R := by
  cases h with
  | zero => exact ⟨[], rfl⟩
  | succ h => exact ⟨_, rfl⟩
/-- The counts and levels of what comes behind the first. -/
theorem nodesL_rest {m : Nat} : ∀ {h lo hi : Nat} {t : BT Ky h} {lv : Nat} {x : Nt} {R : List Nt}, OkT m h lo hi t → nodesL h t lv = x :: R → ∀ y ∈ R, m / 2 ≤ y.ks.length ∧ y.ks.length ≤ m ∧ lv < y.lv
  | 0, lo, hi, t, lv, x, R, ho, he, y, hy => by
    have : R = [] := by
      have h1 : nodesL 0 t lv = [⟨lv, true, t.its.map (·.1)⟩] := rfl
      rw [h1] at he
      exact (List.cons.inj he).2.symm
    rw [this] at hy
    cases hy
  | h + 1, lo, hi, t, lv, x, R, ho, he, y, hy => by
    have h1 : nodesL (h + 1) t lv = ⟨lv, false, t.its.map (·.1)⟩ :: t.kds.flatMap (fun c => nodesL h c (lv + 1)) := rfl
    rw [h1] at he
    rw [← (List.cons.inj he).2] at hy
    obtain ⟨c, hc, hyc⟩ := List.mem_flatMap.1 hy
    have hok := ho.2.2 c hc
    obtain ⟨R', hR⟩ := nodesL_cons h c (lv + 1)
    rw [hR] at hyc
    rcases List.mem_cons.1 hyc with rfl | hyc
    · have := hok.len
      refine ⟨?_, ?_, ?_⟩
      · show m / 2 ≤ (c.its.map _).length; rw [List.length_map]; exact this.1
      · show (c.its.map _).length ≤ m; rw [List.length_map]; exact this.2
      · show lv < lv + 1; omega
    · have := nodesL_rest hok hR y hyc
      exact ⟨this.1, this.2.1, by omega⟩
/-- Each level is at most one more than the one ahead. -/
def Stp : Nat → List Nt → Prop
  | _, [] => True
  | p, x :: l => x.lv ≤ p + 1 ∧ Stp x.lv l
theorem Stp.append {B : List Nt} {b : Nat} (hB : ∀ q, b ≤ q → Stp q B) : ∀ {A : List Nt} {p : Nat}, Stp p A → b ≤ p → (∀ a ∈ A, b ≤ a.lv) → Stp p (A ++ B)
  | [], p, _, hp, _ => hB p hp
  | a :: _A, _p, h, _hp, ha => ⟨h.1, Stp.append hB h.2 (ha a List.mem_cons_self) (fun x hx => ha x (List.mem_cons_of_mem _ hx))⟩
theorem nodesL_stp : ∀ (h : Nat) (t : BT Ky h) (lv p : Nat), lv ≤ p + 1 → Stp p (nodesL h t lv)
  | 0, t, lv, p, hp => ⟨hp, trivial⟩
  | h + 1, t, lv, p, hp => by
    have gen : ∀ (cs : List (BT Ky h)) (q : Nat), lv ≤ q → Stp q (cs.flatMap (fun c => nodesL h c (lv + 1))) := fun cs => by
      induction cs with
      | nil => intro q _; trivial
      | cons c cs ih =>
        intro q hq
        rw [List.flatMap_cons]
        refine Stp.append ih (nodesL_stp h c (lv + 1) q (by omega)) hq fun a ha => ?_
        have := nodesL_lv h c (lv + 1) a ha
        omega
    exact ⟨hp, gen t.kds lv (Nat.le_refl _)⟩
theorem Stp.get : ∀ {l : List Nt} {p i : Nat} (_ : Stp p l) (hi : i + 1 < l.length), l[i + 1].lv ≤ l[i].lv + 1
  | a :: b :: l, p, 0, h, hi => h.2.1
  | a :: l, p, i + 1, h, hi => by
    have := Stp.get h.2 (i := i) (by simpa using hi)
    exact this
  | [a], p, 0, h, hi => by simp at hi
theorem nodesL_leaf : ∀ (h : Nat) (t : BT Ky h) (lv : Nat), ∀ x ∈ nodesL h t lv, x.lf = decide (x.lv = lv + h)
  | 0, t, lv, x, hx => by
    rw [List.mem_singleton.1 hx]
    simp
  | h + 1, t, lv, x, hx => by
    rcases List.mem_cons.1 hx with rfl | hx
    · simp
    · obtain ⟨c, _, hc⟩ := List.mem_flatMap.1 hx
      rw [nodesL_leaf h c (lv + 1) x hc]
      congr 1
      exact propext ⟨fun e => by omega, fun e => by omega⟩
theorem weave_kid {β : Type} : ∀ (I : List β) (C : List (List β)), C.length = I.length + 1 → ∀ c ∈ C, c.Sublist (weave I C)
  | [], [], h, c, hc => by cases hc
  | [], [d], _, c, hc => by
    rw [List.mem_singleton.1 hc]
    simp [weave]
  | [], _ :: _ :: _, h, c, hc => by simp at h
  | _ :: _, [], h, c, hc => by simp at h
  | a :: I, d :: C, h, c, hc => by
    show c.Sublist (d ++ a :: weave I C)
    rcases List.mem_cons.1 hc with rfl | hc
    · exact List.sublist_append_left _ _
    · exact ((weave_kid I C (by simpa using h) c hc).trans (List.sublist_cons_self _ _)).trans (List.sublist_append_right _ _)
/-- The keys of a node are some of the tree's, in order. -/
theorem nodesL_keys {m : Nat} : ∀ {h lo hi : Nat} {t : BT Ky h} (lv : Nat), OkT m h lo hi t → ∀ x ∈ nodesL h t lv, ∃ I : List (Ky × Int), x.ks = I.map (·.1) ∧ I.Sublist (toL h t)
  | 0, lo, hi, t, lv, ho, x, hx => by
    rw [List.mem_singleton.1 hx]
    exact ⟨t.its, rfl, its_sub ho⟩
  | h + 1, lo, hi, t, lv, ho, x, hx => by
    rcases List.mem_cons.1 hx with rfl | hx
    · exact ⟨t.its, rfl, its_sub ho⟩
    · obtain ⟨c, hcm, hc⟩ := List.mem_flatMap.1 hx
      obtain ⟨I, h1, h2⟩ := nodesL_keys (lv + 1) (ho.2.2 c hcm) x hc
      exact ⟨I, h1, h2.trans (weave_kid _ _ (by rw [List.length_map]; exact ho.kids) _ (List.mem_map_of_mem hcm))⟩
theorem nodesL_total {m : Nat} : ∀ {h lo hi : Nat} {t : BT Ky h} (lv : Nat), OkT m h lo hi t → ((nodesL h t lv).map fun x => x.ks.length).sum = (toL h t).length
  | 0, lo, hi, t, lv, ho => by
    show ([(t.its.map (·.1)).length] : List Nat).sum = t.its.length
    simp
  | h + 1, lo, hi, t, lv, ho => by
    have gen : ∀ (cs : List (BT Ky h)), (∀ c ∈ cs, OkT m h (m / 2) m c) → ((cs.flatMap (fun c => nodesL h c (lv + 1))).map fun x => x.ks.length).sum = (cs.map fun c => (toL h c).length).sum := fun cs => by
      induction cs with
      | nil => intro _; rfl
      | cons c cs ih =>
        intro hc
        rw [List.flatMap_cons, List.map_append, List.sum_append, ih (fun d hd => hc d (List.mem_cons_of_mem _ hd)), nodesL_total (lv + 1) (hc c List.mem_cons_self), List.map_cons, List.sum_cons]
    rw [toL_len ho]
    show ((t.its.map (·.1)).length + ((t.kds.flatMap (fun c => nodesL h c (lv + 1))).map fun x => x.ks.length).sum) = _
    rw [gen t.kds ho.2.2, List.length_map]
theorem getL_mem {l : List (Ky × Int)} (hs : SortedL kct l) {a : Ky × Int} (ha : a ∈ l) : (getL kct a.1 l).isSome = true := by
  obtain ⟨A, B, rfl⟩ := List.append_of_mem ha
  have h0 : kc kct a.1 a.1 = 0 := cmpL_self _
  rw [getL_at (lo_before hs (by omega)) h0]
  rfl
/-- What the shape law asks of the nodes that are told. -/
structure ShOk (m h : Nat) (L : List (Ky × Int)) (N : List Nt) : Prop where
  cnt : ∀ i (hi : i < N.length), 1 ≤ N[i].ks.length ∧ N[i].ks.length ≤ m ∧ (0 < i → m / 2 ≤ N[i].ks.length)
  lv0 : ∀ i (hi : i < N.length), (i = 0 ↔ N[i].lv = 0)
  stp : ∀ i (hi : i + 1 < N.length), N[i + 1].lv ≤ N[i].lv + 1
  leaf : ∀ i (hi : i < N.length), N[i].lf = decide (N[i].lv = h)
  keys : ∀ i (hi : i < N.length), ∀ k ∈ N[i].ks, (getL kct k L).isSome = true
  rise : ∀ i (hi : i < N.length), N[i].ks.Pairwise fun a b => kc kct a b < 0
  tot : (N.map fun x => x.ks.length).sum = L.length
  has : 0 < N.length ↔ 0 < L.length
theorem nodesT_ok {m h : Nat} {t : BT Ky h} (hm : 3 ≤ m) (ho : OkT m h (min h 1) m t) (hs : SortedL kct (toL h t)) : ShOk m h (toL h t) (nodesT h t) := by
  unfold nodesT
  split
  · next hz =>
    refine ⟨fun i hi => ?_, fun i hi => ?_, fun i hi => ?_, fun i hi => ?_, fun i hi => ?_, fun i hi => ?_, ?_, ?_⟩
    all_goals first | (simp at hi; done) | (rw [hz]; simp)
  · next hz =>
    obtain ⟨R, hR⟩ := nodesL_cons h t 0
    have hrest := nodesL_rest ho hR
    have hstp := nodesL_stp h t 0 0 (by omega)
    have hlf := nodesL_leaf h t 0
    have hks := nodesL_keys 0 ho
    have htot := nodesL_total 0 ho
    have hlen := ho.len
    have h1 : 1 ≤ t.its.length := by
      cases h with
      | zero =>
        have e : (toL 0 t).length = t.its.length := rfl
        omega
      | succ h => omega
    refine ⟨fun i hi => ?_, fun i hi => ?_, fun i hi => hstp.get hi, fun i hi => ?_, fun i hi k hk => ?_, fun i hi => ?_, htot, ?_⟩
    · cases i with
      | zero =>
        simp only [hR, List.getElem_cons_zero, List.length_map]
        exact ⟨h1, hlen.2, fun e => by omega⟩
      | succ i =>
        simp only [hR, List.getElem_cons_succ]
        have := hrest (R[i]'(by rw [hR] at hi; simpa using hi)) (List.getElem_mem _)
        exact ⟨by omega, this.2.1, fun _ => this.1⟩
    · cases i with
      | zero =>
        simp only [hR, List.getElem_cons_zero]
      | succ i =>
        simp only [hR, List.getElem_cons_succ]
        have := hrest (R[i]'(by rw [hR] at hi; simpa using hi)) (List.getElem_mem _)
        exact ⟨fun e => by omega, fun e => by omega⟩
    · have := hlf _ (List.getElem_mem hi)
      rw [this]
      simp
    · obtain ⟨I, e1, e2⟩ := hks _ (List.getElem_mem hi)
      rw [e1] at hk
      obtain ⟨a, ha, rfl⟩ := List.mem_map.1 hk
      exact getL_mem hs (e2.subset ha)
    · obtain ⟨I, e1, e2⟩ := hks _ (List.getElem_mem hi)
      rw [e1]
      exact List.pairwise_map.2 (hs.sublist e2)
    · rw [hR]
      simp
      omega
end Go.Proofs.Ytfhonfeopkhdeaa.BS
