/-
  Trees of names by the list of what they hold; the examples of layer 7 (slabvaultlaw07.lives). No premise.
-/
import Derived.Test.YtfhonfeopkhdeaaBtNwS
namespace Go.Proofs.Ytfhonfeopkhdeaa.BS
open Go.RowKit Go.Proofs.YtfhonfeopkhdeaaW.PrintWords

theorem name_eq {k k' : Ky} (e : kct k' = kct k) : k' = k := byI_inj e
/-- A tree of names that holds L. -/
def NT (base : Nat) (w : World) (o : Nat → Nat) (p m : Nat) (L : List (Ky × Int)) : Prop := ∃ (h : Nat) (t : BT Ky h) (M : Nat → Option (Nf Ky)), Bm base w o p m h t M ∧ toL h t = L
theorem NT.fb {base : Nat} {w : World} {o : Nat → Nat} {p m : Nat} {L : List (Ky × Int)} (T : NT base w o p m L) : Fb o w := by
  obtain ⟨h, t, M, b, _⟩ := T
  exact b.fb
theorem NT.ss {base : Nat} {w : World} {o : Nat → Nat} {p m : Nat} {L : List (Ky × Int)} (T : NT base w o p m L) : SortedL kct L := by
  obtain ⟨h, t, M, b, rfl⟩ := T
  exact b.tm.ss
def zo : Nat → Nat := fun _ => 0
theorem zo_fb (w : World) : Fb zo w := ⟨fun _ _ => rfl, fun _ => by show 0 < _; omega⟩
theorem NT.new {w : World} {o : Nat → Nat} (hf : Fb o w) {m : Nat} (hm : 3 ≤ m ∧ m ≤ 64) : NT w.heap.size (newW w m) (tgm o w.heap.size) (w.heap.size + 1) m [] ∧ UpB w.heap.size o (tgm o w.heap.size) w (newW w m) := by
  obtain ⟨h1, h2⟩ := new_bm hf hm
  exact ⟨⟨0, _, _, h1, rfl⟩, h2⟩
def full (L : List (Ky × Int)) (k : Ky) : Prop := getL kct k L = none ∧ L.length = 65536
theorem NT.put {base : Nat} {w : World} {o : Nat → Nat} {p m : Nat} {L : List (Ky × Int)} (T : NT base w o p m L) (hm : 3 ≤ m ∧ m ≤ 64) (k : Ky) (v : Int) (hl : L.length < 65536) :
    Calls Try.prog 22 #[nv p, kv k, .int .u64 v] w fun e w' => ∃ o', UpB base o o' w w' ∧ NT base w' o' p m (insL kct k v L) ∧ e = .returned (.tuple #[.bool (getL kct k L).isNone, .int .i64 0]) := by
  obtain ⟨h, t, M, b, rfl⟩ := T
  refine (Put_any base p m h t k v w o M b hm trivial (by omega)).mono ?_
  rintro e w' ⟨h', t', o', M', hb, hu, h1 | ⟨_, rfl, k', hk, h2⟩⟩
  · have := h1.1.2; omega
  · rw [name_eq hk] at h2
    exact ⟨o', hu, ⟨h', t', M', hb, h2⟩, rfl⟩
theorem NT.put_full {base : Nat} {w : World} {o : Nat → Nat} {p m : Nat} {L : List (Ky × Int)} (T : NT base w o p m L) (hm : 3 ≤ m ∧ m ≤ 64) (k : Ky) (v : Int) (hl : L.length = 65536) (hg : getL kct k L = none) :
    Calls Try.prog 22 #[nv p, kv k, .int .u64 v] w fun e w' => ∃ o', UpB base o o' w w' ∧ NT base w' o' p m L ∧ e = .returned (.tuple #[.bool false, .int .i64 7]) := by
  obtain ⟨h, t, M, b, rfl⟩ := T
  refine (Put_any base p m h t k v w o M b hm trivial (by omega)).mono ?_
  rintro e w' ⟨h', t', o', M', hb, hu, ⟨_, rfl, h1⟩ | ⟨h2, _⟩⟩
  · exact ⟨o', hu, ⟨h', t', M', hb, h1⟩, rfl⟩
  · exact absurd ⟨hg, hl⟩ h2
theorem NT.get {base : Nat} {w : World} {o : Nat → Nat} {p m : Nat} {L : List (Ky × Int)} (T : NT base w o p m L) (hm : 3 ≤ m ∧ m ≤ 64) (k : Ky) :
    Calls Try.prog 19 #[nv p, kv k] w (GetP (getL kct k L) w) := by
  obtain ⟨h, t, M, b, rfl⟩ := T
  exact get_any p m _ h _ _ t k w o M b.at_ b.tm (by omega) trivial
theorem NT.drewN {base : Nat} {w : World} {o : Nat → Nat} {p m : Nat} {L : List (Ky × Int)} (T : NT base w o p m L) (n : Nat) : NT base (w.drewN n) o p m L := by
  obtain ⟨h, t, M, b, rfl⟩ := T
  exact ⟨h, t, M, ⟨b.at_.drewN n, b.fb.drewN n, b.tm.drewN n, b.nd, b.bp, b.bn⟩, rfl⟩
theorem ntR_at : ∀ (l : List (Nt × Value)) (i : Nat) (hi : i < l.length), (ntR l)[i * 3]? = some (.int .i64 l[i].1.lv) ∧ (ntR l)[i * 3 + 1]? = some (.bool l[i].1.lf) ∧ (ntR l)[i * 3 + 2]? = some l[i].2
  | [], _, h => by simp at h
  | a :: l, 0, _ => ⟨rfl, rfl, rfl⟩
  | a :: l, i + 1, h => by
    have := ntR_at l i (by simpa using h)
    have e : ∀ j, (ntR (a :: l))[j + 3]? = (ntR l)[j]? := fun j => by
      show (ntC a ++ ntR l)[j + 3]? = _
      rw [List.getElem?_append_right (by show 3 ≤ j + 3; omega)]
      rfl
    rw [show (i + 1) * 3 = i * 3 + 3 from by omega, show i * 3 + 3 + 1 = (i * 3 + 1) + 3 from by omega, show i * 3 + 3 + 2 = (i * 3 + 2) + 3 from by omega, e, e, e]
    exact this
/-- The cells of a row of nodes. -/
theorem NsO.cells {w : World} {base : Nat} {v : Value} {l : List (Nt × Value)} (h : NsO w base v l) : ∃ A c, v = .slice A l.length c ∧ l.length ≤ c ∧ (0 < l.length → ∃ g, A = some ⟨g, 0, none⟩ ∧ base ≤ g ∧ g < w.heap.size ∧ ∀ i (hi : i < l.length), w.cell? ⟨g, i * 3, none⟩ = some (.int .i64 l[i].1.lv) ∧ w.cell? ⟨g, i * 3 + 1, none⟩ = some (.bool l[i].1.lf) ∧ w.cell? ⟨g, i * 3 + 2, none⟩ = some l[i].2) := by
  rcases h.own.2 with ⟨rfl, hn⟩ | ⟨g, cap, cur, rfl, hb, hg, hnc, _, hcs, htk⟩
  · exact ⟨none, 0, by rw [hn], by omega, fun h0 => by omega⟩
  · refine ⟨_, cap, rfl, hnc, fun _ => ⟨g, rfl, hb, blk_lt hg, fun i hi => ?_⟩⟩
    obtain ⟨h0, h1, h2⟩ := ntR_at l i hi
    have hc : ∀ j u, j < l.length * 3 → (ntR l)[j]? = some u → w.cell? ⟨g, j, none⟩ = some u := fun j u hj hu => by
      rw [← htk, List.getElem?_take_of_lt hj] at hu
      rw [blk_cell hg]
      rw [Array.getElem?_toList] at hu
      exact hu
    exact ⟨hc _ _ (by omega) h0, hc _ _ (by omega) h1, hc _ _ (by omega) h2⟩
theorem NT.made (m : Nat) (w : World) (o : Nat → Nat) (hf : Fb o w) (hm : 3 ≤ m ∧ m ≤ 64) : Calls Try.prog 21 #[.int .i64 m] w fun e w' => ∃ p o', e = .returned (nv p) ∧ NT w.heap.size w' o' p m [] ∧ UpB w.heap.size o o' w w' := by
  obtain ⟨h1, h2⟩ := NT.new hf hm
  refine (made_ok m w hm).mono ?_
  rintro e w' ⟨rfl, rfl⟩
  exact ⟨_, _, rfl, h1, h2⟩
/-- Two keys lie in the root alone. -/
theorem two_root {m h : Nat} {t : BT Ky h} (hm : 2 ≤ m) (ho : OkT m h (min h 1) m t) (hl : (toL h t).length ≤ 2) : h = 0 := by
  cases h with
  | zero => rfl
  | succ h =>
    exfalso
    have h1 := toL_len ho
    have hk : t.kds.length = t.its.length + 1 := ho.2.1
    have hlo : min (h + 1) 1 ≤ t.its.length := ho.1.1
    have h2 := sum_le t.kds (f := fun _ => 1) (g := fun c => (toL h c).length) (fun c hc => by
      have h3 := (ho.2.2 c hc).len.1
      have h4 := (its_sub (ho.2.2 c hc)).length_le
      omega)
    have h3 : ∀ l : List (BT Ky h), (l.map fun _ => 1).sum = l.length := fun l => by
      induction l with
      | nil => rfl
      | cons a l ih => rw [List.map_cons, List.sum_cons, ih, List.length_cons]; omega
    have := h3 t.kds
    omega
theorem liveL : insL kct (⟨#[97]⟩ : ByteArray) 7 (insL kct (⟨#[98]⟩ : ByteArray) 2 (insL kct (⟨#[97]⟩ : ByteArray) 1 [])) = [((⟨#[97]⟩ : ByteArray), 7), ((⟨#[98]⟩ : ByteArray), 2)] := by decide +kernel
theorem liveG : getL kct (⟨#[97]⟩ : ByteArray) (insL kct (⟨#[98]⟩ : ByteArray) 2 (insL kct (⟨#[97]⟩ : ByteArray) 1 [])) = some 1 := by decide +kernel
set_option maxRecDepth 100000 in
set_option maxHeartbeats 2000000 in
theorem lives07 (w : World) : Calls Try.prog 15 #[] w fun e w' => e = .returned (.bool true) ∧ Below w.heap.size w w' := by
  have g1 : (getL kct (⟨#[97]⟩ : ByteArray) []).isNone = true := rfl
  have g2 : (getL kct (⟨#[98]⟩ : ByteArray) (insL kct (⟨#[97]⟩ : ByteArray) 1 [])).isNone = true := by decide +kernel
  have g3 : (getL kct (⟨#[97]⟩ : ByteArray) (insL kct (⟨#[98]⟩ : ByteArray) 2 (insL kct (⟨#[97]⟩ : ByteArray) 1 []))).isNone = false := by rw [liveG]; rfl
  have n1 : (insL kct (⟨#[97]⟩ : ByteArray) 1 []).length < 65536 := by show 1 < 65536; omega
  have n2 : (insL kct (⟨#[98]⟩ : ByteArray) 2 (insL kct (⟨#[97]⟩ : ByteArray) 1 [])).length < 65536 := by decide +kernel
  have G1 := Lib.hid g1
  have G2 := Lib.hid g2
  have G3 := Lib.hid g3
  have N1 := Lib.hid n1
  have N2 := Lib.hid n2
  clear g1 g2 g3 n1 n2
  have h3 := NT.made 3 w zo (zo_fb w) (by omega)
  have e3 : ((3 : Nat) : Int) = 3 := rfl
  rw [e3] at h3
  have HNW := Lib.hid h3
  clear h3 e3
  go_enter Try.func15, Try.ntmps15
  go_wp2_with fail
  refine HNW.out.mono ?_
  rintro e w1 ⟨p, o1, rfl, hn1, hu1⟩
  have HN1 := Lib.hid hn1
  have HU1 := Lib.hid hu1
  have h4 := hn1.put (by omega) ⟨#[97]⟩ 1 (by show 0 < 65536; omega)
  rw [G1.out] at h4
  have HP1 := Lib.hid h4
  clear hn1 hu1 h4
  unfold nv kv at *
  go_wp2_with fail
  refine HP1.out.mono ?_
  rintro e w2 ⟨o2, hu2, hn2, rfl⟩
  have HU2 := Lib.hid (HU1.out.trans (zo_fb w) hu2)
  have h4 := hn2.put (by omega) ⟨#[98]⟩ 2 N1.out
  rw [G2.out] at h4
  have HP2 := Lib.hid h4
  clear hn2 hu2 h4
  unfold nv kv at *
  go_wp2_with fail
  refine HP2.out.mono ?_
  rintro e w3 ⟨o3, hu3, hn3, rfl⟩
  have HU3 := Lib.hid (HU2.out.trans (zo_fb w) hu3)
  have h4 := hn3.put (by omega) ⟨#[97]⟩ 7 N2.out
  rw [G3.out, liveL] at h4
  have HP3 := Lib.hid h4
  clear hn3 hu3 h4
  unfold nv kv at *
  go_wp2_with fail
  refine HP3.out.mono ?_
  rintro e w4 ⟨o4, hu4, hn4, rfl⟩
  have HU4 := Lib.hid (HU3.out.trans (zo_fb w) hu4)
  have h4 := hn4.get (by omega) ⟨#[97]⟩
  have HN4 := Lib.hid hn4
  clear hn4 hu4
  have hg : getL kct (⟨#[97]⟩ : ByteArray) [((⟨#[97]⟩ : ByteArray), 7), ((⟨#[98]⟩ : ByteArray), 2)] = some 7 := by decide +kernel
  rw [hg] at h4
  have HP4 := Lib.hid h4
  clear h4 hg
  unfold nv kv at *
  go_wp2_with fail
  refine HP4.out.mono ?_
  rintro e w5 ⟨rfl, mq, rfl⟩
  obtain ⟨h, t, M, b, ht⟩ := (HN4.out.drewN mq)
  have h5 := Nodes_any _ p 3 h t _ o4 M b (by omega) (by rw [ht]; show 2 ≤ 65536; omega)
  obtain rfl := two_root (by omega) b.tm.ok (by rw [ht]; show 2 ≤ 2; omega)
  have hT : nodesT 0 t = [⟨0, true, [(⟨#[97]⟩ : ByteArray), (⟨#[98]⟩ : ByteArray)]⟩] := by
    unfold nodesT
    rw [if_neg (by rw [ht]; show ¬ 2 = 0; omega)]
    show [Nt.mk 0 true (t.its.map (·.1))] = _
    rw [show t.its = _ from ht]
    rfl
  rw [hT] at h5
  have HP5 := Lib.hid h5
  clear h5 hT b ht
  unfold nv at *
  go_wp2_with fail
  refine HP5.out.mono ?_
  rintro e w6 ⟨v6, l6, rfl, hn6, hm6, hb6⟩
  obtain ⟨x6, rfl⟩ : ∃ x, l6 = [x] := by
    have hl := congrArg List.length hm6
    rcases l6 with _ | ⟨x, _ | ⟨y, l6⟩⟩
    · simp at hl
    · exact ⟨x, rfl⟩
    · simp at hl
  obtain ⟨x, u⟩ := x6
  have hx : x = ⟨0, true, [(⟨#[97]⟩ : ByteArray), (⟨#[98]⟩ : ByteArray)]⟩ := by simpa using hm6
  subst hx
  obtain ⟨A6, c6, rfl, -, hc6⟩ := hn6.cells
  obtain ⟨g6, rfl, -, -, hc6⟩ := hc6 (by simp)
  obtain ⟨-, k1, k2⟩ := hc6 0 (by simp)
  obtain ⟨hu6, -⟩ := hn6.ks _ (List.mem_singleton.2 rfl)
  obtain ⟨Au, cu, eu, -⟩ := hu6.form
  simp only at eu
  subst eu
  have k3 : ksR [(⟨#[97]⟩ : ByteArray), (⟨#[98]⟩ : ByteArray)] = [.string ⟨#[97]⟩, .string ⟨#[98]⟩] := rfl
  simp only [List.getElem_cons_zero, k3, List.length_cons, List.length_nil, Nat.zero_mul, Nat.zero_add] at k1 k2 hc6
  have HB6 := Lib.hid (HU4.out.below (Nat.le_refl _) (fun b _ => by show ¬ _ ≤ 0; omega) |>.trans ((below_drewN w4 mq).mono HU4.out.size) |>.trans (hb6.mono HU4.out.size))
  have hbad := made_bad 2 w6 (by omega)
  have HBD := Lib.hid hbad
  clear hbad hc6 hm6 hn6 hu6 hb6 k3 HP1 HP2 HP3 HP4 HP5 HU1 HU2 HU3 HU4 HN1 HN4 HNW G1 G2 G3 N1 N2
  go_wp2_with (go_at_call 21; refine HBD.out.mono ?_; rintro e w7 ⟨rfl, e7⟩; rw [e7]; clear e7 w7)
  go_ret
  exact ⟨rfl, HB6.out⟩
end Go.Proofs.Ytfhonfeopkhdeaa.BS
