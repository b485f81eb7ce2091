/-
  Trees of coordinates by what they hold: contents in place of keys that lie somewhere. No premise.
-/
import Derived.Test.YtfhonfeopkhdeaaBtDoC
namespace Go.Proofs.Ytfhonfeopkhdeaa.BC
open Go.RowKit Go.Proofs.YtfhonfeopkhdeaaW.PrintWords

/-- Coordinates by themselves. -/
def idc (l : List Int) : List Int := l
/-- What a list of keys holds. -/
def cts (L : List (Ky × Int)) : List (List Int × Int) := L.map fun a => (a.1.l, a.2)
theorem cts_len (L : List (Ky × Int)) : (cts L).length = L.length := List.length_map _
theorem kc_cts (a b : Ky) : kc kct a b = kc idc a.l b.l := rfl
theorem sorted_cts {L : List (Ky × Int)} (h : SortedL kct L) : SortedL idc (cts L) := List.pairwise_map.2 h
theorem getL_cts (k : Ky) : ∀ L : List (Ky × Int), getL kct k L = getL idc k.l (cts L)
  | [] => rfl
  | a :: r => by
    show (if kc kct k a.1 < 0 then none else if kc kct k a.1 = 0 then some a.2 else getL kct k r) = (if kc idc k.l a.1.l < 0 then none else if kc idc k.l a.1.l = 0 then some a.2 else getL idc k.l (cts r))
    rw [getL_cts k r]
    rfl
theorem insL_cts (k : Ky) (v : Int) : ∀ L : List (Ky × Int), cts (insL kct k v L) = insL idc k.l v (cts L)
  | [] => rfl
  | a :: r => by
    have ih := insL_cts k v r
    have e : kc kct k a.1 = kc idc k.l a.1.l := rfl
    show cts (if kc kct k a.1 < 0 then (k, v) :: a :: r else if kc kct k a.1 = 0 then (a.1, v) :: r else a :: insL kct k v r) = (if kc idc k.l a.1.l < 0 then (k.l, v) :: (a.1.l, a.2) :: cts r else if kc idc k.l a.1.l = 0 then (a.1.l, v) :: cts r else (a.1.l, a.2) :: insL idc k.l v (cts r))
    rw [e]
    split
    · rfl
    · split
      · rfl
      · rw [← ih]
        rfl
theorem delL_cts (k : Ky) : ∀ L : List (Ky × Int), cts (delL kct k L) = delL idc k.l (cts L)
  | [] => rfl
  | a :: r => by
    have ih := delL_cts k r
    have e : kc kct k a.1 = kc idc k.l a.1.l := rfl
    show cts (if kc kct k a.1 < 0 then a :: r else if kc kct k a.1 = 0 then r else a :: delL kct k r) = (if kc idc k.l a.1.l < 0 then (a.1.l, a.2) :: cts r else if kc idc k.l a.1.l = 0 then cts r else (a.1.l, a.2) :: delL idc k.l (cts r))
    rw [e]
    split
    · rfl
    · split
      · rfl
      · rw [← ih]
        rfl
/-- A tree of coordinates that holds L. -/
def CT (base : Nat) (w : World) (o : Nat → Nat) (p m : Nat) (L : List (List Int × Int)) : Prop := ∃ (h : Nat) (t : BT Ky h) (M : Nat → Option (Nf Ky)), Bm base w o p m h t M ∧ cts (toL h t) = L
theorem CT.fb {base : Nat} {w : World} {o : Nat → Nat} {p m : Nat} {L : List (List Int × Int)} (T : CT base w o p m L) : Fb o w := by
  obtain ⟨h, t, M, b, _⟩ := T
  exact b.fb
theorem CT.ss {base : Nat} {w : World} {o : Nat → Nat} {p m : Nat} {L : List (List Int × Int)} (T : CT base w o p m L) : SortedL idc L := by
  obtain ⟨h, t, M, b, rfl⟩ := T
  exact sorted_cts b.tm.ss
theorem CT.keep {base : Nat} {w w' : World} {o : Nat → Nat} {p m : Nat} {L : List (List Int × Int)} (T : CT base w o p m L) (hs : w.heap.size ≤ w'.heap.size) (hk : ∀ b, b < w.heap.size → o b ≠ 0 → w'.heap[b]? = w.heap[b]?) : CT base w' o p m L := by
  obtain ⟨h, t, M, b, rfl⟩ := T
  refine ⟨h, t, M, ⟨⟨(hk p (blk_lt b.at_.blk) (by rw [b.at_.tg]; omega)).trans b.at_.blk, b.at_.tg⟩, b.fb.mono hs, ⟨fun n F hF => ?_, b.tm.tr, b.tm.ok, b.tm.le, b.tm.ss⟩, b.nd, b.bp, b.bn⟩, rfl⟩
  obtain ⟨vk, vv, vc, hn⟩ := b.tm.gm n F hF
  exact ⟨vk, vv, vc, hn.keep fun c hc ht => ⟨hk c hc (by omega), rfl⟩⟩
theorem CT.put {base : Nat} {w : World} {o : Nat → Nat} {p m : Nat} {L : List (List Int × Int)} (T : CT base w o p m L) (hm : 3 ≤ m ∧ m ≤ 64) (k : Ky) (hk : KRd w k) (v : Int) (hl : L.length < 65536) :
    Calls Try.prog 32 #[nv p, kv k, .int .u64 v] w fun e w' => ∃ o', UpB base o o' w w' ∧ CT base w' o' p m (insL idc k.l v L) ∧ e = .returned (.tuple #[.bool (getL idc k.l L).isNone, .int .i64 0]) := by
  obtain ⟨h, t, M, b, rfl⟩ := T
  rw [cts_len] at hl
  refine (Put_any base p m h t k v w o M b hm hk (by omega)).mono ?_
  rintro e w' ⟨h', t', o', M', hb, hu, h1 | ⟨_, rfl, k', hkk, h2⟩⟩
  · have := h1.1.2; omega
  · have hkl : k'.l = k.l := hkk
    refine ⟨o', hu, ⟨h', t', M', hb, ?_⟩, by rw [getL_cts]⟩
    rw [h2, insL_cts, hkl]
theorem CT.drop {base : Nat} {w : World} {o : Nat → Nat} {p m : Nat} {L : List (List Int × Int)} (T : CT base w o p m L) (hm : 3 ≤ m ∧ m ≤ 64) (k : Ky) (hk : KRd w k) (hl : L.length ≤ 65536) :
    Calls Try.prog 36 #[nv p, kv k] w fun e w' => ∃ o', UpB base o o' w w' ∧ CT base w' o' p m (delL idc k.l L) ∧ e = .returned (.bool (getL idc k.l L).isSome) := by
  obtain ⟨h, t, M, b, rfl⟩ := T
  rw [cts_len] at hl
  refine (Drop_any base p m h t k w o M b hm hk hl).mono ?_
  rintro e w' ⟨h', t', o', M', hb, hu, he, h2⟩
  exact ⟨o', hu, ⟨h', t', M', hb, by rw [h2, delL_cts]⟩, by rw [he, getL_cts]⟩
theorem CT.get {base : Nat} {w : World} {o : Nat → Nat} {p m : Nat} {L : List (List Int × Int)} (T : CT base w o p m L) (hm : 3 ≤ m ∧ m ≤ 64) (k : Ky) (hk : KRd w k) :
    Calls Try.prog 34 #[nv p, kv k] w (GetP (getL idc k.l L) w) := by
  obtain ⟨h, t, M, b, rfl⟩ := T
  rw [← getL_cts]
  exact get_any p m _ h _ _ t k w o M b.at_ b.tm (by omega) hk
theorem CT.made (m : Nat) (w : World) (o : Nat → Nat) (hf : Fb o w) (hm : 3 ≤ m ∧ m ≤ 64) : Calls Try.prog 31 #[.int .i64 m] w fun e w' => ∃ p o', e = .returned (nv p) ∧ CT w.heap.size w' o' p m [] ∧ UpB w.heap.size o o' w w' := by
  obtain ⟨h1, h2⟩ := new_bm hf hm
  refine (made_ok m w hm).mono ?_
  rintro e w' ⟨rfl, rfl⟩
  exact ⟨_, _, rfl, ⟨0, _, _, h1, rfl⟩, h2⟩
theorem CT.len {base : Nat} {w : World} {o : Nat → Nat} {p m : Nat} {L : List (List Int × Int)} (T : CT base w o p m L) :
    Calls Try.prog 43 #[nv p] w fun e w' => e = .returned (.int .i64 L.length) ∧ w' = w := by
  obtain ⟨h, t, M, b, rfl⟩ := T
  rw [cts_len]
  have HGD := Lib.hid (good_any p m _ _ w o b.at_)
  obtain ⟨-, p1, -, -, -⟩ := b.at_.cells
  clear b
  unfold nv at *
  go_enter Try.func43, Try.ntmps43
  go_wp2_with (go_at_call 63; refine HGD.out.mono ?_; rintro e w' ⟨rfl, e2⟩; rw [e2]; clear e2 w')
  go_ret
  exact ⟨rfl, rfl⟩
end Go.Proofs.Ytfhonfeopkhdeaa.BC
