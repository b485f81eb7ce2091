/-
  What BtreeMixed and BtreeNames want besides: a tree kept, its keys told, texts compared, lists told by what they hold, names among the arguments. No premise.
-/
import Derived.Test.YtfhonfeopkhdeaaBtKyS
import Derived.Test.YtfhonfeopkhdeaaBtPl
import Derived.SliceStrings
namespace Go.Proofs.Ytfhonfeopkhdeaa.BS
open Go.RowKit Go.Proofs.YtfhonfeopkhdeaaW.PrintWords

theorem NT.keep {base : Nat} {w w' : World} {o : Nat → Nat} {p m : Nat} {L : List (Ky × Int)} (T : NT base w o p m L) (hs : w.heap.size ≤ w'.heap.size) (hk : ∀ b, b < w.heap.size → o b ≠ 0 → w'.heap[b]? = w.heap[b]?) : NT base w' o p m L := by
  obtain ⟨h, t, M, b, rfl⟩ := T
  refine ⟨h, t, M, ⟨⟨(hk p (blk_lt b.at_.blk) (by rw [b.at_.tg]; omega)).trans b.at_.blk, b.at_.tg⟩, b.fb.mono hs, ⟨fun n F hF => ?_, b.tm.tr, b.tm.ok, b.tm.le, b.tm.ss⟩, b.nd, b.bp, b.bn⟩, rfl⟩
  obtain ⟨vk, vv, vc, hn⟩ := b.tm.gm n F hF
  exact ⟨vk, vv, vc, hn.keep fun c hc ht => ⟨hk c hc (by omega), rfl⟩⟩
theorem NT.keys {base : Nat} {w : World} {o : Nat → Nat} {p m : Nat} {L : List (Ky × Int)} (T : NT base w o p m L) (hm : 3 ≤ m ∧ m ≤ 64) (hl : L.length ≤ 65536) :
    Calls Try.prog 24 #[nv p] w fun e w' => ∃ v, e = .returned v ∧ w'.ownsRow w.heap.size 9 1 v L.length (ksR (L.map (·.1))) ∧ Below w.heap.size w w' := by
  obtain ⟨h, t, M, b, rfl⟩ := T
  exact Keys_any base p m h t w o M b hm hl
/-- Two rows of the same names. -/
theorem texts_same (A B : Option Addr) (c d : Nat) (l : List Ky) (w : World) (hl : l.length ≤ 1000000000) (ha : Rw w 9 (.slice A l.length c) (ksR l)) (hb : Rw w 9 (.slice B l.length d) (ksR l)) :
    Calls Try.prog 25 #[.slice A l.length c, .slice B l.length d] w fun e w' => e = .returned (.bool true) ∧ ∃ m, w' = w.drewN m := by
  have HA := Lib.hid ha
  have HB := Lib.hid hb
  clear ha hb
  go_enter Try.func25, Try.ntmps25
  go_wp2_with fail
  go_loopw [5] (fun t5 wr => ∃ i : Nat, i ≤ l.length ∧ t5 = .int .i64 i ∧ Hid (∃ m, wr = w.drewN m)) (fun t5 _ => l.length - (intOf t5).toNat)
  case atStart => exact ⟨0, Nat.zero_le _, rfl, Lib.hid ⟨0, rfl⟩⟩
  case round =>
    obtain ⟨i, hi, rfl, HW⟩ := hrel
    obtain ⟨m, rfl⟩ := HW.out
    by_cases h : i < l.length
    · have g1 : (i : Int) < (l.length : Int) := by omega
      obtain ⟨g, rfl, hg⟩ := HA.out.cells (by rw [ksR, List.length_map]; omega)
      obtain ⟨g', rfl, hg'⟩ := HB.out.cells (by rw [ksR, List.length_map]; omega)
      have d1 : w.cell? ⟨g, i, none⟩ = some (.string l[i]) := hg i _ (by rw [ksR, List.getElem?_map, List.getElem?_eq_getElem h]; rfl)
      have d2 : w.cell? ⟨g', i, none⟩ = some (.string l[i]) := hg' i _ (by rw [ksR, List.getElem?_map, List.getElem?_eq_getElem h]; rfl)
      generalize l[i] = k at d1 d2
      clear hg hg'
      go_wp2_with fail
      go_big_quiet (fail)
      go_wp2_with fail
      go_roundw
      case measure => simp [intOf]; omega
      case rel => exact ⟨i + 1, by omega, by simp, Lib.hid (by first | exact ⟨_, rfl⟩ | exact ⟨_, World.drewN_drewN _ _ _⟩)⟩
    · have g1 : decide ((i : Int) < (l.length : Int)) = false := decide_eq_false (by omega)
      go_wp2_with fail
      go_ret
      exact ⟨rfl, HW.out⟩
section
variable {μ : Type} {ct : μ → List Int}
/-- What a list that was changed holds. -/
theorem getL_insL (k k' : μ) (v : Int) : ∀ L : List (μ × Int), getL ct k (insL ct k' v L) = if kc ct k k' = 0 then some v else getL ct k L
  | [] => by
    show (if kc ct k k' < 0 then none else if kc ct k k' = 0 then some v else none) = if kc ct k k' = 0 then some v else none
    split
    · rw [if_neg (by omega)]
    · rfl
  | a :: r => by
    have ih := getL_insL k k' v r
    have hg : ∀ (b : μ × Int) (s : List (μ × Int)), getL ct k (b :: s) = if kc ct k b.1 < 0 then none else if kc ct k b.1 = 0 then some b.2 else getL ct k s := fun _ _ => rfl
    show getL ct k (if kc ct k' a.1 < 0 then (k', v) :: a :: r else if kc ct k' a.1 = 0 then (a.1, v) :: r else a :: insL ct k' v r) = _
    by_cases h1 : kc ct k' a.1 < 0
    · rw [if_pos h1, hg]
      by_cases h2 : kc ct k k' < 0
      · rw [if_pos h2, if_neg (by omega), hg, if_pos (kc_trans ct h2 h1)]
      · rw [if_neg h2]
    · rw [if_neg h1]
      by_cases h2 : kc ct k' a.1 = 0
      · rw [if_pos h2, hg, hg]
        have h3 : kc ct k k' = kc ct k a.1 := kc_same' ct h2
        rw [h3]
        by_cases h4 : kc ct k a.1 < 0
        · rw [if_pos h4, if_neg (by omega), if_pos h4]
        · rw [if_neg h4, if_neg h4]
          by_cases h5 : kc ct k a.1 = 0
          · rw [if_pos h5, if_pos h5]
          · rw [if_neg h5, if_neg h5, if_neg h5]
      · rw [if_neg h2, hg, hg, ih]
        by_cases h4 : kc ct k k' = 0
        · have h5 : kc ct k a.1 = kc ct k' a.1 := kc_same ct h4
          rw [if_pos h4, if_neg (by omega), if_neg (by omega), if_pos h4]
        · rw [if_neg h4, if_neg h4]
/-- Ahead of a sorted list nothing is found. -/
theorem getL_ahead {k : μ} {r : List (μ × Int)} (h : Hi ct r k) : getL ct k r = none := by
  cases r with
  | nil => rfl
  | cons b s => exact if_pos (h b List.mem_cons_self)
theorem getL_delL (k k' : μ) : ∀ L : List (μ × Int), SortedL ct L → getL ct k (delL ct k' L) = if kc ct k k' = 0 then none else getL ct k L
  | [], _ => by
    show none = if kc ct k k' = 0 then none else none
    split <;> rfl
  | a :: r, hs => by
    obtain ⟨hs1, hs2⟩ := List.pairwise_cons.1 hs
    have ih := getL_delL k k' r hs2
    have hg : ∀ (b : μ × Int) (s : List (μ × Int)), getL ct k (b :: s) = if kc ct k b.1 < 0 then none else if kc ct k b.1 = 0 then some b.2 else getL ct k s := fun _ _ => rfl
    show getL ct k (if kc ct k' a.1 < 0 then a :: r else if kc ct k' a.1 = 0 then r else a :: delL ct k' r) = _
    by_cases h1 : kc ct k' a.1 < 0
    · rw [if_pos h1]
      by_cases h2 : kc ct k k' = 0
      · rw [if_pos h2, hg, if_pos (by rw [kc_same ct h2]; exact h1)]
      · rw [if_neg h2]
    · rw [if_neg h1]
      by_cases h2 : kc ct k' a.1 = 0
      · rw [if_pos h2]
        have h3 : kc ct k k' = kc ct k a.1 := kc_same' ct h2
        rw [h3, hg]
        by_cases h4 : kc ct k a.1 = 0
        · rw [if_pos h4]
          exact getL_ahead fun b hb => by rw [kc_same ct h4]; exact hs1 b hb
        · rw [if_neg h4, if_neg h4]
          by_cases h5 : kc ct k a.1 < 0
          · rw [if_pos h5]
            exact getL_ahead fun b hb => kc_trans ct h5 (hs1 b hb)
          · rw [if_neg h5]
      · rw [if_neg h2, hg, hg, ih]
        by_cases h4 : kc ct k k' = 0
        · have h5 : kc ct k a.1 = kc ct k' a.1 := kc_same ct h4
          rw [if_pos h4, if_pos h4, if_neg (by omega), if_neg (by omega)]
        · rw [if_neg h4, if_neg h4]
/-- Sorted lists that hold the same are the same. -/
theorem list_ext (hi : ∀ a b : μ, ct a = ct b → a = b) : ∀ {L K : List (μ × Int)}, SortedL ct L → SortedL ct K → (∀ k, getL ct k L = getL ct k K) → L = K
  | [], [], _, _, _ => rfl
  | [], b :: s, _, _, h => by
    have h1 := h b.1
    have h2 : getL ct b.1 (b :: s) = some b.2 := by
      show (if kc ct b.1 b.1 < 0 then none else if kc ct b.1 b.1 = 0 then some b.2 else getL ct b.1 s) = _
      have h0 : kc ct b.1 b.1 = 0 := cmpL_self _
      rw [if_neg (by omega), if_pos h0]
    rw [h2] at h1
    cases h1
  | a :: r, [], _, _, h => by
    have h1 := h a.1
    have h2 : getL ct a.1 (a :: r) = some a.2 := by
      show (if kc ct a.1 a.1 < 0 then none else if kc ct a.1 a.1 = 0 then some a.2 else getL ct a.1 r) = _
      have h0 : kc ct a.1 a.1 = 0 := cmpL_self _
      rw [if_neg (by omega), if_pos h0]
    rw [h2] at h1
    cases h1
  | a :: r, b :: s, hL, hK, h => by
    obtain ⟨hL1, hL2⟩ := List.pairwise_cons.1 hL
    obtain ⟨hK1, hK2⟩ := List.pairwise_cons.1 hK
    have hg : ∀ (k : μ) (b : μ × Int) (s : List (μ × Int)), getL ct k (b :: s) = if kc ct k b.1 < 0 then none else if kc ct k b.1 = 0 then some b.2 else getL ct k s := fun _ _ _ => rfl
    have h0 : ∀ a : μ, kc ct a a = 0 := fun a => cmpL_self _
    have hab : kc ct a.1 b.1 = 0 := by
      apply Decidable.byContradiction
      intro hn
      by_cases h1 : kc ct a.1 b.1 < 0
      · have h2 := h a.1
        rw [hg, hg, if_neg (by rw [h0]; omega), if_pos (h0 _), if_pos h1] at h2
        cases h2
      · have h3 : kc ct b.1 a.1 < 0 := by rw [kc_swap]; omega
        have h2 := h b.1
        rw [hg, hg, if_pos h3, if_neg (by rw [h0]; omega), if_pos (h0 _)] at h2
        cases h2
    have he : a.1 = b.1 := hi _ _ (cmpL_eq hab)
    have hv : a.2 = b.2 := by
      have h2 := h a.1
      rw [hg, hg, if_neg (by rw [h0]; omega), if_pos (h0 _), if_neg (by omega), if_pos hab] at h2
      exact Option.some.inj h2
    have hrs : r = s := list_ext hi hL2 hK2 fun k => by
      by_cases h1 : 0 < kc ct k a.1
      · have h2 := h k
        rw [hg, hg, if_neg (by omega), if_neg (by omega), ← he, if_neg (by omega), if_neg (by omega)] at h2
        exact h2
      · have hlow : ∀ c, kc ct a.1 c < 0 → kc ct k c < 0 := fun c hc => by
          by_cases h2 : kc ct k a.1 = 0
          · rw [kc_same ct h2]; exact hc
          · exact kc_trans ct (by omega) hc
        rw [getL_ahead fun x hx => hlow _ (hL1 x hx), getL_ahead fun x hx => hlow _ (by rw [he]; exact hK1 x hx)]
    rw [hrs, Prod.ext he hv]
end
/-- Names put with the number 1, and let go. -/
def putN (L : List (Ky × Int)) (k : Ky) : List (Ky × Int) := insL kct k 1 L
def dropN (L : List (Ky × Int)) (k : Ky) : List (Ky × Int) := delL kct k L
theorem putN_get (k : Ky) : ∀ (ks : List Ky) (L : List (Ky × Int)), getL kct k (ks.foldl putN L) = if (ks.any fun x => kc kct k x == 0) then some 1 else getL kct k L
  | [], L => rfl
  | x :: ks, L => by
    rw [List.foldl_cons, putN_get k ks, List.any_cons]
    show (if _ then _ else getL kct k (insL kct x 1 L)) = _
    rw [getL_insL]
    by_cases h : kc kct k x = 0
    · simp [h]
    · simp [h]
theorem putN_sorted : ∀ (ks : List Ky) (L : List (Ky × Int)), SortedL kct L → SortedL kct (ks.foldl putN L)
  | [], _, h => h
  | _ :: ks, _, h => putN_sorted ks _ (insL_sorted h)
theorem dropN_sorted : ∀ (ks : List Ky) (L : List (Ky × Int)), SortedL kct L → SortedL kct (ks.foldl dropN L)
  | [], _, h => h
  | _ :: ks, _, h => dropN_sorted ks _ (delL_sorted h)
theorem dropN_get (k : Ky) : ∀ (ks : List Ky) (L : List (Ky × Int)), SortedL kct L → getL kct k (ks.foldl dropN L) = if (ks.any fun x => kc kct k x == 0) then none else getL kct k L
  | [], L, _ => rfl
  | x :: ks, L, hs => by
    rw [List.foldl_cons, dropN_get k ks (dropN L x) (delL_sorted hs), List.any_cons]
    show (if _ then _ else getL kct k (delL kct x L)) = _
    rw [getL_delL _ _ _ hs]
    by_cases h : kc kct k x = 0
    · simp [h]
    · simp [h]
/-- The order does not matter. -/
theorem mixed_same (ks ds : List Ky) : ds.foldl dropN (ks.foldl putN []) = ds.reverse.foldl dropN (ks.reverse.foldl putN []) := by
  have h0 : SortedL kct ([] : List (Ky × Int)) := List.Pairwise.nil
  refine list_ext (ct := kct) (fun a b h => byI_inj h) (dropN_sorted _ _ (putN_sorted _ _ h0)) (dropN_sorted _ _ (putN_sorted _ _ h0)) fun k => ?_
  rw [dropN_get _ _ _ (putN_sorted _ _ h0), dropN_get _ _ _ (putN_sorted _ _ h0), putN_get, putN_get, List.any_reverse, List.any_reverse]
theorem putN_len : ∀ (ks : List Ky) (L : List (Ky × Int)), (ks.foldl putN L).length ≤ L.length + ks.length
  | [], _ => Nat.le_refl _
  | k :: ks, L => by
    have h1 := putN_len ks (putN L k)
    have h2 : (putN L k).length ≤ L.length + 1 := by
      show (insL kct k 1 L).length ≤ _
      rw [insL_length]
      split <;> omega
    rw [List.foldl_cons, List.length_cons]
    omega
theorem dropN_len : ∀ (ks : List Ky) (L : List (Ky × Int)), (ks.foldl dropN L).length ≤ L.length
  | [], _ => Nat.le_refl _
  | k :: ks, L => by
    have h1 := dropN_len ks (dropN L k)
    have h2 : (dropN L k).length ≤ L.length := by
      show (delL kct k L).length ≤ _
      rw [delL_length]
      split <;> omega
    rw [List.foldl_cons]
    omega
end Go.Proofs.Ytfhonfeopkhdeaa.BS
namespace Go.Proofs.Ytfhonfeopkhdeaa
open Go.RowKit Go.Proofs.YtfhonfeopkhdeaaW.PrintWords
/-- Names that are read. -/
def Ns (w : World) (A : Option Addr) (l : List ByteArray) : Prop := l.length ≤ 9223372036854775807 ∧ (0 < l.length → ∃ ad, A = some ad ∧ ∀ i (hi : i < l.length), w.cell? (ad.add i) = some (.string l[i]))
theorem Ns.below {w w' : World} {A : Option Addr} {l : List ByteArray} (h : Ns w A l) (hb : Below w.heap.size w w') : Ns w' A l :=
  ⟨h.1, fun h0 => by
    obtain ⟨ad, e, hc⟩ := h.2 h0
    exact ⟨ad, e, fun i hi => pw_cell_below hb (hc i hi)⟩⟩
theorem open_ns {H : Type} {enc : TypeId × Value → H} {W : World} {base : Nat} {held : Bool} {fuel : Nat} {x : DataW H × List MemPlace} {a : Option Addr} {len cap : Nat}
    (h : DataW.trod enc Try.prog W base (fun _ => true) held fuel 34 [.slice a len cap] = some x) : ∃ l : List ByteArray, len = l.length ∧ Ns W a l := by
  rcases Go.ChangeShapes.open_strings Try.underlying34 Try.underlying9 (by kernel_rfl) h with ⟨hcs, _⟩ | ⟨b, n, c, ss, hcs, _, hl, hm, hz, _, hx, _⟩
  · simp at hcs
    obtain ⟨rfl, rfl, rfl⟩ := hcs
    exact ⟨[], rfl, by simp, fun h => absurd h (by simp)⟩
  · simp at hcs
    obtain ⟨rfl, rfl, rfl⟩ := hcs
    have hz2 : ss.length = cap := by simpa using hz
    have hlt : (ss.take len).length = len := by rw [List.length_take]; omega
    refine ⟨ss.take len, hlt.symm, by rw [hlt]; simp only [maxLen] at hm; omega, fun _ => ⟨b, rfl, fun i hi => ?_⟩⟩
    have hi2 : i < ss.length := by omega
    have h1 := hx i hi2
    rw [List.getElem_take, h1, List.getD_eq_getElem?_getD, List.getElem?_eq_getElem hi2]
    rfl
end Go.Proofs.Ytfhonfeopkhdeaa
