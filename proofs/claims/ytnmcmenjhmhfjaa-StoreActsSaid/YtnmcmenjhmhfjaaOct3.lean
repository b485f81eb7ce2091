/-
  copy onto a row of one's own; octet.Put. No premise.
-/
import Derived.Test.YtnmcmenjhmhfjaaOct2
import Derived.Laws.CopyOwn
namespace Go.Proofs.Ytnmcmenjhmhfjaa
open Go.RowKit Go.Proofs.YtnmcmenjhmhfjaaW.PrintWords

theorem own_open {w : World} {base g cap : Nat} {xs : List Int} {n : Nat} (h : Own w base (.slice (some ⟨g, 0, none⟩) n cap) xs) :
    base ≤ g ∧ n = xs.length ∧ n ≤ cap ∧ cap ≤ maxLen ∧ ∃ cur, w.heap[g]? = some (.cells cur 5 (0, 0)) ∧ cur.size = cap ∧ cur.toList.take xs.length = nums .u8 xs := by
  obtain ⟨_, h2⟩ := h
  rcases h2 with ⟨h2, _⟩ | ⟨g', cap', cur, h2, hb, hg, hn, hm, hs, ht⟩
  · cases h2
  · injection h2 with e1 e2 e3
    injection e1 with e1
    injection e1 with e1
    subst e1 e2 e3
    exact ⟨hb, rfl, hn, hm, cur, hg, by simpa using hs, by simpa using ht⟩
theorem own_mk {w : World} {base g cap : Nat} {xs : List Int} {cur : Array Value} (hb : base ≤ g) (hn : xs.length ≤ cap) (hm : cap ≤ maxLen) (hg : w.heap[g]? = some (.cells cur 5 (0, 0))) (hs : cur.size = cap) (ht : cur.toList.take xs.length = nums .u8 xs) :
    Own w base (.slice (some ⟨g, 0, none⟩) xs.length cap) xs :=
  ⟨by simp [nums], .inr ⟨g, cap, cur, rfl, hb, hg, hn, hm, by simpa using hs, by simpa using ht⟩⟩

theorem splice_pre {α : Type} (X D ys : List α) (off : Nat) (h : off + ys.length ≤ X.length) : ((X ++ D).take off ++ (ys ++ (X ++ D).drop (off + ys.length))).take X.length = X.take off ++ (ys ++ X.drop (off + ys.length)) := by
  have e1 : (X ++ D).take off = X.take off := List.take_append_of_le_length (by omega)
  have e2 : (X ++ D).drop (off + ys.length) = X.drop (off + ys.length) ++ D := List.drop_append_of_le_length (by omega)
  rw [e1, e2, ← List.append_assoc ys, ← List.append_assoc]
  have : (X.take off ++ (ys ++ X.drop (off + ys.length))).length = X.length := by simp; omega
  rw [← this]
  exact List.take_left
theorem infoS : (Try.prog.info? 5).map (·.size) = some 1 := by kernel_rfl

theorem cpy {ops : Array Oper} {rest : List Oper} {o : Oper} {a : Act} {Q : Exit → Act → World → Prop} {W : World} (hgd : o.guard = none) (d s : Operand)
    (ho : o.op = .call { callee := .builtin .copy, args := #[d, s], argTypes := #[22, 22] })
    (base g cap off : Nat) (xs l : List Int) (dp A : Option Addr) (dLen dCap c : Nat) (hd : a.eval d = .slice dp dLen dCap) (hs : a.eval s = .slice A l.length c)
    (hdp : 0 < dLen → dp = some ⟨g, off, none⟩) (HO : Own W base (.slice (some ⟨g, 0, none⟩) xs.length cap) xs) (HR : Rd W A l) (hoff : off + dLen ≤ xs.length)
    (h : ∀ w1, Own w1 base (.slice (some ⟨g, 0, none⟩) xs.length cap) (splice xs off (l.take dLen)) → W.grownBy w1 (some g) → wpList Try.prog ops Q rest (a.put o.dst (.int .i64 (Nat.min l.length dLen : Nat))) w1) :
    wpList Try.prog ops Q (o :: rest) a W := by
  by_cases h0 : Nat.min l.length dLen = 0
  · refine wpList_copy_nothing hgd d s 22 22 ho 5 Try.underlying22 infoS dp A dLen dCap l.length c hd hs h0 ?_
    have hz : l.take dLen = [] := by
      have : l.length = 0 ∨ dLen = 0 := by
        have : min l.length dLen = 0 := h0
        omega
      rcases this with h | h
      · rw [List.eq_nil_of_length_eq_zero h]; simp
      · rw [h]; simp
    have h1 := h W (by rw [hz]; simpa [splice] using HO) (World.grownBy.refl _ _)
    rw [h0] at h1
    exact h1
  · have hmin : Nat.min l.length dLen = min l.length dLen := rfl
    obtain rfl := hdp (by omega)
    obtain ⟨ad, rfl, hc⟩ := HR.2.2 (by omega)
    obtain ⟨hb, _, hn, hm, cur, hg, hcs, ht⟩ := own_open HO
    have hcl : cur.toList.length = cap := by simpa using hcs
    have hln : (nums .u8 (l.take dLen)).length = Nat.min l.length dLen := by simp [nums, hmin, Nat.min_comm]
    refine wpList_copy_own hgd d s 22 22 ho 5 Try.underlying22 infoS g off dLen dCap ad l.length c hd hs cur 5 hg (nums .u8 (l.take dLen)) hln ?_ (by omega) ?_ ?_
    · intro j v hj
      have hjl := (List.getElem?_eq_some_iff.1 hj).1
      rw [hln] at hjl
      rw [hc j (by omega)]
      simp [nums, show j < dLen by omega, List.getElem?_eq_getElem (show j < l.length by omega)] at hj
      rw [← hj]
      simp [List.getElem?_eq_getElem (show j < l.length by omega)]
    · intro v hv
      simp only [nums, List.mem_map] at hv
      obtain ⟨x, _, rfl⟩ := hv
      rfl
    · rw [hln]
      have hls : (splice xs off (l.take dLen)).length = xs.length := by
        rw [length_splice]
        rw [List.length_take]; omega
      refine h _ ?_ ⟨rfl, rfl, rfl, by simp [World.setRow], fun k _ hk => setRow_other W g k _ (fun e => hk (by simp [e]))⟩
      rw [← hls]
      refine own_mk hb (by omega) hm (setRow_heap W g cur _ _ _ hg) ?_ ?_
      · rw [List.size_toArray, List.length_append, List.length_append, hln, List.length_take, List.length_drop]
        omega
      · rw [hls, hmin]
        have hx : cur.toList = nums .u8 xs ++ cur.toList.drop xs.length := by rw [← ht]; exact (List.take_append_drop _ _).symm
        have h2 := splice_pre (nums .u8 xs) (cur.toList.drop xs.length) (nums .u8 (l.take dLen)) off (by rw [hln, nums_length, hmin]; omega)
        rw [← hx, nums_length, hln, hmin] at h2
        rw [h2]
        simp [splice, nums, List.map_take, List.map_drop, Nat.min_comm]

theorem splice_start (bs : List Int) (n : Nat) : splice (List.replicate (bs.length + n) (0 : Int)) 0 (bs.take (bs.length + n)) = bs ++ List.replicate n 0 := by
  simp [splice, List.take_of_length_le (show bs.length ≤ bs.length + n by omega)]
theorem putk_at (cs : Array Value) (n width : Nat) (big : Bool) (u : Int) (k : Nat) (hk : k ≤ width) (q : Nat) (hq : q < cs.size) :
    (putk cs n width big u k)[q]? = if n ≤ q ∧ q - n < width ∧ (if big then width - 1 - (q - n) else q - n) < k then some (.int .u8 (u / 2 ^ (8 * (if big then width - 1 - (q - n) else q - n)) % 256)) else cs[q]? := by
  induction k with
  | zero => rw [if_neg (by omega)]; rfl
  | succ k ih =>
    simp only [putk, Array.getElem?_setIfInBounds, putk_size]
    have ih := ih (by omega)
    cases big
    · simp only [Bool.false_eq_true, if_false] at ih ⊢
      by_cases h : n + k = q
      · subst h
        rw [if_pos rfl, if_pos (by omega), if_pos (by omega), show n + k - n = k from by omega]
      · rw [if_neg h, ih]
        by_cases h2 : n ≤ q ∧ q - n < width ∧ q - n < k
        · rw [if_pos h2, if_pos (by omega)]
        · rw [if_neg h2, if_neg (by omega)]
    · simp only [if_true] at ih ⊢
      by_cases h : n + (width - 1 - k) = q
      · subst h
        rw [if_pos rfl, if_pos (by omega), if_pos (by omega), show width - 1 - (n + (width - 1 - k) - n) = k from by omega]
      · rw [if_neg h, ih]
        by_cases h2 : n ≤ q ∧ q - n < width ∧ width - 1 - (q - n) < k
        · rw [if_pos h2, if_pos (by omega)]
        · rw [if_neg h2, if_neg (by omega)]
theorem putk_list (cs : Array Value) (width : Nat) (big : Bool) (u : Int) (bs : List Int) (hs : bs.length + width ≤ cs.size) (ht : cs.toList.take bs.length = nums .u8 bs) :
    (putk cs bs.length width big u width).toList.take (bs.length + width) = nums .u8 (bs ++ dig width big u) := by
  apply List.ext_getElem?
  intro q
  rw [List.getElem?_take, Array.getElem?_toList]
  by_cases hq : q < bs.length + width
  · rw [if_pos hq, putk_at cs _ width big u width (Nat.le_refl _) q (by omega), nums_append]
    by_cases hb : q < bs.length
    · rw [if_neg (by omega), List.getElem?_append_left (by rw [nums_length]; exact hb), ← ht, List.getElem?_take, if_pos hb, Array.getElem?_toList]
    · rw [if_pos (by refine ⟨by omega, by omega, ?_⟩; split <;> omega), List.getElem?_append_right (by rw [nums_length]; omega), nums_length]
      simp [nums, dig, List.getElem?_map, List.getElem?_range (show q - bs.length < width by omega)]
  · rw [if_neg hq, List.getElem?_eq_none]
    rw [nums_length, List.length_append, dig_length]
    omega

theorem ret2 {v : Value} {k : IntKind} {a b : Int} (h : a = b) : Ending.returned (.tuple #[v, .int k a]) = .returned (.tuple #[v, .int k b]) := by rw [h]
def putL (bs : List Int) (width : Int) (big : Bool) (u : Int) : List Int := if 1 ≤ width ∧ width ≤ 8 ∧ fitsB u width = true then bs ++ dig width.toNat big u else []
def putE (width : Int) (u : Int) : Int := if 1 ≤ width ∧ width ≤ 8 then (if fitsB u width = true then 0 else 3) else 2

def PutPost (w : World) (bs : List Int) (width : Int) (big : Bool) (u : Int) (e : Ending) (w' : World) : Prop :=
  ∃ v, e = .returned (.tuple #[v, .int .i64 (putE width u)]) ∧ Own w' w.heap.size v (putL bs width big u) ∧ Below w.heap.size w w'

end Go.Proofs.Ytnmcmenjhmhfjaa
