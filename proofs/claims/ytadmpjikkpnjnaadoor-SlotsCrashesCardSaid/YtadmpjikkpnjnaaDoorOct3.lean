/-
  copy onto a row of one's own; octet.Put. No premise.
-/
import Derived.Test.YtadmpjikkpnjnaaDoorOct2
import Derived.Laws.CopyOwn
namespace Go.Proofs.YtadmpjikkpnjnaaDoor
open Go.RowKit Go.Proofs.YtadmpjikkpnjnaaDoorW.PrintWords

theorem own_open {w : World} {base g cap : Nat} {xs : List Int} {n : Nat} (h : Own w base (.slice (some ⟨g, 0, none⟩) n cap) xs) :
    base ≤ g ∧ n = xs.length ∧ n ≤ cap ∧ cap ≤ maxLen ∧ ∃ cur, w.heap[g]? = some (.cells cur 5 (0, 0)) ∧ cur.size = cap ∧ cur.toList.take xs.length = nums .u8 xs := by
  obtain ⟨_, h2⟩ := h
  rcases h2 with ⟨h2, _⟩ | ⟨g', cap', cur, h2, hb, hg, hn, hm, hs, ht⟩
  · cases h2
  · injection h2 with e1 e2 e3
    injection e1 with e1
    injection e1 with e1
    subst e1 e2 e3
    exact ⟨hb, rfl, hn, hm, cur, hg, by simpa using hs, by simpa using ht⟩
theorem own_mk {w : World} {base g cap : Nat} {xs : List Int} {cur : Array Value} (hb : base ≤ g) (hn : xs.length ≤ cap) (hm : cap ≤ maxLen) (hg : w.heap[g]? = some (.cells cur 5 (0, 0))) (hs : cur.size = cap) (ht : cur.toList.take xs.length = nums .u8 xs) :
    Own w base (.slice (some ⟨g, 0, none⟩) xs.length cap) xs :=
  ⟨by simp [nums], .inr ⟨g, cap, cur, rfl, hb, hg, hn, hm, by simpa using hs, by simpa using ht⟩⟩

theorem splice_pre {α : Type} (X D ys : List α) (off : Nat) (h : off + ys.length ≤ X.length) : ((X ++ D).take off ++ (ys ++ (X ++ D).drop (off + ys.length))).take X.length = X.take off ++ (ys ++ X.drop (off + ys.length)) := by
  have e1 : (X ++ D).take off = X.take off := List.take_append_of_le_length (by omega)
  have e2 : (X ++ D).drop (off + ys.length) = X.drop (off + ys.length) ++ D := List.drop_append_of_le_length (by omega)
  rw [e1, e2, ← List.append_assoc ys, ← List.append_assoc]
  have : (X.take off ++ (ys ++ X.drop (off + ys.length))).length = X.length := by simp; omega
  rw [← this]
  exact List.take_left
theorem infoS : (Tryd.prog.info? 5).map (·.size) = some 1 := by kernel_rfl

theorem cpy {ops : Array Oper} {rest : List Oper} {o : Oper} {a : Act} {Q : Exit → Act → World → Prop} {W : World} (hgd : o.guard = none) (d s : Operand)
    (ho : o.op = .call { callee := .builtin .copy, args := #[d, s], argTypes := #[25, 25] })
    (base g cap off : Nat) (xs l : List Int) (dp A : Option Addr) (dLen dCap c : Nat) (hd : a.eval d = .slice dp dLen dCap) (hs : a.eval s = .slice A l.length c)
    (hdp : 0 < dLen → dp = some ⟨g, off, none⟩) (HO : Own W base (.slice (some ⟨g, 0, none⟩) xs.length cap) xs) (HR : Rd W A l) (hoff : off + dLen ≤ xs.length)
    (h : ∀ w1, Own w1 base (.slice (some ⟨g, 0, none⟩) xs.length cap) (splice xs off (l.take dLen)) → W.grownBy w1 (some g) → wpList Tryd.prog ops Q rest (a.put o.dst (.int .i64 (Nat.min l.length dLen : Nat))) w1) :
    wpList Tryd.prog ops Q (o :: rest) a W := by
  by_cases h0 : Nat.min l.length dLen = 0
  · refine wpList_copy_nothing hgd d s 25 25 ho 5 Tryd.underlying25 infoS dp A dLen dCap l.length c hd hs h0 ?_
    have hz : l.take dLen = [] := by
      have : l.length = 0 ∨ dLen = 0 := by
        have : min l.length dLen = 0 := h0
        omega
      rcases this with h | h
      · rw [List.eq_nil_of_length_eq_zero h]; simp
      · rw [h]; simp
    have h1 := h W (by rw [hz]; simpa [splice] using HO) (World.grownBy.refl _ _)
    rw [h0] at h1
    exact h1
  · have hmin : Nat.min l.length dLen = min l.length dLen := rfl
    obtain rfl := hdp (by omega)
    obtain ⟨ad, rfl, hc⟩ := HR.2.2 (by omega)
    obtain ⟨hb, _, hn, hm, cur, hg, hcs, ht⟩ := own_open HO
    have hcl : cur.toList.length = cap := by simpa using hcs
    have hln : (nums .u8 (l.take dLen)).length = Nat.min l.length dLen := by simp [nums, hmin, Nat.min_comm]
    refine wpList_copy_own hgd d s 25 25 ho 5 Tryd.underlying25 infoS g off dLen dCap ad l.length c hd hs cur 5 hg (nums .u8 (l.take dLen)) hln ?_ (by omega) ?_ ?_
    · intro j v hj
      have hjl := (List.getElem?_eq_some_iff.1 hj).1
      rw [hln] at hjl
      rw [hc j (by omega)]
      simp [nums, show j < dLen by omega, List.getElem?_eq_getElem (show j < l.length by omega)] at hj
      rw [← hj]
      simp [List.getElem?_eq_getElem (show j < l.length by omega)]
    · intro v hv
      simp only [nums, List.mem_map] at hv
      obtain ⟨x, _, rfl⟩ := hv
      rfl
    · rw [hln]
      have hls : (splice xs off (l.take dLen)).length = xs.length := by
        rw [length_splice]
        rw [List.length_take]; omega
      refine h _ ?_ ⟨rfl, rfl, rfl, by simp [World.setRow], fun k _ hk => setRow_other W g k _ (fun e => hk (by simp [e]))⟩
      rw [← hls]
      refine own_mk hb (by omega) hm (setRow_heap W g cur _ _ _ hg) ?_ ?_
      · rw [List.size_toArray, List.length_append, List.length_append, hln, List.length_take, List.length_drop]
        omega
      · rw [hls, hmin]
        have hx : cur.toList = nums .u8 xs ++ cur.toList.drop xs.length := by rw [← ht]; exact (List.take_append_drop _ _).symm
        have h2 := splice_pre (nums .u8 xs) (cur.toList.drop xs.length) (nums .u8 (l.take dLen)) off (by rw [hln, nums_length, hmin]; omega)
        rw [← hx, nums_length, hln, hmin] at h2
        rw [h2]
        simp [splice, nums, List.map_take, List.map_drop, Nat.min_comm]

theorem splice_start (bs : List Int) (n : Nat) : splice (List.replicate (bs.length + n) (0 : Int)) 0 (bs.take (bs.length + n)) = bs ++ List.replicate n 0 := by
  simp [splice, List.take_of_length_le (show bs.length ≤ bs.length + n by omega)]
theorem putk_at (cs : Array Value) (n width : Nat) (big : Bool) (u : Int) (k : Nat) (hk : k ≤ width) (q : Nat) (hq : q < cs.size) :
    (putk cs n width big u k)[q]? = if n ≤ q ∧ q - n < width ∧ (if big then width - 1 - (q - n) else q - n) < k then some (.int .u8 (u / 2 ^ (8 * (if big then width - 1 - (q - n) else q - n)) % 256)) else cs[q]? := by
  induction k with
  | zero => rw [if_neg (by omega)]; rfl
  | succ k ih =>
    simp only [putk, Array.getElem?_setIfInBounds, putk_size]
    have ih := ih (by omega)
    cases big
    · simp only [Bool.false_eq_true, if_false] at ih ⊢
      by_cases h : n + k = q
      · subst h
        rw [if_pos rfl, if_pos (by omega), if_pos (by omega), show n + k - n = k from by omega]
      · rw [if_neg h, ih]
        by_cases h2 : n ≤ q ∧ q - n < width ∧ q - n < k
        · rw [if_pos h2, if_pos (by omega)]
        · rw [if_neg h2, if_neg (by omega)]
    · simp only [if_true] at ih ⊢
      by_cases h : n + (width - 1 - k) = q
      · subst h
        rw [if_pos rfl, if_pos (by omega), if_pos (by omega), show width - 1 - (n + (width - 1 - k) - n) = k from by omega]
      · rw [if_neg h, ih]
        by_cases h2 : n ≤ q ∧ q - n < width ∧ width - 1 - (q - n) < k
        · rw [if_pos h2, if_pos (by omega)]
        · rw [if_neg h2, if_neg (by omega)]
theorem putk_list (cs : Array Value) (width : Nat) (big : Bool) (u : Int) (bs : List Int) (hs : bs.length + width ≤ cs.size) (ht : cs.toList.take bs.length = nums .u8 bs) :
    (putk cs bs.length width big u width).toList.take (bs.length + width) = nums .u8 (bs ++ dig width big u) := by
  apply List.ext_getElem?
  intro q
  rw [List.getElem?_take, Array.getElem?_toList]
  by_cases hq : q < bs.length + width
  · rw [if_pos hq, putk_at cs _ width big u width (Nat.le_refl _) q (by omega), nums_append]
    by_cases hb : q < bs.length
    · rw [if_neg (by omega), List.getElem?_append_left (by rw [nums_length]; exact hb), ← ht, List.getElem?_take, if_pos hb, Array.getElem?_toList]
    · rw [if_pos (by refine ⟨by omega, by omega, ?_⟩; split <;> omega), List.getElem?_append_right (by rw [nums_length]; omega), nums_length]
      simp [nums, dig, List.getElem?_map, List.getElem?_range (show q - bs.length < width by omega)]
  · rw [if_neg hq, List.getElem?_eq_none]
    rw [nums_length, List.length_append, dig_length]
    omega

theorem ret2 {v : Value} {k : IntKind} {a b : Int} (h : a = b) : Ending.returned (.tuple #[v, .int k a]) = .returned (.tuple #[v, .int k b]) := by rw [h]
def putL (bs : List Int) (width : Int) (big : Bool) (u : Int) : List Int := if 1 ≤ width ∧ width ≤ 8 ∧ fitsB u width = true then bs ++ dig width.toNat big u else []
def putE (width : Int) (u : Int) : Int := if 1 ≤ width ∧ width ≤ 8 then (if fitsB u width = true then 0 else 3) else 2

def PutPost (w : World) (bs : List Int) (width : Int) (big : Bool) (u : Int) (e : Ending) (w' : World) : Prop :=
  ∃ v, e = .returned (.tuple #[v, .int .i64 (putE width u)]) ∧ Own w' w.heap.size v (putL bs width big u) ∧ Below w.heap.size w w'

set_option maxHeartbeats 800000 in
theorem put_any (A : Option Addr) (c : Nat) (bs : List Int) (width : Int) (big : Bool) (u : Int) (w : World) (hr : Rd w A bs) (hl : bs.length + 8 ≤ 150000000000000) :
    Calls Tryd.prog 29 #[.slice A bs.length c, .int .i64 width, .bool big, .int .u64 u] w (PutPost w bs width big u) := by
  have HR := Lib.hid hr
  clear hr
  by_cases h1 : width < 1
  · go_enter Tryd.func29, Tryd.ntmps29
    go_wp2_with fail
    go_ret2
    refine ⟨.slice none 0 0, ret2 (by rw [putE, if_neg (by omega)]), ?_, (Below.refl _ _).alloc (Nat.le_refl _) _⟩
    rw [putL, if_neg (by omega)]
    exact World.ownsRow_nil _ _ _ _
  by_cases h2 : 8 < width
  · go_enter Tryd.func29, Tryd.ntmps29
    go_wp2_with fail
    go_ret2
    refine ⟨.slice none 0 0, ret2 (by rw [putE, if_neg (by omega)]), ?_, (Below.refl _ _).alloc (Nat.le_refl _) _⟩
    rw [putL, if_neg (by omega)]
    exact World.ownsRow_nil _ _ _ _
  have h1' : 1 ≤ width := by omega
  have h2' : width ≤ 8 := by omega
  clear h1 h2
  by_cases h3 : fitsB u width = true
  · obtain ⟨n, rfl⟩ := Int.eq_ofNat_of_zero_le (show 0 ≤ width by omega)
    have h1n : 1 ≤ n := by omega
    have h2n : n ≤ 8 := by omega
    have h3' := h3
    unfold fitsB at h3'
    have hmk := fun W => print_make (P := Tryd.prog) 25 5 .u8 1 Tryd.underlying25 infoB (by omega) (bs.length + n) (by omega) W
    simp only [Int.natCast_add] at hmk
    have HOM := Lib.hid (own_made (w.alloc (.cells #[.int .u64 u] 22)) w.heap.size 5 .u8 (bs.length + n) (by simp) (by omega))
    have HRM := Lib.hid (HR.out.below (((Below.refl w.heap.size w).alloc (Nat.le_refl _) (.cells #[.int .u64 u] 22)).alloc (by simp) (.cells (madeCells #[.int .u8 0] (bs.length + n)) 5)))
    go_enter Tryd.func29, Tryd.ntmps29
    go_wp2_with (first | (go_at_call 43; refine (fits_any _ _ _ (by omega) (by omega)).mono ?_; rintro e w' ⟨rfl, rfl⟩) | ((with_reducible refine gate_builtin (b := .copy) (xs := #[.tmp 26, .tmp 27]) rfl ?_); refine cpy rfl _ _ rfl w.heap.size (w.heap.size + 1) (bs.length + n) 0 (List.replicate (bs.length + n) 0) bs (some ⟨w.heap.size + 1, 0, none⟩) A (bs.length + n) (bs.length + n) c rfl rfl (fun _ => rfl) ?cO HRM.out ?cL ?_))
    case cO => simpa [Own] using HOM.out
    case cL => simp
    intro w1 ho hgr
    rw [splice_start] at ho
    obtain ⟨q1, q2, q3, q4, cur, hcur, hsz, htk⟩ := own_open ho
    have HGR := Lib.hid hgr
    have HCUR := Lib.hid hcur
    have HSZ := Lib.hid hsz
    have HTK := Lib.hid htk
    clear ho hgr hcur hsz htk q1 q2 q3 q4
    go_wp2_with (go_at_call 44; refine (digits_put big u (w.heap.size + 1) bs.length n n ⟨w.heap.size, 0, none⟩ cur w1 h2n HCUR.out (by rw [HSZ.out]; exact Nat.le_refl _) (Nat.le_refl _) (HGR.out.cell (by simp) (by simp)) (by simp)).mono ?_; rintro e w' ⟨rfl, hc2, hg2⟩)
    have HC2 := Lib.hid hc2
    have HG2 := Lib.hid hg2
    clear hc2 hg2
    go_wp2_with fail
    go_ret2
    refine ⟨_, ret2 (by rw [putE, if_pos ⟨h1', h2'⟩, if_pos h3]), ?_, ?_⟩
    · rw [putL, if_pos ⟨h1', h2', h3⟩]
      have ht2 := HTK.out
      have hl2 : (bs ++ List.replicate n (0 : Int)).length = bs.length + n := by simp
      have h5 := putk_list cur n big u bs (by rw [HSZ.out]; exact Nat.le_refl _) (by
        have := congrArg (List.take bs.length) ht2
        rw [List.take_take, hl2, Nat.min_eq_left (by omega), nums_append, List.take_left' (nums_length _ _)] at this
        exact this)
      have h6 : (bs ++ dig (Int.toNat (n : Int)) big u).length = bs.length + n := by rw [List.length_append, dig_length]; rfl
      have h7 := own_mk (w := w') (base := w.heap.size) (g := w.heap.size + 1) (cap := bs.length + n) (xs := bs ++ dig (Int.toNat (n : Int)) big u) (by omega) (by omega) (by simp only [maxLen]; omega) HC2.out (by rw [putk_size]; exact HSZ.out) (by rw [h6]; exact h5)
      rw [h6] at h7
      exact h7
    · exact ((((Below.refl _ _).alloc (Nat.le_refl _) _).alloc (by simp) _).grown HGR.out (by simp; omega) (by simp)).grown HG2.out (by have := HGR.out.size; simp at this; omega) (by simp)
  · have h3' := Bool.eq_false_iff.2 h3
    unfold fitsB at h3'
    go_enter Tryd.func29, Tryd.ntmps29
    go_wp2_with (go_at_call 43; refine (fits_any _ _ _ (by omega) (by omega)).mono ?_; rintro e w' ⟨rfl, rfl⟩)
    go_ret2
    refine ⟨.slice none 0 0, ret2 (by rw [putE, if_pos ⟨h1', h2'⟩, if_neg h3]), ?_, (Below.refl _ _).alloc (Nat.le_refl _) _⟩
    rw [putL, if_neg (fun h => h3 h.2.2)]
    exact World.ownsRow_nil _ _ _ _
end Go.Proofs.YtadmpjikkpnjnaaDoor
