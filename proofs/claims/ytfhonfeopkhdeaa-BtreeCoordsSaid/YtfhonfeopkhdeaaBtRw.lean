/-
  Rows of cells, whose block may be longer than what the slice may hold; append onto them. No premise.
  Slices of a row, told by plain numbers. No premise.
  Slices of a row by two or three places; an append whose run is known, at a step of a region that draws. No premise.
  A region that draws its order and ends by a store into what it has read: a condition on the worlds that need not hold behind that store. No premise.
  A region that draws its order and ends by stores into what it has read: a condition on the worlds that need not hold behind some of its operations (Z). No premise.
-/
import Derived.Test.YtfhonfeopkhdeaaWWords
import Derived.WalkKit
import Derived.WalkSpells
import Derived.WalkLawsBesides
import Derived.Lib.Hide
import Derived.ArgAppend
import Derived.Maps.AppendAt
import Derived.Laws.CopyOwn
import Derived.Lib.SliceRun
import Derived.Lib.AppendZeros
import Derived.Deep.RegionHeld
namespace Go.Proofs.Ytfhonfeopkhdeaa
open Go.RowKit Go.Proofs.YtfhonfeopkhdeaaW.PrintWords

def One (xs : List Value) : Prop := ∀ u ∈ xs, u.oneCell' = true
/-- A row of elements of one cell each. -/
def Rw (w : World) (e : TypeId) (v : Value) (xs : List Value) : Prop :=
  (v = .slice none 0 0 ∧ xs = []) ∨ ∃ (g cap : Nat) (cur : Array Value), v = .slice (some ⟨g, 0, none⟩) xs.length cap ∧ w.heap[g]? = some (.cells cur e (0, 0)) ∧ xs.length ≤ cap ∧ cap ≤ cur.size ∧ cap ≤ maxLen ∧ cur.toList.take xs.length = xs
theorem Rw.nil (w : World) (e : TypeId) : Rw w e (.slice none 0 0) [] := .inl ⟨rfl, rfl⟩
theorem Rw.form {w : World} {e : TypeId} {v : Value} {xs : List Value} (h : Rw w e v xs) : ∃ A c, v = .slice A xs.length c ∧ xs.length ≤ c := by
  rcases h with ⟨rfl, rfl⟩ | ⟨g, cap, cur, rfl, _, h2, _⟩
  · exact ⟨none, 0, rfl, Nat.le_refl _⟩
  · exact ⟨_, cap, rfl, h2⟩
theorem Rw.blk {w : World} {e : TypeId} {v : Value} {xs : List Value} (h : Rw w e v xs) {g : Nat} (hg : v.ownBlock = some g) : ∃ cur, w.heap[g]? = some (.cells cur e (0, 0)) := by
  rcases h with ⟨rfl, rfl⟩ | ⟨g', cap, cur, rfl, h1, _⟩
  · cases hg
  · cases hg
    exact ⟨cur, h1⟩
theorem Rw.lt {w : World} {e : TypeId} {v : Value} {xs : List Value} (h : Rw w e v xs) {g : Nat} (hg : v.ownBlock = some g) : g < w.heap.size := by
  obtain ⟨cur, h1⟩ := h.blk hg
  exact (Array.getElem?_eq_some_iff.1 h1).1
theorem Rw.keep {w w' : World} {e : TypeId} {v : Value} {xs : List Value} (h : Rw w e v xs) (hk : ∀ g, v.ownBlock = some g → g < w.heap.size → w'.heap[g]? = w.heap[g]?) : Rw w' e v xs := by
  rcases h with h | ⟨g, cap, cur, rfl, h1, h2⟩
  · exact .inl h
  · exact .inr ⟨g, cap, cur, rfl, (hk g rfl (Array.getElem?_eq_some_iff.1 h1).1).trans h1, h2⟩
theorem Rw.of_own {w : World} {base e n : Nat} {v : Value} {xs : List Value} (h : w.ownsRow base e 1 v n xs) : Rw w e v xs := by
  have hl : xs.length = n := by have := h.1; omega
  subst hl
  rcases h.2 with ⟨h1, h2⟩ | ⟨g, cap, cur, h1, _, hg, hn, hm, hs, ht⟩
  · exact .inl ⟨h1, List.eq_nil_of_length_eq_zero h2⟩
  · exact .inr ⟨g, cap, cur, h1, hg, hn, by omega, hm, by simpa using ht⟩
/-- The cells, where there are any. -/
theorem Rw.cells {w : World} {e n c : Nat} {A : Option Addr} {xs : List Value} (h : Rw w e (.slice A n c) xs) (h0 : 0 < xs.length) : ∃ g, A = some ⟨g, 0, none⟩ ∧ ∀ j u, xs[j]? = some u → w.cell? ⟨g, j, none⟩ = some u := by
  rcases h with ⟨_, rfl⟩ | ⟨g, cap, cur, e1, hg, _, _, _, ht⟩
  · simp at h0
  · injection e1 with e1
    refine ⟨g, e1, fun j u hj => ?_⟩
    have hjl := (List.getElem?_eq_some_iff.1 hj).1
    rw [blk_cell hg, ← hj, ← ht, List.getElem?_take, if_pos hjl, Array.getElem?_toList]
theorem Rw.cell {w : World} {e n c g : Nat} {xs : List Value} (h : Rw w e (.slice (some ⟨g, 0, none⟩) n c) xs) {j : Nat} (hj : j < xs.length) : w.cell? ⟨g, j, none⟩ = some xs[j] ∧ w.frozen? ⟨g, j, none⟩ = false := by
  obtain ⟨g', e1, h1⟩ := h.cells (by omega)
  cases e1
  refine ⟨h1 j _ (List.getElem?_eq_getElem hj), ?_⟩
  obtain ⟨cur, hb⟩ := h.blk (g := g) rfl
  exact blk_frozen hb j
theorem Rw.set {w : World} {e n c g : Nat} {xs : List Value} (h : Rw w e (.slice (some ⟨g, 0, none⟩) n c) xs) (j : Nat) (u : Value) : Rw (w.setCell ⟨g, j, none⟩ u) e (.slice (some ⟨g, 0, none⟩) n c) (xs.set j u) := by
  rcases h with ⟨h1, _⟩ | ⟨g', cap, cur, e1, hg, h2, h3, h4, ht⟩
  · cases h1
  · injection e1 with e1 e2 e3
    injection e1 with e1
    injection e1 with e1
    subst e1 e2 e3
    refine .inr ⟨g, c, cur.setIfInBounds j u, by rw [List.length_set], blk_set hg j u, by rw [List.length_set]; exact h2, by rw [Array.size_setIfInBounds]; exact h3, h4, ?_⟩
    rw [List.length_set, Array.toList_setIfInBounds, List.take_set, ht]
/-- A shorter slice of the row. -/
theorem Rw.short {w : World} {e n c g : Nat} {xs : List Value} (h : Rw w e (.slice (some ⟨g, 0, none⟩) n c) xs) {m c' : Nat} (hm : m ≤ xs.length) (hc : m ≤ c') (hc2 : c' ≤ c) : Rw w e (.slice (some ⟨g, 0, none⟩) m c') (xs.take m) := by
  rcases h with ⟨h1, _⟩ | ⟨g', cap, cur, e1, hg, h2, h3, h4, ht⟩
  · cases h1
  · injection e1 with e1 e2 e3
    injection e1 with e1
    injection e1 with e1
    subst e1 e2 e3
    have hl : (xs.take m).length = m := by rw [List.length_take]; omega
    refine .inr ⟨g, c', cur, by rw [hl], hg, by rw [hl]; exact hc, by omega, by omega, ?_⟩
    rw [hl, ← ht, List.take_take, Nat.min_eq_left hm]
/-- A block that is longer is told by its head. -/
theorem Rw.mk {w : World} {e g cap : Nat} {xs : List Value} {cur : Array Value} (hg : w.heap[g]? = some (.cells cur e (0, 0))) (h1 : xs.length ≤ cap) (h2 : cap ≤ cur.size) (h3 : cap ≤ maxLen) (ht : cur.toList.take xs.length = xs) : Rw w e (.slice (some ⟨g, 0, none⟩) xs.length cap) xs :=
  .inr ⟨g, cap, cur, rfl, hg, h1, h2, h3, ht⟩
/-- The row's own block, or one that is made now. -/
def Nw (W : World) (v v' : Value) : Prop := v'.ownBlock = v.ownBlock ∨ ∃ g, v'.ownBlock = some g ∧ W.heap.size ≤ g
/-- append(v, ys...): v a row. -/
theorem run_apR {P : Program} {W : World} {e : TypeId} {v : Value} {xs ys : List Value} (h : Rw W e v xs) (t ty : TypeId) (i : TypeInfo) (z : Value) (bytes : Nat) (ht : P.underlying t = some (.slice e)) (hi : P.info? e = some i) (hz : i.zero = some z)
    (hsize : i.size = 1) (hby : i.bytes = bytes) (hzs : z.cells.size = 1) (ad : Addr) (m c : Nat) (hl : ys.length = m) (hnews : ∀ j u, ys[j]? = some u → W.cell? (ad.add j) = some u) (h1 : One ys) (hx : One xs) (_hm : 0 < m) (h63 : xs.length + m ≤ maxLen) (hbytes : (xs.length + m) * bytes ≤ 140737488355328) :
    ∃ v' w', (Builtin.append_ #[t, t] ty #[v, .slice (some ad) m c]).run P W = .ok v' w' ∧ Rw w' e v' (xs ++ ys) ∧ W.grownBy w' v.ownBlock ∧ Nw W v v' := by
  rcases h with ⟨rfl, rfl⟩ | ⟨g, cap, cur, rfl, hg, hn, hcs, hmx, htk⟩
  · obtain ⟨v', w', hr, h2, h3, _, h5⟩ := run_append_own_at (P := P) W W.heap.size t ty e i z 1 bytes ht hi hz hsize hby hzs (by decide) (.slice none 0 0) 0 [] (World.ownsRow_nil W _ e 1) ad m c ys (by omega) hnews h1 (by simpa using h63) (by simpa using hbytes) (Nat.le_refl _)
    exact ⟨v', w', hr, Rw.of_own h2, h3, h5.imp id (fun e => ⟨_, e, Nat.le_refl _⟩)⟩
  · by_cases hr : xs.length + m ≤ cap
    · have hrun := run_append_room_cells (P := P) W t ty e i ht hi g 0 xs.length cap ad m c ys (by rw [hsize]; omega) hnews h1 hr (fun j hj => by
          rw [blk_cell hg, hsize]
          rw [Array.getElem?_eq_getElem (by omega)]
          rfl) (fun j hj => blk_frozen hg _)
      rw [hsize, Nat.mul_one, Nat.zero_add] at hrun
      obtain ⟨cur', k1, k2, k3⟩ := setCells_row ys xs.length W cur hg (by omega)
      refine ⟨_, _, hrun, ?_, ?_, .inl rfl⟩
      · have hla : (xs ++ ys).length = xs.length + m := by rw [List.length_append, hl]
        rw [← hla]
        refine Rw.mk k1 (by omega) (by omega) hmx ?_
        rw [k3, htk, hla, List.take_append_of_le_length (by rw [List.length_append]; omega)]
        exact List.take_of_length_le (by rw [List.length_append]; omega)
      · obtain ⟨a1, a2, a3, a4⟩ := setCells_same g ys xs.length W
        exact ⟨a1, a2, a3, by rw [a4]; exact Nat.le_refl _, fun k _ hk => setCells_far ys _ k (fun e => hk (by rw [e]; rfl))⟩
    · have hold : ∀ j u, xs[j]? = some u → W.cell? ((⟨g, 0, none⟩ : Addr).add j) = some u := fun j u hj => by
        have hjl := (List.getElem?_eq_some_iff.1 hj).1
        rw [add_plain, blk_cell hg, ← hj]
        conv => rhs; rw [← htk]
        rw [List.getElem?_take, if_pos hjl, Array.getElem?_toList]
      obtain ⟨v', w', hrun, r1, r2⟩ := run_append_arg_grows (P := P) W t ty e i z 1 bytes ht hi hz hsize hby hzs (by decide) ⟨g, 0, none⟩ xs.length cap xs (by omega) hold ad m c ys (by omega) hnews (by omega) h63 hbytes
      refine ⟨v', w', hrun, Rw.of_own r1, ⟨r2.os, r2.tape, r2.output, r2.size, fun k hk _ => r2.block k hk (by simp)⟩, ?_⟩
      right
      rcases r1.2 with ⟨_, h0⟩ | ⟨g', cap', cur', e1, hb, _⟩
      · omega
      · exact ⟨g', by rw [e1]; rfl, hb⟩
end Go.Proofs.Ytfhonfeopkhdeaa

namespace Go.Proofs.Ytfhonfeopkhdeaa
open Go.RowKit Go.Proofs.YtfhonfeopkhdeaaW.PrintWords

theorem addr_add (g i j : Nat) : (⟨g, i, none⟩ : Addr).add j = ⟨g, i + j, none⟩ := by
  unfold Addr.add
  by_cases h : j = 0 <;> simp [h]
theorem slice_lo {P : Program} (t e : TypeId) {i : TypeInfo} (ht : P.underlying t = some (.slice e)) (hi : P.info? e = some i) (hsz : i.size = 1) (g n c lo : Nat) (x : Int) (hx : x = (lo : Int)) (h1 : lo ≤ n) (_h2 : n ≤ c) (h3 : lo < c) (W : World) :
    (Instr.slice t (.slice (some ⟨g, 0, none⟩) n c) (some (.int .i64 x)) none none).run P W = .ok (.slice (some ⟨g, lo, none⟩) (n - lo) (c - lo)) W := by
  subst hx
  have e := addr_add g 0 lo
  rw [Nat.zero_add] at e
  simp [Instr.slice, Instr.sliceBounds, Instr.sliceBound, asIntOf, run_underlying ht, sizeOf, typeInfo, hi, hsz, h1, show ¬ c = lo from by omega, e]
theorem slice_hi {P : Program} (t e : TypeId) {i : TypeInfo} (ht : P.underlying t = some (.slice e)) (hi : P.info? e = some i) (_hsz : i.size = 1) (g n c hh : Nat) (x : Int) (hx : x = (hh : Int)) (h1 : hh ≤ c) (W : World) :
    (Instr.slice t (.slice (some ⟨g, 0, none⟩) n c) none (some (.int .i64 x)) none).run P W = .ok (.slice (some ⟨g, 0, none⟩) hh c) W := by
  subst hx
  have e := addr_add g 0 0
  simp [Instr.slice, Instr.sliceBounds, Instr.sliceBound, asIntOf, run_underlying ht, sizeOf, typeInfo, hi, h1, e]
/-- x[:m:m] -/
theorem slice_hm {P : Program} (t e : TypeId) {i : TypeInfo} (ht : P.underlying t = some (.slice e)) (hi : P.info? e = some i) (_hsz : i.size = 1) (g n c hh : Nat) (x : Int) (hx : x = (hh : Int)) (h1 : hh ≤ c) (W : World) :
    (Instr.slice t (.slice (some ⟨g, 0, none⟩) n c) none (some (.int .i64 x)) (some (.int .i64 x))).run P W = .ok (.slice (some ⟨g, 0, none⟩) hh hh) W := by
  subst hx
  have e := addr_add g 0 0
  simp [Instr.slice, Instr.sliceBounds, Instr.sliceBound, asIntOf, run_underlying ht, sizeOf, typeInfo, hi, h1, e]
theorem take_splice {β : Type} (cur XS : List β) (y : β) (i : Nat) (hi : i ≤ XS.length) (h : XS.length + 1 ≤ cur.length) (ht : cur.take i = XS.take i) : (splice (splice cur (i + 1) (XS.drop i)) i [y]).take (XS.length + 1) = XS.take i ++ y :: XS.drop i ∧ (splice (splice cur i [y]) (i + 1) (XS.drop i)).take (XS.length + 1) = XS.take i ++ y :: XS.drop i := by
  obtain ⟨C, hC⟩ : ∃ C, C = cur.drop i := ⟨_, rfl⟩
  have e : cur = XS.take i ++ C := by rw [hC, ← ht, List.take_append_drop]
  have hl : (XS.take i).length = i := by rw [List.length_take]; omega
  have hCl : XS.length + 1 - i ≤ C.length := by rw [hC, List.length_drop]; omega
  rcases C with _ | ⟨c, C⟩
  · simp only [List.length_nil] at hCl; omega
  · have hd : (XS.drop i).length = XS.length - i := List.length_drop
    generalize XS.take i = T at *
    generalize XS.drop i = D at *
    subst hl
    rw [e]
    simp only [List.length_cons] at hCl
    have e1 : ∀ z : β, (T ++ z :: C).take (T.length + 1) = T ++ [z] := fun z => by
      rw [show T ++ z :: C = (T ++ [z]) ++ C from by simp, show T.length + 1 = (T ++ [z]).length from by simp]
      exact List.take_left
    have e2 : ∀ z : β, (T ++ z :: C).drop (T.length + 1 + D.length) = C.drop D.length := fun z => by
      rw [show T ++ z :: C = (T ++ [z]) ++ C from by simp, show T.length + 1 + D.length = (T ++ [z]).length + D.length from by simp]
      exact List.drop_length_add_append ..
    have k1 : splice (T ++ c :: C) (T.length + 1) D = T ++ c :: (D ++ C.drop D.length) := by
      unfold splice; rw [e1 c, e2 c]; simp
    have k2 : splice (T ++ c :: C) T.length [y] = T ++ y :: C := by
      unfold splice; simp
    have k3 : splice (T ++ y :: C) (T.length + 1) D = T ++ y :: (D ++ C.drop D.length) := by
      unfold splice; rw [e1, e2]; simp
    have k4 : splice (T ++ c :: (D ++ C.drop D.length)) T.length [y] = T ++ y :: (D ++ C.drop D.length) := by
      unfold splice; simp
    have k5 : (T ++ y :: (D ++ C.drop D.length)).take (XS.length + 1) = T ++ y :: D := by
      have : XS.length + 1 = (T ++ y :: D).length := by simp; omega
      rw [this, show T ++ y :: (D ++ C.drop D.length) = (T ++ y :: D) ++ C.drop D.length from by simp]
      exact List.take_left
    rw [k1, k2, k3, k4]
    exact ⟨k5, k5⟩
end Go.Proofs.Ytfhonfeopkhdeaa

namespace Go.Proofs.Ytfhonfeopkhdeaa
open Go.RowKit Go.Proofs.YtfhonfeopkhdeaaW.PrintWords

theorem slice_i {P : Program} (t e : TypeId) {i : TypeInfo} (ht : P.underlying t = some (.slice e)) (hi : P.info? e = some i) (hsz : i.size = 1) (g n c lo hh mx : Nat) (x y z : Int) (hx : x = (lo : Int)) (hy : y = (hh : Int)) (hz : z = (mx : Int)) (h1 : lo ≤ hh) (h2 : hh ≤ mx) (h3 : mx ≤ c) (h4 : lo < mx) (W : World) :
    (Instr.slice t (.slice (some ⟨g, 0, none⟩) n c) (some (.int .i64 x)) (some (.int .i64 y)) (some (.int .i64 z))).run P W = .ok (.slice (some ⟨g, lo, none⟩) (hh - lo) (mx - lo)) W := by
  subst hx hy hz
  have e := addr_add g 0 lo
  rw [Nat.zero_add] at e
  simp [Instr.slice, Instr.sliceBounds, Instr.sliceBound, asIntOf, run_underlying ht, sizeOf, typeInfo, hi, hsz, h1, h2, h3, show ¬ mx = lo from by omega, e]
theorem slice_j {P : Program} (t e : TypeId) {i : TypeInfo} (ht : P.underlying t = some (.slice e)) (hi : P.info? e = some i) (hsz : i.size = 1) (g n c lo hh : Nat) (x y : Int) (hx : x = (lo : Int)) (hy : y = (hh : Int)) (h1 : lo ≤ hh) (h3 : hh ≤ c) (h4 : lo < c) (W : World) :
    (Instr.slice t (.slice (some ⟨g, 0, none⟩) n c) (some (.int .i64 x)) (some (.int .i64 y)) none).run P W = .ok (.slice (some ⟨g, lo, none⟩) (hh - lo) (c - lo)) W := by
  subst hx hy
  have e := addr_add g 0 lo
  rw [Nat.zero_add] at e
  simp [Instr.slice, Instr.sliceBounds, Instr.sliceBound, asIntOf, run_underlying ht, sizeOf, typeInfo, hi, hsz, h1, h3, show ¬ c = lo from by omega, e]
/-- s[lo:], lo at the end, too. -/
theorem slice_e {P : Program} (t e : TypeId) {i : TypeInfo} (ht : P.underlying t = some (.slice e)) (hi : P.info? e = some i) (hsz : i.size = 1) (g n c lo : Nat) (x : Int) (hx : x = (lo : Int)) (h1 : lo ≤ n) (h2 : n ≤ c) :
    ∃ ad, (lo < n → ad = ⟨g, lo, none⟩) ∧ ∀ W, (Instr.slice t (.slice (some ⟨g, 0, none⟩) n c) (some (.int .i64 x)) none none).run P W = .ok (.slice (some ad) (n - lo) (c - lo)) W := by
  by_cases h3 : lo < c
  · exact ⟨⟨g, lo, none⟩, fun _ => rfl, fun W => slice_lo t e ht hi hsz g n c lo x hx h1 h2 h3 W⟩
  · obtain rfl : lo = c := by omega
    obtain rfl : n = lo := by omega
    subst hx
    have e := addr_add g 0 0
    refine ⟨⟨g, 0, none⟩, fun h => by omega, fun W => ?_⟩
    simp [Instr.slice, Instr.sliceBounds, Instr.sliceBound, asIntOf, run_underlying ht, sizeOf, typeInfo, hi]
theorem step_run {P : Program} {ops : Array Oper} {o : Oper} {a : Act} {w : World} {K : Act → World → Prop} {Q : Exit → Act → World → Prop} {E : Prop} (hgd : o.guard = none) (s x : Operand) (t tn : TypeId)
    (ho : o.op = .call { callee := .builtin .append, args := #[s, x], argTypes := #[t, tn] }) (vs vx : Value) (hs : a.eval s = vs) (hx : a.eval x = vx)
    (v' : Value) (w' : World) (hr : (Builtin.append_ #[t, tn] o.type #[vs, vx]).run P w = .ok v' w') (h : K (a.put o.dst v') w') :
    if Region.wanted o (yielded ops a.tmps) = true then Oper.wp P o a w K Q else E := by
  have hw : Region.wanted o (yielded ops a.tmps) = true := by simp [Region.wanted, hgd]
  rw [if_pos hw]
  exact Lib.wp_append_run w s x t tn ho vs vx hs hx v' w' hr h
end Go.Proofs.Ytfhonfeopkhdeaa

namespace Go.Proofs.Ytfhonfeopkhdeaa
open Go

section
variable {P : Program} {md : Region.Mode} {ops : Array Oper} {Q : Exit → Act → World → Prop} {S : World → Prop} {z : Nat}
/-- Whatever order is picked, S holding behind each operation but number z. -/
def wpZ (P : Program) (md : Region.Mode) (ops : Array Oper) (Q : Exit → Act → World → Prop) (S : World → Prop) (z : Nat) : Nat → Array Bool → Act → World → Prop
  | 0, ls, a, w => Region.ready md ops ls = [] ∧ Q .normal a w
  | n + 1, ls, a, w => (Region.ready md ops ls = [] → Q .normal a w) ∧ ∀ i ∈ Region.ready md ops ls, wpOp P ops Q i (fun a' w' => (i = z ∨ S w') ∧ wpZ P md ops Q S z n (ls.setIfInBounds i true) a' w') a w
theorem wpZ_any : ∀ (n : Nat) (ls : Array Bool) (a : Act) (w : World), wpZ P md ops Q S z n ls a w → wpAny P md ops Q n ls a w
  | 0, _, _, _, h => h
  | n + 1, _, _, _, h => ⟨h.1, fun i hi => wpOp_mono (fun a' w' k => wpZ_any n _ a' w' k.2) (h.2 i hi)⟩
/-- Number z waits for number i. -/
def waitsFor (md : Region.Mode) (ops : Array Oper) (z i : Nat) : Bool := match ops[z]? with
  | some o => o.after.any fun e => Region.binds md e && e.on == i
  | none => false
theorem not_ready {ls : Array Bool} {i : Nat} (hw : waitsFor md ops z i = true) (hi : i ∈ Region.ready md ops ls) : z ∉ Region.ready md ops ls := fun hz => by
  obtain ⟨_, oz, hoz, hall⟩ := mem_ready.1 hz
  have h0 := (mem_ready.1 hi).1
  unfold waitsFor at hw
  rw [hoz] at hw
  obtain ⟨e, he, hb⟩ := Array.any_eq_true'.1 hw
  simp only [Bool.and_eq_true, beq_iff_eq] at hb
  have h1 := hall e he hb.1
  rw [hb.2] at h1
  rcases Nat.lt_or_ge i ls.size with h' | h'
  · simp [h'] at h0 h1; rw [h0] at h1; cases h1
  · simp [Array.getElem?_eq_none h'] at h1
theorem wpZ_first {i : Nat} {oi : Oper} {v : Value} (hi : ops[i]? = some oi) (hsel : ∀ (j : Nat) (o : Oper) cs b, ops[j]? = some o → o.op ≠ .select cs b) (hQ : ∀ c a w, Q (.panic c) (a.put oi.dst v) w → Q (.panic c) a w) (hz : waitsFor md ops z i = true) :
    ∀ (n : Nat) (ls : Array Bool) (a : Act) (w : World), (∀ j oj, ops[j]? = some oj → j ≠ i → ls.getD j true = false → (∀ e ∈ oj.after, Region.binds md e = true → e.on ≠ i) → oi.apart ops oj = true) →
      i ∈ Region.ready md ops ls → YieldsIf P ops S oi v a → S w → wpZ P md ops Q S z n (ls.setIfInBounds i true) (a.put oi.dst v) w → wpZ P md ops Q S z (n + 1) ls a w
  | 0, ls, a, w, _, hr, hy, hS, H => ⟨fun h => by (rw [h] at hr; cases hr), fun j hj => by
      by_cases e : j = i
      · subst e
        exact hy.wpOp hi hS ⟨.inr hS, H⟩
      · have h := ready_mono hj e
        rw [H.1] at h
        cases h⟩
  | n + 1, ls, a, w, hfree, hr, hy, hS, H => ⟨fun h => by (rw [h] at hr; cases hr), fun j hj => by
      by_cases e : j = i
      · subst e
        exact hy.wpOp hi hS ⟨.inr hS, H⟩
      · have hjz : j ≠ z := fun h => not_ready hz hr (h ▸ hj)
        obtain ⟨hjun, oj, hoj, hall⟩ := mem_ready.1 hj
        have hnot : ∀ e ∈ oj.after, Region.binds md e = true → e.on ≠ i := fun e he hb heq => by
          have h1 := hall e he hb
          have h0 := (mem_ready.1 hr).1
          rw [heq] at h1
          rcases Nat.lt_or_ge i ls.size with h' | h'
          · simp [h'] at h0 h1; rw [h0] at h1; cases h1
          · simp [Array.getElem?_eq_none h'] at h1
        have h2 := wpOp_putIf hoj (hfree j oj hoj e hjun hnot) (fun cs b => hsel i oi cs b hi) (fun cs b => hsel j oj cs b hoj) hQ hy (H.2 j (ready_mono hj e))
        refine wpOp_mono (fun a' w' h3 => ?_) h2
        have hS' : S w' := h3.2.1.resolve_left hjz
        refine ⟨.inr hS', wpZ_first hi hsel hQ hz n (ls.setIfInBounds j true) a' w' (fun k ok hk hki hun hno => hfree k ok hk hki ?_ hno) (ready_mono hr (Ne.symm e)) h3.1 hS' ?_⟩
        · by_cases hjk : j = k
          · subst hjk; exact hjun
          · rw [getD_set_ne true hjk] at hun; exact hun
        · rw [Array.setIfInBounds_comm _ _ e]
          exact h3.2.2⟩
theorem wpZ_take {i : Nat} {oi : Oper} {v : Value} {n : Nat} {ls : Array Bool} {a : Act} {w : World} (hi : ops[i]? = some oi) (hs : Region.noSelect ops = true) (hf : Region.free md ops ls i = true) (hr : (Region.ready md ops ls).contains i = true) (hz : waitsFor md ops z i = true)
    (hQ : ∀ c a w, Q (.panic c) (a.put oi.dst v) w → Q (.panic c) a w) (hy : YieldsIf P ops S oi v a) (hS : S w) (h : wpZ P md ops Q S z n (ls.setIfInBounds i true) (a.put oi.dst v) w) : wpZ P md ops Q S z (n + 1) ls a w :=
  wpZ_first hi (Region.noSelect_spec hs) hQ hz n ls a w (Region.free_spec hi hf) (by simpa using hr) hy hS h
/-- One operation alone may come up: it is carried out; S is shown anew, unless it is number z. -/
theorem wpZ_one {i : Nat} {o : Oper} {n : Nat} {ls : Array Bool} {a : Act} {w : World} (hr : Region.ready md ops ls = [i]) (ho : ops[i]? = some o)
    (h : ∀ K : Act → World → Prop, Shut (∀ a w, (i = z ∨ S w) → wpZ P md ops Q S z n (ls.setIfInBounds i true) a w → K a w) → if Region.wanted o (yielded ops a.tmps) = true then Oper.wp P o a w K Q else K (a.put o.dst undef) w) : wpZ P md ops Q S z (n + 1) ls a w :=
  ⟨fun h0 => by (rw [hr] at h0; cases h0), fun j hj => by
    rw [hr] at hj
    obtain rfl := List.mem_singleton.1 hj
    exact wpOp_step ho (fun K hK => h K (fun a w h1 h2 => hK a w ⟨h1, h2⟩))⟩
theorem wpZ_done {ls : Array Bool} {a : Act} {w : World} (hr : Region.ready md ops ls = []) (h : Q .normal a w) : ∀ n, wpZ P md ops Q S z n ls a w
  | 0 => ⟨hr, h⟩
  | _ + 1 => ⟨fun _ => h, by rw [hr]; simp⟩
theorem wp_region_Z (S : World → Prop) (z : Nat) {id : Nat} {a : Act} {w : World} (hm : P.follows .mixedOrders = true) (h : wpZ P .any ops Q S z ops.size (Array.replicate ops.size false) a w.drew) : (Code.region id ops true).wp P Q a w :=
  wp_region_any hm (wpZ_any _ _ _ _ h)
end
end Go.Proofs.Ytfhonfeopkhdeaa

namespace Go.Proofs.Ytfhonfeopkhdeaa
open Go

/-- A region of a function's text. -/
def findRg (k : Nat) : Code → Option Code
  | .region id ops b => if id = k then some (.region id ops b) else none
  | .seq a b => (findRg k a).or (findRg k b)
  | .cond _ a b => (findRg k a).or (findRg k b)
  | .loop c => findRg k c
  | .block _ c => findRg k c
  | .scope c => findRg k c
  | _ => none
/-- No exit but the normal one. -/
def onN (R : Act → World → Prop) : Exit → Act → World → Prop
  | .normal, a, w => R a w
  | _, _, _ => False
theorem wp_onN {P : Program} {c : Code} {Q : Exit → Act → World → Prop} {a : Act} {w : World} (h : c.wp P (onN (Q .normal)) a w) : c.wp P Q a w := Code.wp_mono (fun e a w q => by cases e <;> first | exact q | exact q.elim) h
section
variable {P : Program} {md : Region.Mode} {ops : Array Oper} {Q : Exit → Act → World → Prop} {S : World → Prop} {Z : List Nat}
/-- Whatever order is picked, S holding behind each operation but those of Z. -/
def wpY (P : Program) (md : Region.Mode) (ops : Array Oper) (Q : Exit → Act → World → Prop) (S : World → Prop) (Z : List Nat) : Nat → Array Bool → Act → World → Prop
  | 0, ls, a, w => Region.ready md ops ls = [] ∧ Q .normal a w
  | n + 1, ls, a, w => (Region.ready md ops ls = [] → Q .normal a w) ∧ ∀ i ∈ Region.ready md ops ls, wpOp P ops Q i (fun a' w' => (i ∈ Z ∨ S w') ∧ wpY P md ops Q S Z n (ls.setIfInBounds i true) a' w') a w
theorem wpY_any : ∀ (n : Nat) (ls : Array Bool) (a : Act) (w : World), wpY P md ops Q S Z n ls a w → wpAny P md ops Q n ls a w
  | 0, _, _, _, h => h
  | n + 1, _, _, _, h => ⟨h.1, fun i hi => wpOp_mono (fun a' w' k => wpY_any n _ a' w' k.2) (h.2 i hi)⟩
/-- What is done has all done that it waits for. -/
def Closed (md : Region.Mode) (ops : Array Oper) (ls : Array Bool) : Prop := ∀ z i, waitsFor md ops z i = true → ls.getD z false = true → ls.getD i false = true
def closedB (md : Region.Mode) (ops : Array Oper) (ls : Array Bool) : Bool := (List.range ops.size).all fun z => !ls.getD z false || match ops[z]? with
  | some o => o.after.all fun e => !Region.binds md e || ls.getD e.on false
  | none => true
theorem closed_of {ls : Array Bool} (h : closedB md ops ls = true) : Closed md ops ls := fun z i hw hz => by
  unfold waitsFor at hw
  split at hw
  · next o ho =>
    have hz2 : z < ops.size := (Array.getElem?_eq_some_iff.1 ho).1
    have h1 := List.all_eq_true.1 h z (List.mem_range.2 hz2)
    rw [hz, ho] at h1
    simp only [Bool.not_true, Bool.false_or] at h1
    obtain ⟨e, he, hb⟩ := Array.any_eq_true'.1 hw
    simp only [Bool.and_eq_true, beq_iff_eq] at hb
    have h2 := Array.all_eq_true'.1 h1 e he
    rw [hb.1] at h2
    rw [← hb.2]
    simpa using h2
  · cases hw
theorem ready_waits {ls : Array Bool} {z i : Nat} (hw : waitsFor md ops z i = true) (hz : z ∈ Region.ready md ops ls) : ls.getD i false = true := by
  obtain ⟨_, oz, hoz, hall⟩ := mem_ready.1 hz
  unfold waitsFor at hw
  rw [hoz] at hw
  obtain ⟨e, he, hb⟩ := Array.any_eq_true'.1 hw
  simp only [Bool.and_eq_true, beq_iff_eq] at hb
  have h1 := hall e he hb.1
  rw [hb.2] at h1
  exact h1
/-- z waits for i over others. -/
def chainB (md : Region.Mode) (ops : Array Oper) : List Nat → Nat → Bool
  | [], _ => false
  | [z], i => waitsFor md ops z i
  | z :: p :: r, i => waitsFor md ops z p && chainB md ops (p :: r) i
theorem chain_not {ls : Array Bool} (hc : Closed md ops ls) {i : Nat} (hi : ls.getD i false = false) : ∀ (p : List Nat), chainB md ops p i = true → ∀ z, p.head? = some z → z ∉ Region.ready md ops ls ∧ ls.getD z false = false
  | [], h, _, _ => by simp [chainB] at h
  | [z], h, z', e => by
    cases e
    refine ⟨fun hz => ?_, ?_⟩
    · have := ready_waits h hz
      rw [hi] at this
      cases this
    · cases hz : ls.getD z false with
      | false => rfl
      | true =>
        have := hc z i h hz
        rw [hi] at this
        cases this
  | z :: p :: r, h, z', e => by
    cases e
    simp only [chainB, Bool.and_eq_true] at h
    obtain ⟨_, h2⟩ := chain_not hc hi (p :: r) h.2 p rfl
    refine ⟨fun hz => ?_, ?_⟩
    · have := ready_waits h.1 hz
      rw [h2] at this
      cases this
    · cases hz : ls.getD z false with
      | false => rfl
      | true =>
        have := hc z p h.1 hz
        rw [h2] at this
        cases this
theorem closed_set {ls : Array Bool} (hc : Closed md ops ls) {j : Nat} (hj : j ∈ Region.ready md ops ls) : Closed md ops (ls.setIfInBounds j true) := fun z i hw hz => by
  have up : ∀ k, ls.getD k false = true → (ls.setIfInBounds j true).getD k false = true := fun k hk => by
    by_cases e : j = k
    · subst e
      by_cases hl : j < ls.size
      · simp [hl]
      · simp [hl] at hk
    · rw [getD_set_ne false e]; exact hk
  by_cases e : j = z
  · subst e
    exact up i (ready_waits hw hj)
  · rw [getD_set_ne false e] at hz
    exact up i (hc z i hw hz)
theorem wpY_first {i : Nat} {oi : Oper} {v : Value} (hi : ops[i]? = some oi) (hsel : ∀ (j : Nat) (o : Oper) cs b, ops[j]? = some o → o.op ≠ .select cs b) (hQ : ∀ c a w, Q (.panic c) (a.put oi.dst v) w → Q (.panic c) a w) (hz : ∀ z ∈ Z, ∃ p, chainB md ops (z :: p) i = true) :
    ∀ (n : Nat) (ls : Array Bool) (a : Act) (w : World), Closed md ops ls → (∀ j oj, ops[j]? = some oj → j ≠ i → ls.getD j true = false → (∀ e ∈ oj.after, Region.binds md e = true → e.on ≠ i) → oi.apart ops oj = true) →
      i ∈ Region.ready md ops ls → YieldsIf P ops S oi v a → S w → wpY P md ops Q S Z n (ls.setIfInBounds i true) (a.put oi.dst v) w → wpY P md ops Q S Z (n + 1) ls a w
  | 0, ls, a, w, _, _, hr, hy, hS, H => ⟨fun h => by (rw [h] at hr; cases hr), fun j hj => by
      by_cases e : j = i
      · subst e
        exact hy.wpOp hi hS ⟨.inr hS, H⟩
      · have h := ready_mono hj e
        rw [H.1] at h
        cases h⟩
  | n + 1, ls, a, w, hcl, hfree, hr, hy, hS, H => ⟨fun h => by (rw [h] at hr; cases hr), fun j hj => by
      by_cases e : j = i
      · subst e
        exact hy.wpOp hi hS ⟨.inr hS, H⟩
      · have hi0 : ls.getD i false = false := by
          have h0 := (mem_ready.1 hr).1
          rcases Nat.lt_or_ge i ls.size with h' | h'
          · simp [h'] at h0 ⊢; exact h0
          · simp [Array.getElem?_eq_none h']
        have hjz : j ∉ Z := fun h => by
          obtain ⟨p, hp⟩ := hz j h
          exact (chain_not hcl hi0 (j :: p) hp j rfl).1 hj
        obtain ⟨hjun, oj, hoj, hall⟩ := mem_ready.1 hj
        have hnot : ∀ e ∈ oj.after, Region.binds md e = true → e.on ≠ i := fun e he hb heq => by
          have h1 := hall e he hb
          have h0 := (mem_ready.1 hr).1
          rw [heq] at h1
          rcases Nat.lt_or_ge i ls.size with h' | h'
          · simp [h'] at h0 h1; rw [h0] at h1; cases h1
          · simp [Array.getElem?_eq_none h'] at h1
        have h2 := wpOp_putIf hoj (hfree j oj hoj e hjun hnot) (fun cs b => hsel i oi cs b hi) (fun cs b => hsel j oj cs b hoj) hQ hy (H.2 j (ready_mono hj e))
        refine wpOp_mono (fun a' w' h3 => ?_) h2
        have hS' : S w' := h3.2.1.resolve_left hjz
        refine ⟨.inr hS', wpY_first hi hsel hQ hz n (ls.setIfInBounds j true) a' w' (closed_set hcl hj) (fun k ok hk hki hun hno => hfree k ok hk hki ?_ hno) (ready_mono hr (Ne.symm e)) h3.1 hS' ?_⟩
        · by_cases hjk : j = k
          · subst hjk; exact hjun
          · rw [getD_set_ne true hjk] at hun; exact hun
        · rw [Array.setIfInBounds_comm _ _ e]
          exact h3.2.2⟩
def pathsB (md : Region.Mode) (ops : Array Oper) (Z : List Nat) (ps : List (List Nat)) (i : Nat) : Bool := Z.all fun z => ps.any fun p => p.head? == some z && chainB md ops p i
theorem paths_of {ps : List (List Nat)} {i : Nat} (h : pathsB md ops Z ps i = true) : ∀ z ∈ Z, ∃ p, chainB md ops (z :: p) i = true := fun z hz => by
  have h1 := List.all_eq_true.1 h z hz
  obtain ⟨p, _, hp⟩ := List.any_eq_true.1 h1
  simp only [Bool.and_eq_true, beq_iff_eq] at hp
  cases p with
  | nil => simp at hp
  | cons x r =>
    have : x = z := by simpa using hp.1
    subst this
    exact ⟨r, hp.2⟩
theorem wpY_take {i : Nat} {oi : Oper} {v : Value} {n : Nat} {ls : Array Bool} {a : Act} {w : World} (ps : List (List Nat)) (hi : ops[i]? = some oi) (hs : Region.noSelect ops = true) (hf : Region.free md ops ls i = true) (hr : (Region.ready md ops ls).contains i = true) (hz : (pathsB md ops Z ps i && closedB md ops ls) = true)
    (hQ : ∀ c a w, Q (.panic c) (a.put oi.dst v) w → Q (.panic c) a w) (hy : YieldsIf P ops S oi v a) (hS : S w) (h : wpY P md ops Q S Z n (ls.setIfInBounds i true) (a.put oi.dst v) w) : wpY P md ops Q S Z (n + 1) ls a w := by
  rw [Bool.and_eq_true] at hz
  exact wpY_first hi (Region.noSelect_spec hs) hQ (paths_of hz.1) n ls a w (closed_of hz.2) (Region.free_spec hi hf) (by simpa using hr) hy hS h
/-- One operation alone may come up: it is carried out; S is shown anew, unless it is of Z. -/
theorem wpY_one {i : Nat} {o : Oper} {n : Nat} {ls : Array Bool} {a : Act} {w : World} (hr : Region.ready md ops ls = [i]) (ho : ops[i]? = some o)
    (h : ∀ K : Act → World → Prop, Shut (∀ a w, (i ∈ Z ∨ S w) → wpY P md ops Q S Z n (ls.setIfInBounds i true) a w → K a w) → if Region.wanted o (yielded ops a.tmps) = true then Oper.wp P o a w K Q else K (a.put o.dst undef) w) : wpY P md ops Q S Z (n + 1) ls a w :=
  ⟨fun h0 => by (rw [hr] at h0; cases h0), fun j hj => by
    rw [hr] at hj
    obtain rfl := List.mem_singleton.1 hj
    exact wpOp_step ho (fun K hK => h K (fun a w h1 h2 => hK a w ⟨h1, h2⟩))⟩
/-- Two may come up: either. -/
theorem wpY_two {i j : Nat} {oi oj : Oper} {n : Nat} {ls : Array Bool} {a : Act} {w : World} (hr : Region.ready md ops ls = [i, j]) (hi : ops[i]? = some oi) (hj : ops[j]? = some oj)
    (h1 : ∀ K : Act → World → Prop, Shut (∀ a w, (i ∈ Z ∨ S w) → wpY P md ops Q S Z n (ls.setIfInBounds i true) a w → K a w) → if Region.wanted oi (yielded ops a.tmps) = true then Oper.wp P oi a w K Q else K (a.put oi.dst undef) w)
    (h2 : ∀ K : Act → World → Prop, Shut (∀ a w, (j ∈ Z ∨ S w) → wpY P md ops Q S Z n (ls.setIfInBounds j true) a w → K a w) → if Region.wanted oj (yielded ops a.tmps) = true then Oper.wp P oj a w K Q else K (a.put oj.dst undef) w) : wpY P md ops Q S Z (n + 1) ls a w :=
  ⟨fun h0 => by (rw [hr] at h0; cases h0), fun k hk => by
    rw [hr] at hk
    rcases List.mem_cons.1 hk with rfl | hk
    · exact wpOp_step hi (fun K hK => h1 K (fun a w x y => hK a w ⟨x, y⟩))
    · obtain rfl := List.mem_singleton.1 hk
      exact wpOp_step hj (fun K hK => h2 K (fun a w x y => hK a w ⟨x, y⟩))⟩
theorem wpY_done {ls : Array Bool} {a : Act} {w : World} (hr : Region.ready md ops ls = []) (h : Q .normal a w) : ∀ n, wpY P md ops Q S Z n ls a w
  | 0 => ⟨hr, h⟩
  | _ + 1 => ⟨fun _ => h, by rw [hr]; simp⟩
/-- The condition may be another one from here on. -/
theorem wpY_mono {S' : World → Prop} {Z' : List Nat} (hS : ∀ i w, (i ∈ Z' ∨ S' w) → (i ∈ Z ∨ S w)) : ∀ (n : Nat) (ls : Array Bool) (a : Act) (w : World), wpY P md ops Q S' Z' n ls a w → wpY P md ops Q S Z n ls a w
  | 0, _, _, _, h => h
  | n + 1, _, _, _, h => ⟨h.1, fun i hi => wpOp_mono (fun a' w' k => ⟨hS i w' k.1, wpY_mono hS n _ a' w' k.2⟩) (h.2 i hi)⟩
theorem wpY_swap (S : World → Prop) (Z : List Nat) {n : Nat} {ls : Array Bool} {a : Act} {w : World} (h : wpY P md ops Q S Z n ls a w) : wpY P md ops Q (fun _ => True) [] n ls a w := wpY_mono (fun _ _ _ => .inr trivial) n ls a w h
theorem wp_region_Y0 {id : Nat} {a : Act} {w : World} (hm : P.follows .mixedOrders = true) (h : wpY P .any ops Q (fun _ => True) [] ops.size (Array.replicate ops.size false) a w.drew) : (Code.region id ops true).wp P Q a w :=
  wp_region_any hm (wpY_any _ _ _ _ h)
theorem wp_region_Y1 {id : Nat} {a : Act} {w : World} (hm : P.follows .mixedOrders = true) (h : ∀ V, V = w.drew → wpY P .any ops Q (fun _ => True) [] ops.size (Array.replicate ops.size false) a V) : (Code.region id ops true).wp P Q a w :=
  wp_region_Y0 hm (h _ rfl)
theorem letK {K : Act → World → Prop} {a : Act} {W : World} (h : ∀ V, V = W → K a V) : K a W := h W rfl
theorem wp_region_Y (S : World → Prop) (Z : List Nat) {id : Nat} {a : Act} {w : World} (hm : P.follows .mixedOrders = true) (h : wpY P .any ops Q S Z ops.size (Array.replicate ops.size false) a w.drew) : (Code.region id ops true).wp P Q a w :=
  wp_region_any hm (wpY_any _ _ _ _ h)
end
end Go.Proofs.Ytfhonfeopkhdeaa
