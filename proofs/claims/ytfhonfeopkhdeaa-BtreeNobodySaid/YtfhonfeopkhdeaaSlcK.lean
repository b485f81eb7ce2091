/-
  Slices of a row, told by plain numbers. No premise.
-/
import Derived.Test.YtfhonfeopkhdeaaRwK
namespace Go.Proofs.Ytfhonfeopkhdeaa
open Go.RowKit Go.Proofs.YtfhonfeopkhdeaaW.PrintWords

theorem addr_add (g i j : Nat) : (⟨g, i, none⟩ : Addr).add j = ⟨g, i + j, none⟩ := by
  unfold Addr.add
  by_cases h : j = 0 <;> simp [h]
theorem slice_lo {P : Program} (t e : TypeId) {i : TypeInfo} (ht : P.underlying t = some (.slice e)) (hi : P.info? e = some i) (hsz : i.size = 1) (g n c lo : Nat) (x : Int) (hx : x = (lo : Int)) (h1 : lo ≤ n) (h2 : n ≤ c) (h3 : lo < c) (W : World) :
    (Instr.slice t (.slice (some ⟨g, 0, none⟩) n c) (some (.int .i64 x)) none none).run P W = .ok (.slice (some ⟨g, lo, none⟩) (n - lo) (c - lo)) W := by
  subst hx
  have e := addr_add g 0 lo
  rw [Nat.zero_add] at e
  simp [Instr.slice, Instr.sliceBounds, Instr.sliceBound, asIntOf, run_underlying ht, sizeOf, typeInfo, hi, hsz, h1, show ¬ c = lo from by omega, e]
theorem slice_hi {P : Program} (t e : TypeId) {i : TypeInfo} (ht : P.underlying t = some (.slice e)) (hi : P.info? e = some i) (hsz : i.size = 1) (g n c hh : Nat) (x : Int) (hx : x = (hh : Int)) (h1 : hh ≤ c) (W : World) :
    (Instr.slice t (.slice (some ⟨g, 0, none⟩) n c) none (some (.int .i64 x)) none).run P W = .ok (.slice (some ⟨g, 0, none⟩) hh c) W := by
  subst hx
  have e := addr_add g 0 0
  simp [Instr.slice, Instr.sliceBounds, Instr.sliceBound, asIntOf, run_underlying ht, sizeOf, typeInfo, hi, hsz, h1, e]
/-- x[:m:m] -/
theorem slice_hm {P : Program} (t e : TypeId) {i : TypeInfo} (ht : P.underlying t = some (.slice e)) (hi : P.info? e = some i) (hsz : i.size = 1) (g n c hh : Nat) (x : Int) (hx : x = (hh : Int)) (h1 : hh ≤ c) (W : World) :
    (Instr.slice t (.slice (some ⟨g, 0, none⟩) n c) none (some (.int .i64 x)) (some (.int .i64 x))).run P W = .ok (.slice (some ⟨g, 0, none⟩) hh hh) W := by
  subst hx
  have e := addr_add g 0 0
  simp [Instr.slice, Instr.sliceBounds, Instr.sliceBound, asIntOf, run_underlying ht, sizeOf, typeInfo, hi, hsz, h1, e]
theorem take_splice {β : Type} (cur XS : List β) (y : β) (i : Nat) (hi : i ≤ XS.length) (h : XS.length + 1 ≤ cur.length) (ht : cur.take i = XS.take i) : (splice (splice cur (i + 1) (XS.drop i)) i [y]).take (XS.length + 1) = XS.take i ++ y :: XS.drop i ∧ (splice (splice cur i [y]) (i + 1) (XS.drop i)).take (XS.length + 1) = XS.take i ++ y :: XS.drop i := by
  obtain ⟨C, hC⟩ : ∃ C, C = cur.drop i := ⟨_, rfl⟩
  have e : cur = XS.take i ++ C := by rw [hC, ← ht, List.take_append_drop]
  have hl : (XS.take i).length = i := by rw [List.length_take]; omega
  have hCl : XS.length + 1 - i ≤ C.length := by rw [hC, List.length_drop]; omega
  rcases C with _ | ⟨c, C⟩
  · simp only [List.length_nil] at hCl; omega
  · have hd : (XS.drop i).length = XS.length - i := List.length_drop
    generalize XS.take i = T at *
    generalize XS.drop i = D at *
    subst hl
    rw [e]
    simp only [List.length_cons] at hCl
    have e1 : ∀ z : β, (T ++ z :: C).take (T.length + 1) = T ++ [z] := fun z => by
      rw [show T ++ z :: C = (T ++ [z]) ++ C from by simp, show T.length + 1 = (T ++ [z]).length from by simp]
      exact List.take_left
    have e2 : ∀ z : β, (T ++ z :: C).drop (T.length + 1 + D.length) = C.drop D.length := fun z => by
      rw [show T ++ z :: C = (T ++ [z]) ++ C from by simp, show T.length + 1 + D.length = (T ++ [z]).length + D.length from by simp]
      exact List.drop_length_add_append ..
    have k1 : splice (T ++ c :: C) (T.length + 1) D = T ++ c :: (D ++ C.drop D.length) := by
      unfold splice; rw [e1 c, e2 c]; simp
    have k2 : splice (T ++ c :: C) T.length [y] = T ++ y :: C := by
      unfold splice; simp
    have k3 : splice (T ++ y :: C) (T.length + 1) D = T ++ y :: (D ++ C.drop D.length) := by
      unfold splice; rw [e1, e2]; simp
    have k4 : splice (T ++ c :: (D ++ C.drop D.length)) T.length [y] = T ++ y :: (D ++ C.drop D.length) := by
      unfold splice; simp
    have k5 : (T ++ y :: (D ++ C.drop D.length)).take (XS.length + 1) = T ++ y :: D := by
      have : XS.length + 1 = (T ++ y :: D).length := by simp; omega
      rw [this, show T ++ y :: (D ++ C.drop D.length) = (T ++ y :: D) ++ C.drop D.length from by simp]
      exact List.take_left
    rw [k1, k2, k3, k4]
    exact ⟨k5, k5⟩
end Go.Proofs.Ytfhonfeopkhdeaa
