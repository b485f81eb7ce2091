/-
  Rows of bytes that came in: opened, and what the second form's bound says of them. No premise.
-/
import Derived.Test.YtelphnkbaeglaaaRows2
import Derived.Test.YtelphnkbaeglaaaRows
import Derived.Deep.Matrix
import Derived.WalkKit
import Derived.ProofKit
import Derived.OpenShut
import Derived.ChangeOld
namespace Go.Proofs.Ytelphnkbaeglaaa
open Go.ChangeShapes Go.WideShapes Go.ChangeAt Go.RowKit Go.Proofs.YtelphnkbaeglaaaW.PrintWords

theorem bulk_lits {H : Type} (k : IntKind) (zs : List Int) : Rows.uptoBulkAll (lits k zs : List (DataW H)) = zs.length := by
  induction zs with
  | nil => rfl
  | cons z zs ih =>
    have e : (lits k (z :: zs) : List (DataW H)) = .lit (.int k z) :: lits k zs := rfl
    rw [e, Rows.uptoBulkAll, ih, List.length_cons]
    show Rows.uptoBulk (.lit (.int k z)) + zs.length = zs.length + 1
    rw [Rows.uptoBulk]
    · omega
    · intro b h; cases h
theorem bulk_row {H : Type} (k : IntKind) (A : Option Addr) (L : Nat) (zs : List Int) (hn : A = none → L = 0) (hl : L ≤ zs.length) : L ≤ Rows.uptoBulk (Deep.intRow k A L zs : DataW H) ∧ 1 ≤ Rows.uptoBulk (Deep.intRow k A L zs : DataW H) := by
  cases A with
  | none =>
    have e : (Deep.intRow k none L zs : DataW H) = .nil := rfl
    rw [e, Rows.uptoBulk, hn rfl]
    omega
  | some a =>
    have e : (Deep.intRow k (some a) L zs : DataW H) = .slice (lits k (zs.take L)) (lits k (zs.drop L)) := rfl
    rw [e, Rows.uptoBulk, bulk_lits, bulk_lits, List.length_take]
    omega
theorem bulk_map {H : Type} (g : Nat → Nat) (f : Nat → DataW H) (rs : List Nat) (h : ∀ r ∈ rs, g r ≤ Rows.uptoBulk (f r)) : (rs.map g).sum ≤ Rows.uptoBulkAll (rs.map f) := by
  induction rs with
  | nil => exact Nat.zero_le _
  | cons r rs ih =>
    rw [List.map_cons, List.map_cons, List.sum_cons, Rows.uptoBulkAll]
    have h1 := h r List.mem_cons_self
    have h2 := ih fun x hx => h x (List.mem_cons_of_mem _ hx)
    omega
theorem open_rows2 {H : Type} {enc : TypeId × Value → H} {w : World} {fuel len cap : Nat} {a : Option Addr} {d : DataW H} {p : List MemPlace}
    (h : DataW.trod enc Try.prog w 0 (fun _ => true) true fuel 53 [.slice a len cap] = some (d, p)) :
    ∃ (ls : List (List Int)) (ptr : Nat → Option Addr) (cp : Nat → Nat), len = ls.length ∧ RowsAt w a ls ptr cp ∧ ls.length ≤ Rows.uptoBulk d ∧ ls.flatten.length ≤ Rows.uptoBulk d := by
  rcases Deep.open_int_rows Try.underlying53 Try.underlying22 Try.underlying5 (by kernel_rfl) (by kernel_rfl) h with ⟨hcs, hx⟩ | ⟨x, l, c, A, L, C, Z, hcs, _, hl, hm, hx, hrows⟩
  · simp at hcs
    obtain ⟨rfl, rfl, rfl⟩ := hcs
    exact ⟨[], fun _ => none, fun _ => 0, rfl, fun h => absurd h (by simp), Nat.zero_le _, Nat.zero_le _⟩
  · simp at hcs
    obtain ⟨rfl, rfl, rfl⟩ := hcs
    have hd : d = .slice ((List.range len).map fun r => Deep.intRow .u8 (A r) (L r) (Z r)) ((List.range (cap - len)).map fun j => Deep.intRow .u8 (A (len + j)) (L (len + j)) (Z (len + j))) := (Prod.ext_iff.1 hx).1
    have hln : ((List.range len).map fun r => (Z r).take (L r)).length = len := by simp
    have hrow : ∀ r, r < len → rowAt ((List.range len).map fun r => (Z r).take (L r)) r = (Z r).take (L r) ∧ ((Z r).take (L r)).length = L r := fun r hr => by
      obtain ⟨h1, h2, h3, h4, h5, h6, h7⟩ := hrows r (by omega)
      refine ⟨?_, by rw [List.length_take]; omega⟩
      unfold rowAt
      rw [List.getD_eq_getElem?_getD, List.getElem?_map, List.getElem?_range hr]
      rfl
    have hb : ∀ r ∈ List.range len, L r ≤ Rows.uptoBulk (Deep.intRow .u8 (A r) (L r) (Z r) : DataW H) ∧ 1 ≤ Rows.uptoBulk (Deep.intRow .u8 (A r) (L r) (Z r) : DataW H) := fun r hr => by
      have hr := List.mem_range.1 hr
      obtain ⟨h1, h2, h3, h4, h5, h6, h7⟩ := hrows r (by omega)
      exact bulk_row .u8 (A r) (L r) (Z r) (fun e => by have := h6 e; omega) (by omega)
    have e1 := bulk_map (fun _ => 1) (fun r => (Deep.intRow .u8 (A r) (L r) (Z r) : DataW H)) (List.range len) fun r hr => (hb r hr).2
    have e2 := bulk_map L (fun r => (Deep.intRow .u8 (A r) (L r) (Z r) : DataW H)) (List.range len) fun r hr => (hb r hr).1
    have e3 : ((List.range len).map fun _ => 1).sum = len := by rw [List.map_const', List.sum_replicate_nat, List.length_range, Nat.mul_one]
    rw [e3] at e1
    have e4 : (((List.range len).map fun r => (Z r).take (L r)).flatten).length = ((List.range len).map L).sum := by
      rw [List.length_flatten, List.map_map]
      congr 1
      refine List.map_congr_left fun r hr => ?_
      exact (hrow r (List.mem_range.1 hr)).2
    refine ⟨(List.range len).map fun r => (Z r).take (L r), A, C, hln.symm, ?_, ?_, ?_⟩
    · intro _
      refine ⟨x, rfl, fun r hr => ?_⟩
      rw [hln] at hr
      obtain ⟨h1, h2, h3, h4, h5, h6, h7⟩ := hrows r (by omega)
      obtain ⟨r1, r2⟩ := hrow r hr
      rw [r1, r2]
      refine ⟨h1, ⟨rfl, ?_, fun h0 => ?_⟩, h2, fun z hz => ?_⟩
      · rw [r2]; simp only [maxLen] at h3; omega
      · rw [r2] at h0
        cases hA : A r with
        | none => have := h6 hA; omega
        | some ad =>
          refine ⟨ad, rfl, fun j hj => ?_⟩
          rw [r2] at hj
          rw [(h7 ad hA).2 j (by omega)]
          simp only [List.getD_eq_getElem?_getD, List.getElem?_take, if_pos hj]
      · have := h5 z (List.mem_of_mem_take hz)
        simp [Lit.wf, IntKind.min, IntKind.max, IntKind.signed, IntKind.bits] at this
        omega
    · rw [hln, hd, Rows.uptoBulk]
      omega
    · rw [e4, hd, Rows.uptoBulk]
      omega
end Go.Proofs.Ytelphnkbaeglaaa
