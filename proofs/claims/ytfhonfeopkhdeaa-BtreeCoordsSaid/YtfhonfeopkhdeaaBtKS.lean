/-
  How two keys stand: the program's and the document's comparisons, each once. No premise.
  Keys that are names: how they lie, how they are compared, how they are owned. No premise.
-/
import Derived.Test.YtfhonfeopkhdeaaProg
import Derived.Test.YtfhonfeopkhdeaaBtTr
import Derived.Test.YtfhonfeopkhdeaaBtRw
import Derived.Sort.Walk0
import Derived.Deep.QuietTactic
import Derived.BigQuiet
import Derived.Tactics
import Derived.Deep.LoopGhost
namespace Go.Proofs.Ytfhonfeopkhdeaa
open Go.RowKit Go.Proofs.YtfhonfeopkhdeaaW.PrintWords

def bL (l : List UInt8) : List Int := l.map fun b => (b.toNat : Int)
/-- A name's bytes. -/
def byI (a : ByteArray) : List Int := bL a.toList
theorem bL_less : ∀ x y : List UInt8, Op.bytesLess x y = decide (cmpL (bL x) (bL y) < 0)
  | [], [] => by simp [Op.bytesLess, bL, cmpL]
  | _ :: _, [] => by simp [Op.bytesLess, bL, cmpL]
  | [], _ :: _ => by simp [Op.bytesLess, bL, cmpL]
  | a :: x, b :: y => by
    have ih := bL_less x y
    rw [Op.bytesLess, ih]
    show _ = decide (cmpL ((a.toNat : Int) :: bL x) ((b.toNat : Int) :: bL y) < 0)
    rw [cmpL]
    by_cases h1 : a < b
    · have : (a.toNat : Int) < b.toNat := by exact_mod_cast UInt8.lt_iff_toNat_lt.1 h1
      simp [h1, this]
    · have h1' : ¬ (a.toNat : Int) < b.toNat := fun h => h1 (UInt8.lt_iff_toNat_lt.2 (by exact_mod_cast h))
      rw [if_neg h1']
      by_cases h2 : a = b
      · subst h2
        simp
      · have h3 : (b.toNat : Int) < a.toNat := by
          have : ¬ a.toNat = b.toNat := fun h => h2 (UInt8.toNat_inj.1 h)
          omega
        simp [h1, h2, h3]
theorem bL_inj : ∀ {x y : List UInt8}, bL x = bL y → x = y
  | [], [], _ => rfl
  | [], _ :: _, h => by simp [bL] at h
  | _ :: _, [], h => by simp [bL] at h
  | a :: x, b :: y, h => by
    simp only [bL, List.map_cons, List.cons.injEq] at h
    have h1 : a.toNat = b.toNat := by exact_mod_cast h.1
    rw [bL_inj (show bL x = bL y from h.2), UInt8.toNat_inj.1 h1]
theorem byI_inj {a b : ByteArray} (h : byI a = byI b) : a = b := by
  have h2 := bL_inj h
  rw [Lib.toList_data, Lib.toList_data] at h2
  rcases a with ⟨a⟩
  rcases b with ⟨b⟩
  have h3 : a = b := Array.toList_inj.1 h2
  rw [h3]
theorem byI_length (a : ByteArray) : (byI a).length = a.size := by
  unfold byI bL
  rw [List.length_map, Lib.toList_data]
  rfl
theorem byI_drop (a : ByteArray) (i : Nat) (h : i < a.size) : (byI a).drop i = bt a i :: (byI a).drop (i + 1) := by
  have hl : i < (byI a).length := by rw [byI_length]; exact h
  rw [List.drop_eq_getElem_cons hl]
  congr 1
  have hb : bt a i = (a[i].toNat : Int) := by simp [bt, h]
  rw [hb]
  simp only [byI, bL, List.getElem_map]
  have e : ∀ (l : List UInt8) (hl : i < l.length), l = a.data.toList → ((l[i]'hl).toNat : Int) = (a[i].toNat : Int) := fun l hl e => by subst e; rfl
  exact e _ _ (Lib.toList_data a)
/-- How names stand. -/
def kS (a b : ByteArray) : Int := kc byI a b
theorem kS_range (a b : ByteArray) : kS a b = -1 ∨ kS a b = 0 ∨ kS a b = 1 := cmpL_range _ _
theorem isNaNS_any (a : ByteArray) (w : World) : Calls Try.prog 73 #[.string a] w fun e w' => e = .returned (.bool false) ∧ w' = w := by
  go_enter Try.func73, Try.ntmps73
  go_wp2
  go_ret
  exact ⟨by simp, rfl⟩
theorem lessS (a b : ByteArray) : Op.bytesLess a.toList b.toList = decide (kS a b < 0) := bL_less _ _
theorem kS_zero {a b : ByteArray} (e : kS a b = 0) : a = b := byI_inj (cmpL_eq e)
set_option maxHeartbeats 1000000 in
theorem compareS_any (a b : ByteArray) (w : World) : Calls Try.prog 44 #[.string a, .string b] w fun e w' => e = .returned (.int .i64 (kS a b)) ∧ w' = w := by
  have h1 := lessS a b
  rcases kS_range a b with e | e | e
  · rw [e] at h1 ⊢
    have h3 : Op.bytesLess a.toList b.toList = true := h1.trans (by decide)
    clear h1 e
    go_enter Try.func44, Try.ntmps44
    go_wp2_with (go_at_call 73; refine (isNaNS_any _ _).mono ?_; rintro e w' ⟨rfl, rfl⟩)
    go_ret
    exact ⟨rfl, rfl⟩
  · rw [e] at h1 ⊢
    have h3 : Op.bytesLess a.toList b.toList = false := h1.trans (by decide)
    obtain rfl := kS_zero e
    clear h1 e
    go_enter Try.func44, Try.ntmps44
    go_wp2_with (go_at_call 73; refine (isNaNS_any _ _).mono ?_; rintro e w' ⟨rfl, rfl⟩)
    go_ret
    exact ⟨rfl, rfl⟩
  · have h4 : (a.toList == b.toList) = false := beq_eq_false_iff_ne.2 fun h => by
      have : kS a b = 0 := by
        show cmpL (bL a.toList) (bL b.toList) = 0
        rw [h]
        exact cmpL_self _
      omega
    rw [e] at h1 ⊢
    have h3 : Op.bytesLess a.toList b.toList = false := h1.trans (by decide)
    clear h1 e
    go_enter Try.func44, Try.ntmps44
    go_wp2_with (go_at_call 73; refine (isNaNS_any _ _).mono ?_; rintro e w' ⟨rfl, rfl⟩)
    go_ret
    exact ⟨rfl, rfl⟩
theorem cmpNames_any (a b : ByteArray) (w : World) : Calls Try.prog 11 #[.string a, .string b] w fun e w' => e = .returned (.int .i64 (kS a b)) ∧ w' = w := by
  go_enter Try.func11, Try.ntmps11
  go_wp2_with (go_at_call 44; refine (compareS_any _ _ _).mono ?_; rintro e w' ⟨rfl, rfl⟩)
  go_ret
  exact ⟨rfl, rfl⟩
end Go.Proofs.Ytfhonfeopkhdeaa

namespace Go.Proofs.Ytfhonfeopkhdeaa.BS
open Go.RowKit Go.Proofs.YtfhonfeopkhdeaaW.PrintWords

abbrev Ky := ByteArray
def kv (k : Ky) : Value := .string k
def kct : Ky → List Int := byI
abbrev kk (a b : Ky) : Int := kc kct a b
theorem kk_range (a b : Ky) : kk a b = -1 ∨ kk a b = 0 ∨ kk a b = 1 := cmpL_range _ _
theorem kv_one (k : Ky) : (kv k).oneCell' = true := rfl
/-- A key may be read; it is a tree's own. -/
def KRd (_ : World) (_ : Ky) : Prop := True
def KOk (_ : World) (_ : Nat → Nat) (_ : Ky) : Prop := True
theorem KRd.drewN {w : World} {k : Ky} (_ : KRd w k) (m : Nat) : KRd (w.drewN m) k := trivial
theorem KOk.rd {w : World} {o : Nat → Nat} {k : Ky} (_ : KOk w o k) : KRd w k := trivial
theorem KOk.keep {w w' : World} {o o' : Nat → Nat} {k : Ky} (_ : KOk w o k) (_ : ∀ b, b < w.heap.size → o b = 1 → w'.heap[b]? = w.heap[b]? ∧ o' b = 1) : KOk w' o' k := trivial
theorem KRd.below {B : Nat} {w w' : World} {k : Ky} (_ : KRd w k) (_ : Below B w w') (_ : w.heap.size ≤ B) : KRd w' k := trivial
theorem kcmp_any (a b : Ky) (w : World) (_ : KRd w a) (_ : KRd w b) : Calls Try.prog 11 #[kv a, kv b] w fun e w' => e = .returned (.int .i64 (kk a b)) ∧ w' = w := cmpNames_any a b w
/-- The tags, a key that was made now being a tree's own. -/
def ktg (o : Nat → Nat) (_ : Ky) : Nat → Nat := o
/-- A key that was made from w to w'. -/
def KNew (w w' : World) (k' : Ky) : Prop := ∀ o : Nat → Nat, (∀ b, w.heap.size ≤ b → o b = 0) → KOk w' (ktg o k') k' ∧ (∀ b, b < w.heap.size → ktg o k' b = o b) ∧ (∀ b, w'.heap.size ≤ b → ktg o k' b = 0) ∧ ∀ b, ktg o k' b = o b ∨ ktg o k' b = 1
/-- What own answers. -/
def OwnP (k : Ky) (w : World) (e : Ending) (w' : World) : Prop := ∃ k', e = .returned (kv k') ∧ kct k' = kct k ∧ Below w.heap.size w w' ∧ KNew w w' k'
theorem kown_any (k : Ky) (w : World) (_ : KRd w k) : Calls Try.prog 51 #[kv k] w (OwnP k w) := by
  unfold kv
  go_enter Try.func51, Try.ntmps51
  go_wp2_with fail
  go_ret
  exact ⟨k, rfl, rfl, Below.refl _ _, fun _ h => ⟨trivial, fun _ _ => rfl, h, fun _ => .inl rfl⟩⟩
end Go.Proofs.Ytfhonfeopkhdeaa.BS
