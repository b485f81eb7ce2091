/-
  Keys that are names: how they lie, how they are compared, how they are owned. No premise.
-/
import Derived.Test.YtfhonfeopkhdeaaBt1
namespace Go.Proofs.Ytfhonfeopkhdeaa.BS
open Go.RowKit Go.Proofs.YtfhonfeopkhdeaaW.PrintWords

abbrev Ky := ByteArray
def kv (k : Ky) : Value := .string k
def kct : Ky → List Int := byI
abbrev kk (a b : Ky) : Int := kc kct a b
theorem kk_range (a b : Ky) : kk a b = -1 ∨ kk a b = 0 ∨ kk a b = 1 := cmpL_range _ _
theorem kv_one (k : Ky) : (kv k).oneCell' = true := rfl
/-- A key may be read; it is a tree's own. -/
def KRd (_ : World) (_ : Ky) : Prop := True
def KOk (_ : World) (_ : Nat → Nat) (_ : Ky) : Prop := True
theorem KRd.drewN {w : World} {k : Ky} (_ : KRd w k) (m : Nat) : KRd (w.drewN m) k := trivial
theorem KOk.rd {w : World} {o : Nat → Nat} {k : Ky} (_ : KOk w o k) : KRd w k := trivial
theorem KOk.keep {w w' : World} {o o' : Nat → Nat} {k : Ky} (_ : KOk w o k) (_ : ∀ b, b < w.heap.size → o b = 1 → w'.heap[b]? = w.heap[b]? ∧ o' b = 1) : KOk w' o' k := trivial
theorem KRd.below {B : Nat} {w w' : World} {k : Ky} (_ : KRd w k) (_ : Below B w w') (_ : w.heap.size ≤ B) : KRd w' k := trivial
theorem kcmp_any (a b : Ky) (w : World) (_ : KRd w a) (_ : KRd w b) : Calls Try.prog 11 #[kv a, kv b] w fun e w' => e = .returned (.int .i64 (kk a b)) ∧ w' = w := cmpNames_any a b w
/-- The tags, a key that was made now being a tree's own. -/
def ktg (o : Nat → Nat) (_ : Ky) : Nat → Nat := o
/-- A key that was made from w to w'. -/
def KNew (w w' : World) (k' : Ky) : Prop := ∀ o : Nat → Nat, (∀ b, w.heap.size ≤ b → o b = 0) → KOk w' (ktg o k') k' ∧ (∀ b, b < w.heap.size → ktg o k' b = o b) ∧ (∀ b, w'.heap.size ≤ b → ktg o k' b = 0) ∧ ∀ b, ktg o k' b = o b ∨ ktg o k' b = 1
/-- What own answers. -/
def OwnP (k : Ky) (w : World) (e : Ending) (w' : World) : Prop := ∃ k', e = .returned (kv k') ∧ kct k' = kct k ∧ Below w.heap.size w w' ∧ KNew w w' k'
theorem kown_any (k : Ky) (w : World) (_ : KRd w k) : Calls Try.prog 51 #[kv k] w (OwnP k w) := by
  unfold kv
  go_enter Try.func51, Try.ntmps51
  go_wp2_with fail
  go_ret
  exact ⟨k, rfl, rfl, Below.refl _ _, fun _ h => ⟨trivial, fun _ _ => rfl, h, fun _ => .inl rfl⟩⟩
end Go.Proofs.Ytfhonfeopkhdeaa.BS
