/-
  A region that draws its order and ends by a store into what it has read: a condition on the worlds that need not hold behind that store. No premise.
-/
import Derived.Deep.RegionHeld
namespace Go.Proofs.Ytfhonfeopkhdeaa
open Go

section
variable {P : Program} {md : Region.Mode} {ops : Array Oper} {Q : Exit → Act → World → Prop} {S : World → Prop} {z : Nat}
/-- Whatever order is picked, S holding behind each operation but number z. -/
def wpZ (P : Program) (md : Region.Mode) (ops : Array Oper) (Q : Exit → Act → World → Prop) (S : World → Prop) (z : Nat) : Nat → Array Bool → Act → World → Prop
  | 0, ls, a, w => Region.ready md ops ls = [] ∧ Q .normal a w
  | n + 1, ls, a, w => (Region.ready md ops ls = [] → Q .normal a w) ∧ ∀ i ∈ Region.ready md ops ls, wpOp P ops Q i (fun a' w' => (i = z ∨ S w') ∧ wpZ P md ops Q S z n (ls.setIfInBounds i true) a' w') a w
theorem wpZ_any : ∀ (n : Nat) (ls : Array Bool) (a : Act) (w : World), wpZ P md ops Q S z n ls a w → wpAny P md ops Q n ls a w
  | 0, _, _, _, h => h
  | n + 1, _, _, _, h => ⟨h.1, fun i hi => wpOp_mono (fun a' w' k => wpZ_any n _ a' w' k.2) (h.2 i hi)⟩
/-- Number z waits for number i. -/
def waitsFor (md : Region.Mode) (ops : Array Oper) (z i : Nat) : Bool := match ops[z]? with
  | some o => o.after.any fun e => Region.binds md e && e.on == i
  | none => false
theorem not_ready {ls : Array Bool} {i : Nat} (hw : waitsFor md ops z i = true) (hi : i ∈ Region.ready md ops ls) : z ∉ Region.ready md ops ls := fun hz => by
  obtain ⟨_, oz, hoz, hall⟩ := mem_ready.1 hz
  have h0 := (mem_ready.1 hi).1
  unfold waitsFor at hw
  rw [hoz] at hw
  obtain ⟨e, he, hb⟩ := Array.any_eq_true'.1 hw
  simp only [Bool.and_eq_true, beq_iff_eq] at hb
  have h1 := hall e he hb.1
  rw [hb.2] at h1
  rcases Nat.lt_or_ge i ls.size with h' | h'
  · simp [h'] at h0 h1; rw [h0] at h1; cases h1
  · simp [Array.getElem?_eq_none h'] at h1
theorem wpZ_first {i : Nat} {oi : Oper} {v : Value} (hi : ops[i]? = some oi) (hsel : ∀ (j : Nat) (o : Oper) cs b, ops[j]? = some o → o.op ≠ .select cs b) (hQ : ∀ c a w, Q (.panic c) (a.put oi.dst v) w → Q (.panic c) a w) (hz : waitsFor md ops z i = true) :
    ∀ (n : Nat) (ls : Array Bool) (a : Act) (w : World), (∀ j oj, ops[j]? = some oj → j ≠ i → ls.getD j true = false → (∀ e ∈ oj.after, Region.binds md e = true → e.on ≠ i) → oi.apart ops oj = true) →
      i ∈ Region.ready md ops ls → YieldsIf P ops S oi v a → S w → wpZ P md ops Q S z n (ls.setIfInBounds i true) (a.put oi.dst v) w → wpZ P md ops Q S z (n + 1) ls a w
  | 0, ls, a, w, _, hr, hy, hS, H => ⟨fun h => by (rw [h] at hr; cases hr), fun j hj => by
      by_cases e : j = i
      · subst e
        exact hy.wpOp hi hS ⟨.inr hS, H⟩
      · have h := ready_mono hj e
        rw [H.1] at h
        cases h⟩
  | n + 1, ls, a, w, hfree, hr, hy, hS, H => ⟨fun h => by (rw [h] at hr; cases hr), fun j hj => by
      by_cases e : j = i
      · subst e
        exact hy.wpOp hi hS ⟨.inr hS, H⟩
      · have hjz : j ≠ z := fun h => not_ready hz hr (h ▸ hj)
        obtain ⟨hjun, oj, hoj, hall⟩ := mem_ready.1 hj
        have hnot : ∀ e ∈ oj.after, Region.binds md e = true → e.on ≠ i := fun e he hb heq => by
          have h1 := hall e he hb
          have h0 := (mem_ready.1 hr).1
          rw [heq] at h1
          rcases Nat.lt_or_ge i ls.size with h' | h'
          · simp [h'] at h0 h1; rw [h0] at h1; cases h1
          · simp [Array.getElem?_eq_none h'] at h1
        have h2 := wpOp_putIf hoj (hfree j oj hoj e hjun hnot) (fun cs b => hsel i oi cs b hi) (fun cs b => hsel j oj cs b hoj) hQ hy (H.2 j (ready_mono hj e))
        refine wpOp_mono (fun a' w' h3 => ?_) h2
        have hS' : S w' := h3.2.1.resolve_left hjz
        refine ⟨.inr hS', wpZ_first hi hsel hQ hz n (ls.setIfInBounds j true) a' w' (fun k ok hk hki hun hno => hfree k ok hk hki ?_ hno) (ready_mono hr (Ne.symm e)) h3.1 hS' ?_⟩
        · by_cases hjk : j = k
          · subst hjk; exact hjun
          · rw [getD_set_ne true hjk] at hun; exact hun
        · rw [Array.setIfInBounds_comm _ _ e]
          exact h3.2.2⟩
theorem wpZ_take {i : Nat} {oi : Oper} {v : Value} {n : Nat} {ls : Array Bool} {a : Act} {w : World} (hi : ops[i]? = some oi) (hs : Region.noSelect ops = true) (hf : Region.free md ops ls i = true) (hr : (Region.ready md ops ls).contains i = true) (hz : waitsFor md ops z i = true)
    (hQ : ∀ c a w, Q (.panic c) (a.put oi.dst v) w → Q (.panic c) a w) (hy : YieldsIf P ops S oi v a) (hS : S w) (h : wpZ P md ops Q S z n (ls.setIfInBounds i true) (a.put oi.dst v) w) : wpZ P md ops Q S z (n + 1) ls a w :=
  wpZ_first hi (Region.noSelect_spec hs) hQ hz n ls a w (Region.free_spec hi hf) (by simpa using hr) hy hS h
/-- One operation alone may come up: it is carried out; S is shown anew, unless it is number z. -/
theorem wpZ_one {i : Nat} {o : Oper} {n : Nat} {ls : Array Bool} {a : Act} {w : World} (hr : Region.ready md ops ls = [i]) (ho : ops[i]? = some o)
    (h : ∀ K : Act → World → Prop, Shut (∀ a w, (i = z ∨ S w) → wpZ P md ops Q S z n (ls.setIfInBounds i true) a w → K a w) → if Region.wanted o (yielded ops a.tmps) = true then Oper.wp P o a w K Q else K (a.put o.dst undef) w) : wpZ P md ops Q S z (n + 1) ls a w :=
  ⟨fun h0 => by (rw [hr] at h0; cases h0), fun j hj => by
    rw [hr] at hj
    obtain rfl := List.mem_singleton.1 hj
    exact wpOp_step ho (fun K hK => h K (fun a w h1 h2 => hK a w ⟨h1, h2⟩))⟩
theorem wpZ_done {ls : Array Bool} {a : Act} {w : World} (hr : Region.ready md ops ls = []) (h : Q .normal a w) : ∀ n, wpZ P md ops Q S z n ls a w
  | 0 => ⟨hr, h⟩
  | _ + 1 => ⟨fun _ => h, by rw [hr]; simp⟩
theorem wp_region_Z (S : World → Prop) (z : Nat) {id : Nat} {a : Act} {w : World} (hm : P.follows .mixedOrders = true) (h : wpZ P .any ops Q S z ops.size (Array.replicate ops.size false) a w.drew) : (Code.region id ops true).wp P Q a w :=
  wp_region_any hm (wpZ_any _ _ _ _ h)
end
end Go.Proofs.Ytfhonfeopkhdeaa
