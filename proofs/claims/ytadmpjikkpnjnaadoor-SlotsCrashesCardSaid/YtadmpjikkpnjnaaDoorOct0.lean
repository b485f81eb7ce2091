/-
  Words for bytes in memory, and the first walks. No premise.
-/
import Derived.Test.YtadmpjikkpnjnaaDoorWWords
import Derived.Test.YtadmpjikkpnjnaaDoorProg
import Derived.WalkSpells
import Derived.WalkLawsBesides
import Derived.Lib.Hide
import Derived.Deep.DeepAppendWide
namespace Go.Proofs.YtadmpjikkpnjnaaDoor
open Go.RowKit Go.Proofs.YtadmpjikkpnjnaaDoorW.PrintWords

/-- A row of bytes of the call's own. -/
def Own (w : World) (base : Nat) (v : Value) (l : List Int) : Prop := w.ownsRow base 5 1 v l.length (nums .u8 l)
/-- Bytes that are read. -/
def Rd (w : World) (A : Option Addr) (l : List Int) : Prop := ReadsInt w .u8 A l.length l
/-- Is it a call of this builtin with these operands? (An arm's gate.) -/
theorem gate_builtin {P : Program} {ops : Array Oper} {rest : List Oper} {o : Oper} {a : Act} {Q : Exit → Act → World → Prop} {W : World} {b : Builtin} {xs : Array Operand} {ts : Array TypeId}
    (_ho : o.op = .call { callee := .builtin b, args := xs, argTypes := ts }) (h : wpList P ops Q (o :: rest) a W) : wpList P ops Q (o :: rest) a W := h
theorem infoB : (Tryd.prog.info? 5).map (fun i => (i.zero, i.size, i.bytes)) = some (some (.int .u8 0), 1, 1) := by kernel_rfl

/-- append(v, ys...): ys read, nil let in; v a row of the call's own. -/
theorem app {ops : Array Oper} {rest : List Oper} {o : Oper} {a : Act} {Q : Exit → Act → World → Prop} {W : World} (base : Nat) (hgd : o.guard = none) (s x : Operand)
    (ho : o.op = .call { callee := .builtin .append, args := #[s, x], argTypes := #[25, 25] })
    (v : Value) (xs ys : List Int) (A : Option Addr) (c : Nat) (hs : a.eval s = v) (hx : a.eval x = .slice A ys.length c) (HO : Own W base v xs) (HR : Rd W A ys) (hbase : base ≤ W.heap.size)
    (hl : xs.length + ys.length ≤ 150000000000000)
    (h : ∀ v1 w1, Own w1 base v1 (xs ++ ys) → W.grownBy w1 v.ownBlock → wpList Tryd.prog ops Q rest (a.put o.dst v1) w1) :
    wpList Tryd.prog ops Q (o :: rest) a W := by
  obtain ⟨i0, hi, hz0, hz1, hz2⟩ := info_parts infoB
  rcases A with _ | ad
  · have h0 : ys = [] := by
      rcases ys with _ | ⟨y, ys⟩
      · rfl
      · obtain ⟨ad, h, _⟩ := HR.2.2 (by simp)
        cases h
    subst h0
    have hrun : (Builtin.append_ #[25, 25] o.type #[v, .slice none 0 c]).run Tryd.prog W = .ok v W := by
      rcases HO.2 with ⟨rfl, hn⟩ | ⟨g, cap, cur, rfl, _, _, hnc, _⟩
      · simp [Builtin.append_, run_underlying Tryd.underlying25, sizeOf, typeInfo, hi, Builtin.lenOf, Builtin.firstCells]
      · simp [Builtin.append_, run_underlying Tryd.underlying25, sizeOf, typeInfo, hi, Builtin.lenOf, Builtin.firstCells, hnc, storeCells]
    refine wpList_plain hgd fun K hK => ?_
    unfold Oper.wp execOp
    simp only [ho, resolve, invoke, builtin, Sem.run_bind, Sem.run_pure, Result.andThen_ok, List.map_toArray, List.map_cons, List.map_nil, hs, hx, List.length_nil, hrun]
    exact hK _ _ (h v W (by rw [List.append_nil]; exact HO) (World.grownBy.refl _ _))
  · have hcells : ∀ j u, (nums .u8 ys)[j]? = some u → W.cell? (ad.add j) = some u := by
      intro j u hu
      have hj : j < ys.length := by
        have := (List.getElem?_eq_some_iff.1 hu).1
        rwa [nums_length] at this
      obtain ⟨ad', h', hc⟩ := HR.2.2 (by omega)
      injection h' with h'
      subst h'
      rw [hc j hj, ← hu]
      simp [nums, List.getD_eq_getElem?_getD, List.getElem?_eq_getElem hj]
    refine wpList_append_own_wide W hgd s x 25 ho base 5 i0 (.int .u8 0) 1 1 Tryd.underlying25 hi hz0 hz1 hz2 rfl (by decide) v xs.length (nums .u8 xs) hs HO ad ys.length c (nums .u8 ys) hx (by simp [nums]) hcells
      (by intro u hu; simp only [nums, List.mem_map] at hu; obtain ⟨q, _, rfl⟩ := hu; rfl) (by simp only [maxLen]; omega) (by omega) hbase ?_
    intro v' w' h2 h3 _
    refine h v' w' ?_ h3
    unfold Own
    rw [List.length_append, nums_append]
    exact h2
/-- append(v, y). -/
theorem app1 {ops : Array Oper} {rest : List Oper} {o : Oper} {a : Act} {Q : Exit → Act → World → Prop} {W : World} (base : Nat) (hgd : o.guard = none) (s x : Operand)
    (ho : o.op = .call { callee := .builtin .append, args := #[s, x], argTypes := #[25, 25] })
    (v : Value) (xs : List Int) (y : Int) (hs : a.eval s = v) (hx : a.eval x = .slice (some ⟨W.heap.size, 0, none⟩) 1 1) (HO : Own W base v xs) (hbase : base ≤ W.heap.size)
    (hl : xs.length + 1 ≤ 150000000000000)
    (h : ∀ v1 w1, Own w1 base v1 (xs ++ [y]) → W.grownBy w1 v.ownBlock → wpList Tryd.prog ops Q rest (a.put o.dst v1) w1) :
    wpList Tryd.prog ops Q (o :: rest) a (W.alloc (.cells #[.int .u8 y] 5)) := by
  refine app base hgd s x ho v xs [y] (some ⟨W.heap.size, 0, none⟩) 1 hs hx (HO.alloc _) ⟨rfl, by simp, fun _ => ⟨_, rfl, fun j hj => ?_⟩⟩ (by simp; omega) hl ?_
  · have hj0 : j = 0 := by simpa using hj
    subst hj0
    simp [Addr.add]
  · intro v1 w1 h1 h2
    exact h v1 w1 h1 (World.grownBy.trans (World.grownBy_alloc W _ _) h2)

theorem cell_in {w : World} {g : Nat} {t : TypeId} {cs : Array Value} (h : w.heap[g]? = some (.cells cs t (0, 0))) {i : Nat} (hi : i < cs.size) : ∃ v, w.cell? ⟨g, i, none⟩ = some v :=
  ⟨cs[i], (blk_cell h i).trans (Array.getElem?_eq_getElem hi)⟩
theorem own_empty (W : World) (base : Nat) (hb : base ≤ W.heap.size) : Own (W.alloc (.cells #[] 5)) base (.slice (some ⟨W.heap.size, 0, none⟩) 0 0) [] :=
  World.ownsRow_made W #[] 0 hb (by simp [maxLen]) (by simp)

set_option maxHeartbeats 400000 in
theorem fits_any (u width : Int) (w : World) (h1 : 1 ≤ width) (h2 : width ≤ 8) :
    Calls Tryd.prog 43 #[.int .u64 u, .int .i64 width] w fun e w' => e = .returned (.bool (width == 8 || u / 2 ^ (8 * width).toNat == 0)) ∧ w = w' := by
  by_cases h : width = 8
  · subst h
    go_enter Tryd.func43, Tryd.ntmps43
    go_wp2_with fail
    go_ret
    exact ⟨rfl, rfl⟩
  · go_enter Tryd.func43, Tryd.ntmps43
    go_wp2_with fail
    go_ret
    exact ⟨rfl, rfl⟩

set_option maxHeartbeats 400000 in
theorem put1_any (u s : Int) (a p : Addr) (w : World) (h1 : 0 ≤ s) (h2 : s ≤ 63) (hp : w.cell? p = some (.int .u64 u)) (ha' : ∃ v0, w.cell? a = some v0) (hf : w.frozen? a = false) :
    Calls Tryd.prog 45 #[.pointer (some a), .int .i64 s, .pointer (some p)] w fun e w' => e = .returned (.tuple #[]) ∧ w.setCell a (.int .u8 (u / 2 ^ s.toNat % 256)) = w' := by
  obtain ⟨v0, ha⟩ := ha'
  go_enter Tryd.func45, Tryd.ntmps45
  go_wp2_with fail
  go_end0
  exact ⟨rfl, rfl⟩

set_option maxHeartbeats 400000 in
theorem get1_any (u x s : Int) (a p : Addr) (w : World) (h1 : 0 ≤ s) (h2 : s ≤ 63) (hp : w.cell? p = some (.int .u64 u)) (hf : w.frozen? p = false) (ha : w.cell? a = some (.int .u8 x)) (hx : 0 ≤ x) (hx2 : x ≤ 255) :
    Calls Tryd.prog 49 #[.pointer (some a), .int .i64 s, .pointer (some p)] w fun e w' => e = .returned (.tuple #[]) ∧ (w.setCell p (.int .u64 (bits .or .u64 u (IntKind.u64.wrap (x * 2 ^ s.toNat))))).drew = w' := by
  go_enter Tryd.func49, Tryd.ntmps49
  go_region
  all_goals (go_end0; exact ⟨rfl, rfl⟩)

set_option maxHeartbeats 400000 in
theorem clone_any (A : Option Addr) (c : Nat) (l : List Int) (w : World) (hr : Rd w A l) (hl : l.length ≤ 150000000000000) :
    Calls Tryd.prog 36 #[.slice A l.length c] w fun e w' => ∃ v, e = .returned v ∧ Own w' w.heap.size v l ∧ Below w.heap.size w w' := by
  have HR := Lib.hid hr
  rcases A with _ | ad
  · have h0 : l = [] := by
      rcases l with _ | ⟨x, l⟩
      · rfl
      · obtain ⟨ad, h, _⟩ := hr.2.2 (by simp)
        cases h
    subst h0
    clear hr
    have hn := fun W => Lib.run_eql_slice_nil (P := Tryd.prog) W 25 5 none 0 c 0 0 Tryd.underlying25
    show Calls _ _ #[.slice none 0 c] _ _
    go_enter Tryd.func36, Tryd.ntmps36
    go_wp2_with fail
    go_ret
    exact ⟨_, rfl, World.ownsRow_nil _ _ _ _, Below.refl _ _⟩
  · clear hr
    have hn := fun W => Lib.run_eql_slice_nil (P := Tryd.prog) W 25 5 (some ad) l.length c 0 0 Tryd.underlying25
    go_enter Tryd.func36, Tryd.ntmps36
    go_wp2_with (at_builtin; refine app w.heap.size rfl _ _ rfl (.slice (some ⟨w.heap.size, 0, none⟩) 0 0) [] l (some ad) c rfl rfl (own_empty w w.heap.size (Nat.le_refl _)) (HR.out.below ((Below.refl _ _).alloc (Nat.le_refl _) _)) (by simp) (by simpa using hl) ?_; intro v1 w1 h1 h2)
    have hB : Below w.heap.size w w1 := ((Below.refl _ _).alloc (Nat.le_refl _) _).grown h2 (by simp) (by simp [Value.ownBlock])
    have H1 := Lib.hid h1
    have HB := Lib.hid hB
    clear h1 h2 hB
    go_wp2_with fail
    go_ret
    exact ⟨_, rfl, H1.out, HB.out⟩
end Go.Proofs.YtadmpjikkpnjnaaDoor
