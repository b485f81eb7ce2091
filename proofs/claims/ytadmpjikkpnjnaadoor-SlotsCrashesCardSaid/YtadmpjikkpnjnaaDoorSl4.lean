/-
  Roots that are compared; slots.Best of a file that is nil, and of one that is off. No premise.
-/
import Derived.Test.YtadmpjikkpnjnaaDoorSl3
import Derived.Test.YtadmpjikkpnjnaaDoorSt9
import Derived.Laws.StructEq
import Derived.Shelf.SlicesE.Kit
namespace Go.Proofs.YtadmpjikkpnjnaaDoor
open Go.RowKit Go.Shelf Go.Proofs.YtadmpjikkpnjnaaDoorW.PrintWords

theorem eqIn_root (a b c x y z : Int) (W : World) : (Op.equalIn 10000 24 (.agg #[.int .u64 a, .int .i64 b, .int .i64 c]) (.agg #[.int .u64 x, .int .i64 y, .int .i64 z])).run Tryd.prog W = .ok (a == x && (b == y && c == z)) W := by
  have hS : Tryd.prog.underlying 24 = some (.struct (Tryd.prog.fieldsOf 24)) := by kernel_rfl
  have hp : Tryd.prog.stoodInHeld 24 = false := by kernel_rfl
  have u1 := Tryd.underlying22
  have u2 := Tryd.underlying3
  rw [show (10000 : Nat) = 9999 + 1 from rfl, run_equalIn_struct W 9999 24 _ _ hS hp]
  simp only [Program.fieldsOf, Tryd.underlying24]
  go_simp
  by_cases h1 : a = x <;> by_cases h2 : b = y <;> by_cases h3 : c = z <;> simp [h1, h2, h3]
theorem eqIn_ref (a b c x y z : Int) (W : World) : (Op.equalIn 10000 31 (.agg #[.int .u64 a, .int .i64 b, .int .i64 c]) (.agg #[.int .u64 x, .int .i64 y, .int .i64 z])).run Tryd.prog W = .ok (a == x && (b == y && c == z)) W := by
  have hS : Tryd.prog.underlying 31 = some (.struct (Tryd.prog.fieldsOf 31)) := by kernel_rfl
  have hp : Tryd.prog.stoodInHeld 31 = false := by kernel_rfl
  have u1 := Tryd.underlying22
  have u2 := Tryd.underlying3
  rw [show (10000 : Nat) = 9999 + 1 from rfl, run_equalIn_struct W 9999 31 _ _ hS hp]
  simp only [Program.fieldsOf, Tryd.underlying31]
  go_simp
  by_cases h1 : a = x <;> by_cases h2 : b = y <;> by_cases h3 : c = z <;> simp [h1, h2, h3]
def Rt.eqv (r s : Rt) : Bool := r.g == s.g && (r.pl == s.pl && r.sz == s.sz)
theorem Rt.eqv_iff (r s : Rt) : r.eqv s = true ↔ r = s := by
  obtain ⟨a, b, c⟩ := r
  obtain ⟨x, y, z⟩ := s
  simp [Rt.eqv]
theorem Rt.eqv_self (r : Rt) : r.eqv r = true := (Rt.eqv_iff r r).2 rfl
theorem Rt.eqv_ne {r s : Rt} (h : r ≠ s) : r.eqv s = false := by
  rw [Bool.eq_false_iff]
  exact fun e => h ((Rt.eqv_iff r s).1 e)
theorem eq_root (r s : Rt) (W : World) : (binOp .eql 24 r.v s.v).run Tryd.prog W = .ok (.bool (r.eqv s)) W := by
  unfold Rt.v
  rw [run_eql_struct, eqIn_root]
  rfl
theorem ne_root (r s : Rt) (W : World) : (binOp .neq 24 r.v s.v).run Tryd.prog W = .ok (.bool (!r.eqv s)) W := by
  unfold Rt.v
  rw [run_neq_struct, eqIn_root]
  rfl
theorem eq_ref (r s : Rt) (W : World) : (binOp .eql 31 r.v s.v).run Tryd.prog W = .ok (.bool (r.eqv s)) W := by
  unfold Rt.v
  rw [run_eql_struct, eqIn_ref]
  rfl
theorem ne_bools (a b : Bool) (W : World) : (binOp .neq 81 (.agg #[.bool a, .bool b]) (.agg #[.bool false, .bool false])).run Tryd.prog W = .ok (.bool (a || b)) W := by
  cases a <;> cases b <;> kernel_rfl
set_option maxHeartbeats 800000 in
theorem read_nil (a n : Int) (w : World) : Calls Tryd.prog 37 #[.pointer none, .int .i64 a, .int .i64 n] w fun e w' => e = .returned (.tuple #[.slice none 0 0, .int .i64 1]) ∧ w = w' := by
  go_enter Tryd.func37, Tryd.ntmps37
  go_wp2_with (go_at_call 38; refine (good_nil w).mono ?_; rintro e w1 ⟨rfl, rfl⟩)
  go_ret2
  exact ⟨rfl, rfl⟩
theorem best_res {tmps : Array Value} {W : World} {p : Nat} {x1 x2 x3 : Value} {b : Bool} {e : Int} (h2 : tmps[2]?.getD undef = .pointer (some ⟨p, 0, none⟩)) (h3 : tmps[3]?.getD undef = .bool b) (h4 : tmps[4]?.getD undef = .int .i64 e) (hb : W.heap[p]? = some (.cells #[x1, x2, x3] 24 (0, 0))) :
    (results Tryd.f16 tmps).run Tryd.prog W = .ok (.tuple #[.agg #[x1, x2, x3], .bool b, .int .i64 e]) W := by
  have c0 := blk_cell hb 0
  have c1 := blk_cell hb 1
  have c2 := blk_cell hb 2
  simp [results, Tryd.results16, go_sem, h2, h3, h4, c0, c1, c2]
theorem rt_cells {W : World} {p : Nat} {t : TypeId} {x y z : Value} (h : W.heap[p]? = some (.cells #[x, y, z] t (0, 0))) :
    (W.cell? ⟨p, 0, none⟩ = some x ∧ W.cell? ⟨p, 1, none⟩ = some y ∧ W.cell? ⟨p, 2, none⟩ = some z) ∧ W.frozen? ⟨p, 0, none⟩ = false ∧ W.frozen? ⟨p, 1, none⟩ = false ∧ W.frozen? ⟨p, 2, none⟩ = false :=
  ⟨⟨blk_cell h 0, blk_cell h 1, blk_cell h 2⟩, blk_frozen h 0, blk_frozen h 1, blk_frozen h 2⟩
set_option maxRecDepth 100000 in
set_option maxHeartbeats 800000 in
theorem best_nil (w : World) : Calls Tryd.prog 16 #[.pointer none] w fun e w' => e = .returned (.tuple #[Rt.zero.v, .bool false, .int .i64 1]) ∧ Below w.heap.size w w' := by
  go_enter Tryd.func16, Tryd.ntmps16
  go_wp2_with (go_at_call 37; refine (read_nil 0 0 _).mono ?_; rintro e w1 ⟨rfl, rfl⟩)
  exact ⟨rfl, _, best_res rfl rfl rfl (heap_alloc_new w _), rfl, (Below.refl _ _).alloc (Nat.le_refl _) _⟩
set_option maxRecDepth 100000 in
set_option maxHeartbeats 800000 in
theorem best_off (o : Nat → Nat) (i p : Nat) (F : FM) (w : World) (hF : FileA w o i p F) (hl : F.b.length ≤ 4200000) (hoff : F.off = true) :
    Calls Tryd.prog 16 #[.pointer (some ⟨p, 0, none⟩)] w fun e w' => e = .returned (.tuple #[Rt.zero.v, .bool false, .int .i64 6]) ∧ Below w.heap.size w w' := by
  have he : rdE F 0 0 = 6 := by unfold rdE; rw [if_pos hoff]
  have HE := Lib.hid he
  have HF := Lib.hid hF
  clear he hF hoff
  go_enter Tryd.func16, Tryd.ntmps16
  go_wp2_with (go_at_call 37; refine (read_any o i p F 0 0 _ (HF.out.below ((Below.refl _ _).alloc (Nat.le_refl _) _)) hl (by decide) (by decide) (by decide) (by decide)).mono ?_; rintro e w1 ⟨v1, rfl, ho1, hb1⟩; rw [HE.out]; have HB1 := Lib.hid (((Below.refl w.heap.size w).alloc (Nat.le_refl _) _).trans (hb1.mono (by simp))); have HX1 := Lib.hid ((hb1.block _ (by simp)).trans (heap_alloc_new w _)); clear ho1 hb1; obtain ⟨⟨x0, x1, x2⟩, f0, f1, f2⟩ := rt_cells HX1.out)
  exact ⟨rfl, _, best_res rfl rfl rfl (set3 HX1.out), rfl, below3 HB1.out (Nat.le_refl _)⟩
theorem ldOk_take {l : List Int} (h : 32 ≤ l.length) : ldOk (l.take 32) ↔ ldOk l := by
  unfold ldOk
  rw [ldR0_take, List.take_take, List.length_take, Nat.min_self]
  constructor
  · exact fun ⟨_, h2, h3⟩ => ⟨h, h2, h3⟩
  · exact fun ⟨_, h2, h3⟩ => ⟨by omega, h2, h3⟩
theorem ldR_take {l : List Int} (h : 32 ≤ l.length) : ldR (l.take 32) = ldR l := by
  unfold ldR
  rw [ldR0_take]
  by_cases h2 : ldOk l
  · rw [if_pos h2, if_pos ((ldOk_take h).2 h2)]
  · rw [if_neg h2, if_neg (fun h3 => h2 ((ldOk_take h).1 h3))]
def slV (b : List Int) (k : Nat) : Rt := if slotOk b k then slotR b k else Rt.zero
def slI (b : List Int) (k : Nat) : Bool := decide (slotOk b k)
/-- What the two rounds have found. -/
def bst (b : List Int) (k : Nat) (x y : Rt) (bx by_ : Bool) : Prop := (x = (if 0 < k then slV b 0 else Rt.zero) ∧ bx = (decide (0 < k) && slI b 0)) ∧ y = (if 1 < k then slV b 1 else Rt.zero) ∧ by_ = (decide (1 < k) && slI b 1)
theorem bst_zero (b : List Int) : bst b 0 Rt.zero Rt.zero false false := ⟨⟨rfl, rfl⟩, rfl, rfl⟩
theorem slot_not {b : List Int} {k : Nat} (h : ¬ slotOk b k) : slV b k = Rt.zero ∧ slI b k = false := by
  unfold slV slI
  rw [if_neg h]
  exact ⟨rfl, by simp [h]⟩
theorem slot_is {b : List Int} {k : Nat} (h : slotOk b k) : slV b k = slotR b k ∧ slI b k = true := by
  unfold slV slI
  rw [if_pos h]
  exact ⟨rfl, by simp [h]⟩
theorem bst_skip0 {b : List Int} {x y : Rt} {bx by_ : Bool} (h : bst b 0 x y bx by_) (hn : ¬ slotOk b 0) : bst b 1 x y bx by_ := by
  obtain ⟨h1, h2⟩ := slot_not hn
  unfold bst at *
  rw [h1, h2]
  exact h
theorem bst_skip1 {b : List Int} {x y : Rt} {bx by_ : Bool} (h : bst b 1 x y bx by_) (hn : ¬ slotOk b 1) : bst b 2 x y bx by_ := by
  obtain ⟨h1, h2⟩ := slot_not hn
  unfold bst at *
  rw [h1, h2]
  exact h
theorem bst_take0 {b : List Int} {x y : Rt} {bx by_ : Bool} (h : bst b 0 x y bx by_) (hn : slotOk b 0) : bst b 1 (slotR b 0) y true by_ := by
  obtain ⟨h1, h2⟩ := slot_is hn
  unfold bst at *
  rw [h1, h2]
  exact ⟨⟨rfl, rfl⟩, h.2⟩
theorem bst_take1 {b : List Int} {x y : Rt} {bx by_ : Bool} (h : bst b 1 x y bx by_) (hn : slotOk b 1) : bst b 2 x (slotR b 1) bx true := by
  obtain ⟨h1, h2⟩ := slot_is hn
  unfold bst at *
  rw [h1, h2]
  exact ⟨h.1, rfl, rfl⟩
/-- A slot that is read: too short, no root's bytes, another slot's root, or the root. -/
theorem slot_cases (b : List Int) (k : Nat) (hb : Bts b) : (b.length < 32 * (k + 1) ∧ ¬ slotOk b k) ∨
    ∃ m : List Int, m = (b.drop (32 * k)).take 32 ∧ m.length = 32 ∧ Bts m ∧ 32 * (k + 1) ≤ b.length ∧ ldR m = slotR b k ∧ ((ldE m = 5 ∧ ¬ slotOk b k) ∨ (ldE m = 0 ∧ (gOk (slotR b k) ∧ (slotR b k).g % 2 ≠ k) ∧ ¬ slotOk b k) ∨ (ldE m = 0 ∧ (gOk (slotR b k) ∧ (slotR b k).g % 2 = k) ∧ slotOk b k)) := by
  by_cases h : b.length < 32 * (k + 1)
  · exact .inl ⟨h, fun h2 => by have := h2.1.1; rw [List.length_drop] at this; omega⟩
  · have hd : 32 ≤ (b.drop (32 * k)).length := by rw [List.length_drop]; omega
    have hm : ((b.drop (32 * k)).take 32).length = 32 := by rw [List.length_take]; omega
    refine .inr ⟨_, rfl, hm, (hb.drop _).take _, by omega, ldR_take hd, ?_⟩
    by_cases hk : ldOk (b.drop (32 * k))
    · have he : ldE ((b.drop (32 * k)).take 32) = 0 := ldE_zero.2 ((ldOk_take hd).2 hk)
      have hg : gOk (slotR b k) := by
        unfold slotR ldR
        rw [if_pos hk]
        exact (ldR0_range (hb.drop _)).1
      by_cases hp : (slotR b k).g % 2 = k
      · exact .inr (.inr ⟨he, ⟨hg, hp⟩, hk, hp⟩)
      · exact .inr (.inl ⟨he, ⟨hg, hp⟩, fun h2 => hp h2.2⟩)
    · refine .inl ⟨?_, fun h2 => hk h2.1⟩
      unfold ldE
      rw [if_neg (by omega), if_neg (fun h2 => hk ((ldOk_take hd).1 h2))]
theorem heap_alloc_at (w : World) (o : Obj) {g : Nat} (h : g = w.heap.size) : (w.alloc o).heap[g]? = some o := by
  subst h
  exact heap_alloc_new w o
theorem st_k0 {W : World} {f b0 : Nat} {t t2 : TypeId} {x0 x1 x2 z0 z1 z2 a b c u v : Value} {X : Obj} (hf : W.heap[f]? = some (.cells #[x0, x1, x2, z0, z1, z2] t (0, 0))) (hi : W.heap[f + 1]? = some (.cells #[u, v] t2 (0, 0))) (h0 : W.heap[b0]? = some X) (n1 : b0 ≠ f) (n2 : b0 ≠ f + 1) :
    ((((W.setCell ⟨f, 0, none⟩ a).setCell ⟨f, 1, none⟩ b).setCell ⟨f, 2, none⟩ c).setCell ⟨f + 1, 0, none⟩ (.bool true)).heap[f]? = some (.cells #[a, b, c, z0, z1, z2] t (0, 0)) ∧
    ((((W.setCell ⟨f, 0, none⟩ a).setCell ⟨f, 1, none⟩ b).setCell ⟨f, 2, none⟩ c).setCell ⟨f + 1, 0, none⟩ (.bool true)).heap[f + 1]? = some (.cells #[.bool true, v] t2 (0, 0)) ∧
    ((((W.setCell ⟨f, 0, none⟩ a).setCell ⟨f, 1, none⟩ b).setCell ⟨f, 2, none⟩ c).setCell ⟨f + 1, 0, none⟩ (.bool true)).heap[b0]? = some X := by
  refine ⟨?_, ?_, ?_⟩
  · refine (Below.heap_setCell _ _ _ _ (by show f ≠ f + 1; omega)).trans ?_
    have := blk_set (blk_set (blk_set hf 0 a) 1 b) 2 c
    simpa using this
  · have h1 : (((W.setCell ⟨f, 0, none⟩ a).setCell ⟨f, 1, none⟩ b).setCell ⟨f, 2, none⟩ c).heap[f + 1]? = some (.cells #[u, v] t2 (0, 0)) :=
      (Below.heap_setCell _ _ _ _ (by show f + 1 ≠ f; omega)).trans ((Below.heap_setCell _ _ _ _ (by show f + 1 ≠ f; omega)).trans ((Below.heap_setCell _ _ _ _ (by show f + 1 ≠ f; omega)).trans hi))
    have := blk_set h1 0 (.bool true)
    simpa using this
  · exact (Below.heap_setCell _ _ _ _ (by exact n2)).trans ((Below.heap_setCell _ _ _ _ (by exact n1)).trans ((Below.heap_setCell _ _ _ _ (by exact n1)).trans ((Below.heap_setCell _ _ _ _ (by exact n1)).trans h0)))
theorem st_k1 {W : World} {f b0 : Nat} {t t2 : TypeId} {x0 x1 x2 z0 z1 z2 a b c u v : Value} {X : Obj} (hf : W.heap[f]? = some (.cells #[z0, z1, z2, x0, x1, x2] t (0, 0))) (hi : W.heap[f + 1]? = some (.cells #[u, v] t2 (0, 0))) (h0 : W.heap[b0]? = some X) (n1 : b0 ≠ f) (n2 : b0 ≠ f + 1) :
    ((((W.setCell ⟨f, 3, none⟩ a).setCell ⟨f, 4, none⟩ b).setCell ⟨f, 5, none⟩ c).setCell ⟨f + 1, 1, none⟩ (.bool true)).heap[f]? = some (.cells #[z0, z1, z2, a, b, c] t (0, 0)) ∧
    ((((W.setCell ⟨f, 3, none⟩ a).setCell ⟨f, 4, none⟩ b).setCell ⟨f, 5, none⟩ c).setCell ⟨f + 1, 1, none⟩ (.bool true)).heap[f + 1]? = some (.cells #[u, .bool true] t2 (0, 0)) ∧
    ((((W.setCell ⟨f, 3, none⟩ a).setCell ⟨f, 4, none⟩ b).setCell ⟨f, 5, none⟩ c).setCell ⟨f + 1, 1, none⟩ (.bool true)).heap[b0]? = some X := by
  refine ⟨?_, ?_, ?_⟩
  · refine (Below.heap_setCell _ _ _ _ (by show f ≠ f + 1; omega)).trans ?_
    have := blk_set (blk_set (blk_set hf 3 a) 4 b) 5 c
    simpa using this
  · have h1 : (((W.setCell ⟨f, 3, none⟩ a).setCell ⟨f, 4, none⟩ b).setCell ⟨f, 5, none⟩ c).heap[f + 1]? = some (.cells #[u, v] t2 (0, 0)) :=
      (Below.heap_setCell _ _ _ _ (by show f + 1 ≠ f; omega)).trans ((Below.heap_setCell _ _ _ _ (by show f + 1 ≠ f; omega)).trans ((Below.heap_setCell _ _ _ _ (by show f + 1 ≠ f; omega)).trans hi))
    have := blk_set h1 1 (.bool true)
    simpa using this
  · exact (Below.heap_setCell _ _ _ _ (by exact n2)).trans ((Below.heap_setCell _ _ _ _ (by exact n1)).trans ((Below.heap_setCell _ _ _ _ (by exact n1)).trans ((Below.heap_setCell _ _ _ _ (by exact n1)).trans h0)))
theorem far3 {W : World} {p q : Nat} {a b c : Value} (h : q ≠ p) : (((W.setCell ⟨p, 0, none⟩ a).setCell ⟨p, 1, none⟩ b).setCell ⟨p, 2, none⟩ c).heap[q]? = W.heap[q]? :=
  (Below.heap_setCell _ _ _ _ (by exact h)).trans ((Below.heap_setCell _ _ _ _ (by exact h)).trans (Below.heap_setCell _ _ _ _ (by exact h)))
theorem below4 {w W : World} {p i j k m : Nat} {a b c d : Value} (h : Below w.heap.size w W) (hp : w.heap.size ≤ p) : Below w.heap.size w ((((W.setCell ⟨p, i, none⟩ a).setCell ⟨p, j, none⟩ b).setCell ⟨p, k, none⟩ c).setCell ⟨p + 1, m, none⟩ d) :=
  (((h.setCell (p := ⟨p, i, none⟩) hp _).setCell (p := ⟨p, j, none⟩) hp _).setCell (p := ⟨p, k, none⟩) hp _).setCell (p := ⟨p + 1, m, none⟩) (by show w.heap.size ≤ p + 1; omega) _
theorem bst_end {b : List Int} {x y : Rt} {bx by_ : Bool} (h : bst b 2 x y bx by_) : (bsIs b = (bx || by_) ∧ bsR b = (if bx = true then (if by_ = true ∧ x.g < y.g then y else x) else if by_ = true then y else Rt.zero)) ∧ (bx = false → x = Rt.zero) ∧ (by_ = true → y.g % 2 = 1) := by
  obtain ⟨⟨h1, h2⟩, h3, h4⟩ := h
  simp at h1 h2 h3 h4
  subst h1 h2 h3 h4
  unfold bsIs bsR slI slV
  by_cases k0 : slotOk b 0 <;> by_cases k1 : slotOk b 1
  · have := k1.2
    simp [k0, k1]
    exact this
  · simp [k0, k1]
  · have := k1.2
    simp [k0, k1]
    exact this
  · simp [k0, k1]
def BestPost (F : FM) (w : World) (e : Ending) (w' : World) : Prop := e = .returned (.tuple #[(bsR F.b).v, .bool (bsIs F.b), .int .i64 0]) ∧ Below w.heap.size w w'
set_option maxRecDepth 100000 in
set_option maxHeartbeats 3200000 in
theorem best_any (o : Nat → Nat) (i p : Nat) (F : FM) (w : World) (hF : FileA w o i p F) (hl : F.b.length ≤ 4200000) (hoff : F.off = false) (hb : Bts F.b) (hT : TabAt w) :
    Calls Tryd.prog 16 #[.pointer (some ⟨p, 0, none⟩)] w (BestPost F w) := by
  have he : rdE F 0 0 = 0 := by unfold rdE; rw [if_neg (by rw [hoff]; decide), if_neg (by decide), if_neg (by omega)]
  have HE := Lib.hid he
  have HF := Lib.hid hF
  have HT := Lib.hid hT
  have HOFF := Lib.hid hoff
  have HBt := Lib.hid hb
  clear he hF hT hoff hb
  go_enter Tryd.func16, Tryd.ntmps16
  go_wp2_with (go_at_call 37; refine (read_any o i p F 0 0 _ (HF.out.below ((Below.refl _ _).alloc (Nat.le_refl _) _)) hl (by decide) (by decide) (by decide) (by decide)).mono ?_; rintro e w1 ⟨v1, rfl, ho1, hb1⟩; rw [HE.out]; have HB1 := Lib.hid (((Below.refl w.heap.size w).alloc (Nat.le_refl _) _).trans (hb1.mono (by simp))); have HX1 := Lib.hid ((hb1.block _ (by simp)).trans (heap_alloc_new w _)); clear ho1 hb1; obtain ⟨⟨x0, x1, x2⟩, f0, f1, f2⟩ := rt_cells HX1.out)
  clear x0 x1 x2 f0 f1 f2
  have hs1 : w.heap.size < w1.heap.size := (Array.getElem?_eq_some_iff.1 HX1.out).1
  have HB3 := Lib.hid (show Below w.heap.size w _ from ((HB1.out.alloc HB1.out.size (.cells #[.int .u64 0, .int .i64 0, .int .i64 0, .int .u64 0, .int .i64 0, .int .i64 0] 80)).alloc (by simp; omega) (.cells #[.bool false, .bool false] 81)))
  have HX3 := Lib.hid (show ((w1.alloc (.cells #[.int .u64 0, .int .i64 0, .int .i64 0, .int .u64 0, .int .i64 0, .int .i64 0] 80)).alloc (.cells #[.bool false, .bool false] 81)).heap[w.heap.size]? = _ from (heap_alloc_old _ _ (by simp; omega)).trans ((heap_alloc_old w1 _ hs1).trans HX1.out))
  have HXf3 := Lib.hid (show ((w1.alloc (.cells #[.int .u64 0, .int .i64 0, .int .i64 0, .int .u64 0, .int .i64 0, .int .i64 0] 80)).alloc (.cells #[.bool false, .bool false] 81)).heap[w1.heap.size]? = _ from (heap_alloc_old _ _ (by simp)).trans (heap_alloc_new w1 _))
  have HXi3 := Lib.hid (show ((w1.alloc (.cells #[.int .u64 0, .int .i64 0, .int .i64 0, .int .u64 0, .int .i64 0, .int .i64 0] 80)).alloc (.cells #[.bool false, .bool false] 81)).heap[w1.heap.size + 1]? = _ from heap_alloc_at _ _ (by simp))
  have HFB := Lib.hid (fun W (hW : Below w.heap.size w W) => HF.out.below hW)
  go_loopw [24] (fun i wr => ∃ (k : Nat) (x y : Rt) (bx by_ : Bool), k ≤ 2 ∧ i = .int .i64 k ∧ Hid (bst F.b k x y bx by_) ∧ Hid (wr.heap[w1.heap.size]? = some (.cells #[.int .u64 x.g, .int .i64 x.pl, .int .i64 x.sz, .int .u64 y.g, .int .i64 y.pl, .int .i64 y.sz] 80 (0, 0))) ∧
    Hid (wr.heap[w1.heap.size + 1]? = some (.cells #[.bool bx, .bool by_] 81 (0, 0))) ∧ Hid (wr.heap[w.heap.size]? = some (.cells #[.int .u64 0, .int .i64 0, .int .i64 0] 24 (0, 0))) ∧ Hid (Below w.heap.size w wr)) (fun i _ => 2 - (intOf i).toNat)
  case atStart => exact ⟨0, Rt.zero, Rt.zero, false, false, by omega, rfl, bst_zero _, HXf3.out, HXi3.out, HX3.out, HB3.out⟩
  case round =>
    obtain ⟨k, x, y, bx, by_, hk, rfl, HST, HXf, HXi, HX0, HBr⟩ := hrel
    have hsf : w1.heap.size + 1 < wr.heap.size := (Array.getElem?_eq_some_iff.1 HXi.out).1
    rcases (by omega : k = 0 ∨ k = 1 ∨ k = 2) with rfl | rfl | rfl
    · rcases slot_cases F.b 0 HBt.out with ⟨hs, hn⟩ | ⟨m, hm, hml, hmb, hs, hmr, hc⟩
      · have he : rdE F 0 32 = 4 := by unfold rdE; rw [if_neg (by rw [HOFF.out]; decide), if_neg (by decide), if_pos (by omega)]
        have HEr := Lib.hid he
        have HN := Lib.hid hn
        clear he hn hs
        go_wp2_with (go_at_call 37; refine (read_any o i p F 0 32 wr (HFB.out _ HBr.out) hl (by decide) (by decide) (by decide) (by decide)).mono ?_; rintro e w4 ⟨v4, rfl, ho4, hb4⟩; rw [HEr.out])
        go_roundw
        case rel => exact ⟨1, x, y, bx, by_, by omega, rfl, bst_skip0 HST.out HN.out, (hb4.block _ (by omega)).trans HXf.out, (hb4.block _ hsf).trans HXi.out, (hb4.block _ (by omega)).trans HX0.out, HBr.out.trans (hb4.mono HBr.out.size)⟩
        case measure => simp [intOf]
      · have he : rdE F 0 32 = 0 := by unfold rdE; rw [if_neg (by rw [HOFF.out]; decide), if_neg (by decide), if_neg (by omega)]
        have hr : rdL F 0 32 = m := by unfold rdL; rw [if_pos he]; exact hm.symm
        have HEr := Lib.hid he
        have HRr := Lib.hid hr
        have HMB := Lib.hid hmb
        have HMR := Lib.hid hmr
        have HML := Lib.hid (show m.length ≤ 150000000000000 by omega)
        have HRV := Lib.hid (show (slotR F.b 0).v = .agg #[.int .u64 (slotR F.b 0).g, .int .i64 (slotR F.b 0).pl, .int .i64 (slotR F.b 0).sz] from rfl)
        clear he hr hm hml hmb hs hmr
        go_wp2_with fail
        refine (read_any o i p F 0 32 wr (HFB.out _ HBr.out) hl (by decide) (by decide) (by decide) (by decide)).mono ?_
        rintro e w4 ⟨v4, rfl, ho4, hb4⟩
        rw [HEr.out]
        rw [HRr.out] at ho4
        obtain ⟨A4, c4, rfl, _, hr4, hcl⟩ := own_split ho4
        have HR4 := Lib.hid hr4
        have HCL := Lib.hid hcl
        have HB4 := Lib.hid (HBr.out.trans (hb4.mono HBr.out.size))
        have HXf4 := Lib.hid ((hb4.block _ (by omega)).trans HXf.out)
        have HXi4 := Lib.hid ((hb4.block _ hsf).trans HXi.out)
        have HX4 := Lib.hid ((hb4.block _ (by omega)).trans HX0.out)
        have HS4 := Lib.hid (show w1.heap.size + 1 < w4.heap.size by have := hb4.size; omega)
        clear ho4 hb4 hr4 hcl
        rcases hc with ⟨hc, hn⟩ | ⟨hc, ⟨hg, hp⟩, hn⟩ | ⟨hc, ⟨hg, hp⟩, hn⟩
        · have HC := Lib.hid hc
          have HN := Lib.hid hn
          clear hc hn
          obtain ⟨g, hg'⟩ : ∃ g, g = (slotR F.b 0).g := ⟨_, rfl⟩
          obtain ⟨q, hq'⟩ : ∃ q, q = (slotR F.b 0).pl := ⟨_, rfl⟩
          obtain ⟨z, hz'⟩ : ∃ z, z = (slotR F.b 0).sz := ⟨_, rfl⟩
          rw [← hg', ← hq', ← hz'] at HRV
          clear hg' hq' hz'
          go_wp2_with fail
          refine (load_any A4 c4 m w4 HR4.out HMB.out HCL.out HML.out (HT.out.below HB4.out (Nat.le_refl _))).mono ?_
          rintro e w5 ⟨rfl, hb5⟩
          rw [HMR.out, HC.out, HRV.out]
          have HB5 := Lib.hid (HB4.out.trans (hb5.mono HB4.out.size))
          have HXf5 := Lib.hid ((hb5.block _ (by have := HS4.out; omega)).trans HXf4.out)
          have HXi5 := Lib.hid ((hb5.block _ (by have := HS4.out; omega)).trans HXi4.out)
          have HX5 := Lib.hid ((hb5.block _ (by have := HS4.out; omega)).trans HX4.out)
          have HS5 := Lib.hid (show w1.heap.size + 1 < w5.heap.size by have := HS4.out; have := hb5.size; omega)
          clear hb5
          have HB6 := Lib.hid (HB5.out.alloc HB5.out.size (.cells #[.int .u64 g, .int .i64 q, .int .i64 z] 24))
          have HXf6 := Lib.hid ((heap_alloc_old w5 (.cells #[.int .u64 g, .int .i64 q, .int .i64 z] 24) (by have := HS5.out; omega)).trans HXf5.out)
          have HXi6 := Lib.hid ((heap_alloc_old w5 (.cells #[.int .u64 g, .int .i64 q, .int .i64 z] 24) (by have := HS5.out; omega)).trans HXi5.out)
          have HX6 := Lib.hid ((heap_alloc_old w5 (.cells #[.int .u64 g, .int .i64 q, .int .i64 z] 24) (by have := HS5.out; omega)).trans HX5.out)
          go_wp2_with fail
          go_roundw
          case rel => exact ⟨1, x, y, bx, by_, by omega, rfl, bst_skip0 HST.out HN.out, HXf6.out, HXi6.out, HX6.out, HB6.out⟩
          case measure => simp [intOf]
        · have HC := Lib.hid hc
          have HN := Lib.hid hn
          unfold gOk at hg
          clear hc hn
          obtain ⟨g, hg'⟩ : ∃ g, g = (slotR F.b 0).g := ⟨_, rfl⟩
          obtain ⟨q, hq'⟩ : ∃ q, q = (slotR F.b 0).pl := ⟨_, rfl⟩
          obtain ⟨z, hz'⟩ : ∃ z, z = (slotR F.b 0).sz := ⟨_, rfl⟩
          rw [← hg', ← hq', ← hz'] at HRV
          rw [← hg'] at hg hp
          clear hg' hq' hz'
          obtain ⟨hg1, hg2⟩ := hg
          have hp' : g % 2 = 1 := by omega
          clear hp
          go_wp2_with fail
          refine (load_any A4 c4 m w4 HR4.out HMB.out HCL.out HML.out (HT.out.below HB4.out (Nat.le_refl _))).mono ?_
          rintro e w5 ⟨rfl, hb5⟩
          rw [HMR.out, HC.out, HRV.out]
          have HB5 := Lib.hid (HB4.out.trans (hb5.mono HB4.out.size))
          have HXf5 := Lib.hid ((hb5.block _ (by have := HS4.out; omega)).trans HXf4.out)
          have HXi5 := Lib.hid ((hb5.block _ (by have := HS4.out; omega)).trans HXi4.out)
          have HX5 := Lib.hid ((hb5.block _ (by have := HS4.out; omega)).trans HX4.out)
          have HS5 := Lib.hid (show w1.heap.size + 1 < w5.heap.size by have := HS4.out; have := hb5.size; omega)
          clear hb5
          have HB6 := Lib.hid (HB5.out.alloc HB5.out.size (.cells #[.int .u64 g, .int .i64 q, .int .i64 z] 24))
          have HXf6 := Lib.hid ((heap_alloc_old w5 (.cells #[.int .u64 g, .int .i64 q, .int .i64 z] 24) (by have := HS5.out; omega)).trans HXf5.out)
          have HXi6 := Lib.hid ((heap_alloc_old w5 (.cells #[.int .u64 g, .int .i64 q, .int .i64 z] 24) (by have := HS5.out; omega)).trans HXi5.out)
          have HX6 := Lib.hid ((heap_alloc_old w5 (.cells #[.int .u64 g, .int .i64 q, .int .i64 z] 24) (by have := HS5.out; omega)).trans HX5.out)
          go_wp2_with fail
          go_roundw
          case rel => exact ⟨1, x, y, bx, by_, by omega, rfl, bst_skip0 HST.out HN.out, HXf6.out, HXi6.out, HX6.out, HB6.out⟩
          case measure => simp [intOf]
        · have HC := Lib.hid hc
          have HN := Lib.hid hn
          unfold gOk at hg
          clear hc hn
          obtain ⟨g, hg'⟩ : ∃ g, g = (slotR F.b 0).g := ⟨_, rfl⟩
          obtain ⟨q, hq'⟩ : ∃ q, q = (slotR F.b 0).pl := ⟨_, rfl⟩
          obtain ⟨z, hz'⟩ : ∃ z, z = (slotR F.b 0).sz := ⟨_, rfl⟩
          rw [← hg', ← hq', ← hz'] at HRV
          rw [← hg'] at hg hp
          have HG' := Lib.hid hg'
          have HQ' := Lib.hid hq'
          have HZ' := Lib.hid hz'
          clear hg' hq' hz'
          obtain ⟨hg1, hg2⟩ := hg
          have hp' : g % 2 = 0 := by omega
          clear hp
          go_wp2_with fail
          refine (load_any A4 c4 m w4 HR4.out HMB.out HCL.out HML.out (HT.out.below HB4.out (Nat.le_refl _))).mono ?_
          rintro e w5 ⟨rfl, hb5⟩
          rw [HMR.out, HC.out, HRV.out]
          have HB5 := Lib.hid (HB4.out.trans (hb5.mono HB4.out.size))
          have HXf5 := Lib.hid ((hb5.block _ (by have := HS4.out; omega)).trans HXf4.out)
          have HXi5 := Lib.hid ((hb5.block _ (by have := HS4.out; omega)).trans HXi4.out)
          have HX5 := Lib.hid ((hb5.block _ (by have := HS4.out; omega)).trans HX4.out)
          have HS5 := Lib.hid (show w1.heap.size + 1 < w5.heap.size by have := HS4.out; have := hb5.size; omega)
          clear hb5
          have HB6 := Lib.hid (HB5.out.alloc HB5.out.size (.cells #[.int .u64 g, .int .i64 q, .int .i64 z] 24))
          have HXf6 := Lib.hid ((heap_alloc_old w5 (.cells #[.int .u64 g, .int .i64 q, .int .i64 z] 24) (by have := HS5.out; omega)).trans HXf5.out)
          have HXi6 := Lib.hid ((heap_alloc_old w5 (.cells #[.int .u64 g, .int .i64 q, .int .i64 z] 24) (by have := HS5.out; omega)).trans HXi5.out)
          have HX6 := Lib.hid ((heap_alloc_old w5 (.cells #[.int .u64 g, .int .i64 q, .int .i64 z] 24) (by have := HS5.out; omega)).trans HX5.out)
          have q0 : ∀ ob, (w5.alloc ob).cell? ⟨w1.heap.size, 0, none⟩ = some (.int .u64 x.g) := fun ob => blk_cell ((heap_alloc_old w5 ob (by have := HS5.out; omega)).trans HXf5.out) 0
          have q1 : ∀ ob, (w5.alloc ob).cell? ⟨w1.heap.size, 1, none⟩ = some (.int .i64 x.pl) := fun ob => blk_cell ((heap_alloc_old w5 ob (by have := HS5.out; omega)).trans HXf5.out) 1
          have q2 : ∀ ob, (w5.alloc ob).cell? ⟨w1.heap.size, 2, none⟩ = some (.int .i64 x.sz) := fun ob => blk_cell ((heap_alloc_old w5 ob (by have := HS5.out; omega)).trans HXf5.out) 2
          have q3 : ∀ ob, (w5.alloc ob).cell? ⟨w1.heap.size + 1, 0, none⟩ = some (.bool bx) := fun ob => blk_cell ((heap_alloc_old w5 ob (by have := HS5.out; omega)).trans HXi5.out) 0
          have q4 : ∀ ob j, (w5.alloc ob).frozen? ⟨w1.heap.size, j, none⟩ = false := fun ob j => blk_frozen ((heap_alloc_old w5 ob (by have := HS5.out; omega)).trans HXf5.out) j
          have q5 : ∀ ob j, (w5.alloc ob).frozen? ⟨w1.heap.size + 1, j, none⟩ = false := fun ob j => blk_frozen ((heap_alloc_old w5 ob (by have := HS5.out; omega)).trans HXi5.out) j
          go_wp2_with fail
          obtain ⟨k1, k2, k3⟩ := st_k0 (a := .int .u64 g) (b := .int .i64 q) (c := .int .i64 z) HXf6.out HXi6.out HX6.out (by omega) (by omega)
          rw [HG'.out, HQ'.out, HZ'.out] at k1 k2 k3 HB6 ⊢
          go_roundw
          case rel => exact ⟨1, slotR F.b 0, y, true, by_, by omega, rfl, bst_take0 HST.out HN.out, k1, k2, k3, below4 HB6.out (by omega)⟩
          case measure => simp [intOf]
    · rcases slot_cases F.b 1 HBt.out with ⟨hs, hn⟩ | ⟨m, hm, hml, hmb, hs, hmr, hc⟩
      · have he : rdE F 32 32 = 4 := by unfold rdE; rw [if_neg (by rw [HOFF.out]; decide), if_neg (by decide), if_pos (by omega)]
        have HEr := Lib.hid he
        have HN := Lib.hid hn
        clear he hn hs
        go_wp2_with (go_at_call 37; refine (read_any o i p F 32 32 wr (HFB.out _ HBr.out) hl (by decide) (by decide) (by decide) (by decide)).mono ?_; rintro e w4 ⟨v4, rfl, ho4, hb4⟩; rw [HEr.out])
        go_roundw
        case rel => exact ⟨2, x, y, bx, by_, by omega, rfl, bst_skip1 HST.out HN.out, (hb4.block _ (by omega)).trans HXf.out, (hb4.block _ hsf).trans HXi.out, (hb4.block _ (by omega)).trans HX0.out, HBr.out.trans (hb4.mono HBr.out.size)⟩
        case measure => simp [intOf]
      · have he : rdE F 32 32 = 0 := by unfold rdE; rw [if_neg (by rw [HOFF.out]; decide), if_neg (by decide), if_neg (by omega)]
        have hr : rdL F 32 32 = m := by unfold rdL; rw [if_pos he]; exact hm.symm
        have HEr := Lib.hid he
        have HRr := Lib.hid hr
        have HMB := Lib.hid hmb
        have HMR := Lib.hid hmr
        have HML := Lib.hid (show m.length ≤ 150000000000000 by omega)
        have HRV := Lib.hid (show (slotR F.b 1).v = .agg #[.int .u64 (slotR F.b 1).g, .int .i64 (slotR F.b 1).pl, .int .i64 (slotR F.b 1).sz] from rfl)
        clear he hr hm hml hmb hs hmr
        go_wp2_with fail
        refine (read_any o i p F 32 32 wr (HFB.out _ HBr.out) hl (by decide) (by decide) (by decide) (by decide)).mono ?_
        rintro e w4 ⟨v4, rfl, ho4, hb4⟩
        rw [HEr.out]
        rw [HRr.out] at ho4
        obtain ⟨A4, c4, rfl, _, hr4, hcl⟩ := own_split ho4
        have HR4 := Lib.hid hr4
        have HCL := Lib.hid hcl
        have HB4 := Lib.hid (HBr.out.trans (hb4.mono HBr.out.size))
        have HXf4 := Lib.hid ((hb4.block _ (by omega)).trans HXf.out)
        have HXi4 := Lib.hid ((hb4.block _ hsf).trans HXi.out)
        have HX4 := Lib.hid ((hb4.block _ (by omega)).trans HX0.out)
        have HS4 := Lib.hid (show w1.heap.size + 1 < w4.heap.size by have := hb4.size; omega)
        clear ho4 hb4 hr4 hcl
        rcases hc with ⟨hc, hn⟩ | ⟨hc, ⟨hg, hp⟩, hn⟩ | ⟨hc, ⟨hg, hp⟩, hn⟩
        · have HC := Lib.hid hc
          have HN := Lib.hid hn
          clear hc hn
          obtain ⟨g, hg'⟩ : ∃ g, g = (slotR F.b 1).g := ⟨_, rfl⟩
          obtain ⟨q, hq'⟩ : ∃ q, q = (slotR F.b 1).pl := ⟨_, rfl⟩
          obtain ⟨z, hz'⟩ : ∃ z, z = (slotR F.b 1).sz := ⟨_, rfl⟩
          rw [← hg', ← hq', ← hz'] at HRV
          clear hg' hq' hz'
          go_wp2_with fail
          refine (load_any A4 c4 m w4 HR4.out HMB.out HCL.out HML.out (HT.out.below HB4.out (Nat.le_refl _))).mono ?_
          rintro e w5 ⟨rfl, hb5⟩
          rw [HMR.out, HC.out, HRV.out]
          have HB5 := Lib.hid (HB4.out.trans (hb5.mono HB4.out.size))
          have HXf5 := Lib.hid ((hb5.block _ (by have := HS4.out; omega)).trans HXf4.out)
          have HXi5 := Lib.hid ((hb5.block _ (by have := HS4.out; omega)).trans HXi4.out)
          have HX5 := Lib.hid ((hb5.block _ (by have := HS4.out; omega)).trans HX4.out)
          have HS5 := Lib.hid (show w1.heap.size + 1 < w5.heap.size by have := HS4.out; have := hb5.size; omega)
          clear hb5
          have HB6 := Lib.hid (HB5.out.alloc HB5.out.size (.cells #[.int .u64 g, .int .i64 q, .int .i64 z] 24))
          have HXf6 := Lib.hid ((heap_alloc_old w5 (.cells #[.int .u64 g, .int .i64 q, .int .i64 z] 24) (by have := HS5.out; omega)).trans HXf5.out)
          have HXi6 := Lib.hid ((heap_alloc_old w5 (.cells #[.int .u64 g, .int .i64 q, .int .i64 z] 24) (by have := HS5.out; omega)).trans HXi5.out)
          have HX6 := Lib.hid ((heap_alloc_old w5 (.cells #[.int .u64 g, .int .i64 q, .int .i64 z] 24) (by have := HS5.out; omega)).trans HX5.out)
          go_wp2_with fail
          go_roundw
          case rel => exact ⟨2, x, y, bx, by_, by omega, rfl, bst_skip1 HST.out HN.out, HXf6.out, HXi6.out, HX6.out, HB6.out⟩
          case measure => simp [intOf]
        · have HC := Lib.hid hc
          have HN := Lib.hid hn
          unfold gOk at hg
          clear hc hn
          obtain ⟨g, hg'⟩ : ∃ g, g = (slotR F.b 1).g := ⟨_, rfl⟩
          obtain ⟨q, hq'⟩ : ∃ q, q = (slotR F.b 1).pl := ⟨_, rfl⟩
          obtain ⟨z, hz'⟩ : ∃ z, z = (slotR F.b 1).sz := ⟨_, rfl⟩
          rw [← hg', ← hq', ← hz'] at HRV
          rw [← hg'] at hg hp
          clear hg' hq' hz'
          obtain ⟨hg1, hg2⟩ := hg
          have hp' : g % 2 = 0 := by omega
          clear hp
          go_wp2_with fail
          refine (load_any A4 c4 m w4 HR4.out HMB.out HCL.out HML.out (HT.out.below HB4.out (Nat.le_refl _))).mono ?_
          rintro e w5 ⟨rfl, hb5⟩
          rw [HMR.out, HC.out, HRV.out]
          have HB5 := Lib.hid (HB4.out.trans (hb5.mono HB4.out.size))
          have HXf5 := Lib.hid ((hb5.block _ (by have := HS4.out; omega)).trans HXf4.out)
          have HXi5 := Lib.hid ((hb5.block _ (by have := HS4.out; omega)).trans HXi4.out)
          have HX5 := Lib.hid ((hb5.block _ (by have := HS4.out; omega)).trans HX4.out)
          have HS5 := Lib.hid (show w1.heap.size + 1 < w5.heap.size by have := HS4.out; have := hb5.size; omega)
          clear hb5
          have HB6 := Lib.hid (HB5.out.alloc HB5.out.size (.cells #[.int .u64 g, .int .i64 q, .int .i64 z] 24))
          have HXf6 := Lib.hid ((heap_alloc_old w5 (.cells #[.int .u64 g, .int .i64 q, .int .i64 z] 24) (by have := HS5.out; omega)).trans HXf5.out)
          have HXi6 := Lib.hid ((heap_alloc_old w5 (.cells #[.int .u64 g, .int .i64 q, .int .i64 z] 24) (by have := HS5.out; omega)).trans HXi5.out)
          have HX6 := Lib.hid ((heap_alloc_old w5 (.cells #[.int .u64 g, .int .i64 q, .int .i64 z] 24) (by have := HS5.out; omega)).trans HX5.out)
          go_wp2_with fail
          go_roundw
          case rel => exact ⟨2, x, y, bx, by_, by omega, rfl, bst_skip1 HST.out HN.out, HXf6.out, HXi6.out, HX6.out, HB6.out⟩
          case measure => simp [intOf]
        · have HC := Lib.hid hc
          have HN := Lib.hid hn
          unfold gOk at hg
          clear hc hn
          obtain ⟨g, hg'⟩ : ∃ g, g = (slotR F.b 1).g := ⟨_, rfl⟩
          obtain ⟨q, hq'⟩ : ∃ q, q = (slotR F.b 1).pl := ⟨_, rfl⟩
          obtain ⟨z, hz'⟩ : ∃ z, z = (slotR F.b 1).sz := ⟨_, rfl⟩
          rw [← hg', ← hq', ← hz'] at HRV
          rw [← hg'] at hg hp
          have HG' := Lib.hid hg'
          have HQ' := Lib.hid hq'
          have HZ' := Lib.hid hz'
          clear hg' hq' hz'
          obtain ⟨hg1, hg2⟩ := hg
          have hp' : g % 2 = 1 := by omega
          clear hp
          go_wp2_with fail
          refine (load_any A4 c4 m w4 HR4.out HMB.out HCL.out HML.out (HT.out.below HB4.out (Nat.le_refl _))).mono ?_
          rintro e w5 ⟨rfl, hb5⟩
          rw [HMR.out, HC.out, HRV.out]
          have HB5 := Lib.hid (HB4.out.trans (hb5.mono HB4.out.size))
          have HXf5 := Lib.hid ((hb5.block _ (by have := HS4.out; omega)).trans HXf4.out)
          have HXi5 := Lib.hid ((hb5.block _ (by have := HS4.out; omega)).trans HXi4.out)
          have HX5 := Lib.hid ((hb5.block _ (by have := HS4.out; omega)).trans HX4.out)
          have HS5 := Lib.hid (show w1.heap.size + 1 < w5.heap.size by have := HS4.out; have := hb5.size; omega)
          clear hb5
          have HB6 := Lib.hid (HB5.out.alloc HB5.out.size (.cells #[.int .u64 g, .int .i64 q, .int .i64 z] 24))
          have HXf6 := Lib.hid ((heap_alloc_old w5 (.cells #[.int .u64 g, .int .i64 q, .int .i64 z] 24) (by have := HS5.out; omega)).trans HXf5.out)
          have HXi6 := Lib.hid ((heap_alloc_old w5 (.cells #[.int .u64 g, .int .i64 q, .int .i64 z] 24) (by have := HS5.out; omega)).trans HXi5.out)
          have HX6 := Lib.hid ((heap_alloc_old w5 (.cells #[.int .u64 g, .int .i64 q, .int .i64 z] 24) (by have := HS5.out; omega)).trans HX5.out)
          have q0 : ∀ ob, (w5.alloc ob).cell? ⟨w1.heap.size, 3, none⟩ = some (.int .u64 y.g) := fun ob => blk_cell ((heap_alloc_old w5 ob (by have := HS5.out; omega)).trans HXf5.out) 3
          have q1 : ∀ ob, (w5.alloc ob).cell? ⟨w1.heap.size, 4, none⟩ = some (.int .i64 y.pl) := fun ob => blk_cell ((heap_alloc_old w5 ob (by have := HS5.out; omega)).trans HXf5.out) 4
          have q2 : ∀ ob, (w5.alloc ob).cell? ⟨w1.heap.size, 5, none⟩ = some (.int .i64 y.sz) := fun ob => blk_cell ((heap_alloc_old w5 ob (by have := HS5.out; omega)).trans HXf5.out) 5
          have q3 : ∀ ob, (w5.alloc ob).cell? ⟨w1.heap.size + 1, 1, none⟩ = some (.bool by_) := fun ob => blk_cell ((heap_alloc_old w5 ob (by have := HS5.out; omega)).trans HXi5.out) 1
          have q4 : ∀ ob j, (w5.alloc ob).frozen? ⟨w1.heap.size, j, none⟩ = false := fun ob j => blk_frozen ((heap_alloc_old w5 ob (by have := HS5.out; omega)).trans HXf5.out) j
          have q5 : ∀ ob j, (w5.alloc ob).frozen? ⟨w1.heap.size + 1, j, none⟩ = false := fun ob j => blk_frozen ((heap_alloc_old w5 ob (by have := HS5.out; omega)).trans HXi5.out) j
          go_wp2_with fail
          obtain ⟨k1, k2, k3⟩ := st_k1 (a := .int .u64 g) (b := .int .i64 q) (c := .int .i64 z) HXf6.out HXi6.out HX6.out (by omega) (by omega)
          rw [HG'.out, HQ'.out, HZ'.out] at k1 k2 k3 HB6 ⊢
          go_roundw
          case rel => exact ⟨2, x, slotR F.b 1, bx, true, by omega, rfl, bst_take1 HST.out HN.out, k1, k2, k3, below4 HB6.out (by omega)⟩
          case measure => simp [intOf]
    · obtain ⟨⟨e1, e2⟩, e3, e4⟩ := bst_end HST.out
      have HE1 := Lib.hid e1
      have HE2 := Lib.hid e2
      clear e1 e2
      have q0 : ∀ ob, (wr.alloc ob).cell? ⟨w1.heap.size, 0, none⟩ = some (.int .u64 x.g) ∧ (wr.alloc ob).cell? ⟨w1.heap.size, 1, none⟩ = some (.int .i64 x.pl) ∧ (wr.alloc ob).cell? ⟨w1.heap.size, 2, none⟩ = some (.int .i64 x.sz) ∧ (wr.alloc ob).cell? ⟨w1.heap.size, 3, none⟩ = some (.int .u64 y.g) ∧ (wr.alloc ob).cell? ⟨w1.heap.size, 4, none⟩ = some (.int .i64 y.pl) ∧ (wr.alloc ob).cell? ⟨w1.heap.size, 5, none⟩ = some (.int .i64 y.sz) := fun ob =>
        have h := (heap_alloc_old wr ob (by omega)).trans HXf.out
        ⟨blk_cell h 0, blk_cell h 1, blk_cell h 2, blk_cell h 3, blk_cell h 4, blk_cell h 5⟩
      have q1 : ∀ ob, (wr.alloc ob).cell? ⟨w1.heap.size + 1, 0, none⟩ = some (.bool bx) ∧ (wr.alloc ob).cell? ⟨w1.heap.size + 1, 1, none⟩ = some (.bool by_) := fun ob =>
        have h := (heap_alloc_old wr ob (by omega)).trans HXi.out
        ⟨blk_cell h 0, blk_cell h 1⟩
      have q2 : ∀ ob, ((wr.alloc ob).cell? ⟨w.heap.size, 0, none⟩ = some (.int .u64 0) ∧ (wr.alloc ob).cell? ⟨w.heap.size, 1, none⟩ = some (.int .i64 0) ∧ (wr.alloc ob).cell? ⟨w.heap.size, 2, none⟩ = some (.int .i64 0)) ∧ (wr.alloc ob).frozen? ⟨w.heap.size, 0, none⟩ = false ∧ (wr.alloc ob).frozen? ⟨w.heap.size, 1, none⟩ = false ∧ (wr.alloc ob).frozen? ⟨w.heap.size, 2, none⟩ = false := fun ob =>
        rt_cells ((heap_alloc_old wr ob (by omega)).trans HX0.out)
      obtain ⟨z0, z1, z2⟩ : wr.cell? ⟨w1.heap.size, 0, none⟩ = some (.int .u64 x.g) ∧ wr.cell? ⟨w1.heap.size, 1, none⟩ = some (.int .i64 x.pl) ∧ wr.cell? ⟨w1.heap.size, 2, none⟩ = some (.int .i64 x.sz) := ⟨blk_cell HXf.out 0, blk_cell HXf.out 1, blk_cell HXf.out 2⟩
      have HBx := Lib.hid (show ∀ ob, Below w.heap.size w (wr.alloc ob) from fun ob => HBr.out.alloc HBr.out.size ob)
      have HXx := Lib.hid (show ∀ ob, (wr.alloc ob).heap[w.heap.size]? = some (.cells #[.int .u64 0, .int .i64 0, .int .i64 0] 24 (0, 0)) from fun ob => (heap_alloc_old wr ob (by omega)).trans HX0.out)
      have hnb := fun W => ne_bools bx by_ W
      rcases Bool.eq_false_or_eq_true bx with rfl | rfl
      · rcases Bool.eq_false_or_eq_true by_ with rfl | rfl
        · have HR := HE2.out
          simp only [if_pos, true_and] at HR
          by_cases hlt : x.g < y.g
          · rw [if_pos hlt] at HR
            have HR2 := Lib.hid HR
            clear HR e3 e4
            go_wp2_with fail
            have GB : (wr.alloc (.cells #[.int .u64 y.g, .int .i64 y.pl, .int .i64 y.sz] 24)).heap[wr.heap.size]? = some (.cells #[.int .u64 y.g, .int .i64 y.pl, .int .i64 y.sz] 24 (0, 0)) := heap_alloc_new wr _
            have GI : (wr.alloc (.cells #[.int .u64 y.g, .int .i64 y.pl, .int .i64 y.sz] 24)).heap[w1.heap.size + 1]? = some (.cells #[.bool true, .bool true] 81 (0, 0)) := (heap_alloc_old wr _ (by omega)).trans HXi.out
            have G0 : (wr.alloc (.cells #[.int .u64 y.g, .int .i64 y.pl, .int .i64 y.sz] 24)).heap[w.heap.size]? = some (.cells #[.int .u64 0, .int .i64 0, .int .i64 0] 24 (0, 0)) := HXx.out _
            have GW : Below w.heap.size w (wr.alloc (.cells #[.int .u64 y.g, .int .i64 y.pl, .int .i64 y.sz] 24)) := HBx.out _
            generalize wr.alloc (.cells #[.int .u64 y.g, .int .i64 y.pl, .int .i64 y.sz] 24) = W9 at GB GI G0 GW ⊢
            obtain ⟨⟨c0, c1, c2⟩, _⟩ := rt_cells GB
            obtain ⟨⟨d0, d1, d2⟩, f0, f1, f2⟩ := rt_cells G0
            obtain ⟨b0, b1⟩ : W9.cell? ⟨w1.heap.size + 1, 0, none⟩ = some (.bool true) ∧ W9.cell? ⟨w1.heap.size + 1, 1, none⟩ = some (.bool true) := ⟨blk_cell GI 0, blk_cell GI 1⟩
            have G0h := Lib.hid G0
            have GWh := Lib.hid GW
            have n1 : ¬ (w.heap.size = wr.heap.size) := by omega
            have n2 : ¬ (wr.heap.size = w.heap.size) := by omega
            clear q0 q1 q2 z0 z1 z2 GB GI G0 GW hs1 hsf
            go_region
            all_goals
              go_wp2_with fail
              exact ⟨rfl, _, best_res rfl rfl rfl (set3 G0h.out), by rw [HE1.out, HR2.out]; rfl, (below3 GWh.out (Nat.le_refl _)).drew⟩
          · rw [if_neg hlt] at HR
            have HR2 := Lib.hid HR
            clear HR e3 e4
            go_wp2_with fail
            have GB : (wr.alloc (.cells #[.int .u64 x.g, .int .i64 x.pl, .int .i64 x.sz] 24)).heap[wr.heap.size]? = some (.cells #[.int .u64 x.g, .int .i64 x.pl, .int .i64 x.sz] 24 (0, 0)) := heap_alloc_new wr _
            have GI : (wr.alloc (.cells #[.int .u64 x.g, .int .i64 x.pl, .int .i64 x.sz] 24)).heap[w1.heap.size + 1]? = some (.cells #[.bool true, .bool true] 81 (0, 0)) := (heap_alloc_old wr _ (by omega)).trans HXi.out
            have G0 : (wr.alloc (.cells #[.int .u64 x.g, .int .i64 x.pl, .int .i64 x.sz] 24)).heap[w.heap.size]? = some (.cells #[.int .u64 0, .int .i64 0, .int .i64 0] 24 (0, 0)) := HXx.out _
            have GW : Below w.heap.size w (wr.alloc (.cells #[.int .u64 x.g, .int .i64 x.pl, .int .i64 x.sz] 24)) := HBx.out _
            generalize wr.alloc (.cells #[.int .u64 x.g, .int .i64 x.pl, .int .i64 x.sz] 24) = W9 at GB GI G0 GW ⊢
            obtain ⟨⟨c0, c1, c2⟩, _⟩ := rt_cells GB
            obtain ⟨⟨d0, d1, d2⟩, f0, f1, f2⟩ := rt_cells G0
            obtain ⟨b0, b1⟩ : W9.cell? ⟨w1.heap.size + 1, 0, none⟩ = some (.bool true) ∧ W9.cell? ⟨w1.heap.size + 1, 1, none⟩ = some (.bool true) := ⟨blk_cell GI 0, blk_cell GI 1⟩
            have G0h := Lib.hid G0
            have GWh := Lib.hid GW
            have n1 : ¬ (w.heap.size = wr.heap.size) := by omega
            have n2 : ¬ (wr.heap.size = w.heap.size) := by omega
            clear q0 q1 q2 z0 z1 z2 GB GI G0 GW hs1 hsf
            go_region
            all_goals
              go_wp2_with fail
              exact ⟨rfl, _, best_res rfl rfl rfl (set3 G0h.out), by rw [HE1.out, HR2.out]; rfl, (below3 GWh.out (Nat.le_refl _)).drew⟩
        · have HR := HE2.out
          simp only [if_pos, Bool.false_eq_true, false_and, if_false] at HR
          have HR2 := Lib.hid HR
          clear HR e3 e4
          go_wp2_with fail
          have GB : (wr.alloc (.cells #[.int .u64 x.g, .int .i64 x.pl, .int .i64 x.sz] 24)).heap[wr.heap.size]? = some (.cells #[.int .u64 x.g, .int .i64 x.pl, .int .i64 x.sz] 24 (0, 0)) := heap_alloc_new wr _
          have GI : (wr.alloc (.cells #[.int .u64 x.g, .int .i64 x.pl, .int .i64 x.sz] 24)).heap[w1.heap.size + 1]? = some (.cells #[.bool true, .bool false] 81 (0, 0)) := (heap_alloc_old wr _ (by omega)).trans HXi.out
          have G0 : (wr.alloc (.cells #[.int .u64 x.g, .int .i64 x.pl, .int .i64 x.sz] 24)).heap[w.heap.size]? = some (.cells #[.int .u64 0, .int .i64 0, .int .i64 0] 24 (0, 0)) := HXx.out _
          have GW : Below w.heap.size w (wr.alloc (.cells #[.int .u64 x.g, .int .i64 x.pl, .int .i64 x.sz] 24)) := HBx.out _
          generalize wr.alloc (.cells #[.int .u64 x.g, .int .i64 x.pl, .int .i64 x.sz] 24) = W9 at GB GI G0 GW ⊢
          obtain ⟨⟨c0, c1, c2⟩, _⟩ := rt_cells GB
          obtain ⟨⟨d0, d1, d2⟩, f0, f1, f2⟩ := rt_cells G0
          obtain ⟨b0, b1⟩ : W9.cell? ⟨w1.heap.size + 1, 0, none⟩ = some (.bool true) ∧ W9.cell? ⟨w1.heap.size + 1, 1, none⟩ = some (.bool false) := ⟨blk_cell GI 0, blk_cell GI 1⟩
          have G0h := Lib.hid G0
          have GWh := Lib.hid GW
          have n1 : ¬ (w.heap.size = wr.heap.size) := by omega
          have n2 : ¬ (wr.heap.size = w.heap.size) := by omega
          clear q0 q1 q2 z0 z1 z2 GB GI G0 GW hs1 hsf
          go_region
          all_goals
            go_wp2_with fail
            exact ⟨rfl, _, best_res rfl rfl rfl (set3 G0h.out), by rw [HE1.out, HR2.out]; rfl, (below3 GWh.out (Nat.le_refl _)).drew⟩
      · rcases Bool.eq_false_or_eq_true by_ with rfl | rfl
        · have HR := HE2.out
          simp only [if_pos, Bool.false_eq_true, if_false] at HR
          have HR2 := Lib.hid HR
          have hny : y ≠ Rt.zero := fun e => by
            have := e4 rfl
            rw [e] at this
            exact absurd this (by decide)
          have hnr := fun W => ne_root y Rt.zero W
          rw [Rt.eqv_ne hny] at hnr
          have hnr2 : ∀ W, (binOp .neq 24 (.agg #[.int .u64 y.g, .int .i64 y.pl, .int .i64 y.sz]) (.agg #[.int .u64 0, .int .i64 0, .int .i64 0])).run Tryd.prog W = .ok (.bool true) W := hnr
          clear HR e3 e4 hny hnr
          go_wp2_with fail
          have GB : (wr.alloc (.cells #[.int .u64 y.g, .int .i64 y.pl, .int .i64 y.sz] 24)).heap[wr.heap.size]? = some (.cells #[.int .u64 y.g, .int .i64 y.pl, .int .i64 y.sz] 24 (0, 0)) := heap_alloc_new wr _
          have GI : (wr.alloc (.cells #[.int .u64 y.g, .int .i64 y.pl, .int .i64 y.sz] 24)).heap[w1.heap.size + 1]? = some (.cells #[.bool false, .bool true] 81 (0, 0)) := (heap_alloc_old wr _ (by omega)).trans HXi.out
          have G0 : (wr.alloc (.cells #[.int .u64 y.g, .int .i64 y.pl, .int .i64 y.sz] 24)).heap[w.heap.size]? = some (.cells #[.int .u64 0, .int .i64 0, .int .i64 0] 24 (0, 0)) := HXx.out _
          have GW : Below w.heap.size w (wr.alloc (.cells #[.int .u64 y.g, .int .i64 y.pl, .int .i64 y.sz] 24)) := HBx.out _
          generalize wr.alloc (.cells #[.int .u64 y.g, .int .i64 y.pl, .int .i64 y.sz] 24) = W9 at GB GI G0 GW ⊢
          obtain ⟨⟨c0, c1, c2⟩, _⟩ := rt_cells GB
          obtain ⟨⟨d0, d1, d2⟩, f0, f1, f2⟩ := rt_cells G0
          obtain ⟨b0, b1⟩ : W9.cell? ⟨w1.heap.size + 1, 0, none⟩ = some (.bool false) ∧ W9.cell? ⟨w1.heap.size + 1, 1, none⟩ = some (.bool true) := ⟨blk_cell GI 0, blk_cell GI 1⟩
          have G0h := Lib.hid G0
          have GWh := Lib.hid GW
          have n1 : ¬ (w.heap.size = wr.heap.size) := by omega
          have n2 : ¬ (wr.heap.size = w.heap.size) := by omega
          clear q0 q1 q2 z0 z1 z2 GB GI G0 GW hs1 hsf
          go_region
          all_goals
            go_wp2_with fail
            exact ⟨rfl, _, best_res rfl rfl rfl (set3 G0h.out), by rw [HE1.out, HR2.out]; rfl, (below3 GWh.out (Nat.le_refl _)).drew⟩
        · have hx0 := e3 rfl
          subst hx0
          have HR := HE2.out
          simp only [Bool.false_eq_true, if_false] at HR
          have HR2 := Lib.hid HR
          clear HR e3 e4
          go_wp2_with fail
          have GB : (wr.alloc (.cells #[.int .u64 Rt.zero.g, .int .i64 Rt.zero.pl, .int .i64 Rt.zero.sz] 24)).heap[wr.heap.size]? = some (.cells #[.int .u64 Rt.zero.g, .int .i64 Rt.zero.pl, .int .i64 Rt.zero.sz] 24 (0, 0)) := heap_alloc_new wr _
          have GI : (wr.alloc (.cells #[.int .u64 Rt.zero.g, .int .i64 Rt.zero.pl, .int .i64 Rt.zero.sz] 24)).heap[w1.heap.size + 1]? = some (.cells #[.bool false, .bool false] 81 (0, 0)) := (heap_alloc_old wr _ (by omega)).trans HXi.out
          have G0 : (wr.alloc (.cells #[.int .u64 Rt.zero.g, .int .i64 Rt.zero.pl, .int .i64 Rt.zero.sz] 24)).heap[w.heap.size]? = some (.cells #[.int .u64 0, .int .i64 0, .int .i64 0] 24 (0, 0)) := HXx.out _
          have GW : Below w.heap.size w (wr.alloc (.cells #[.int .u64 Rt.zero.g, .int .i64 Rt.zero.pl, .int .i64 Rt.zero.sz] 24)) := HBx.out _
          generalize wr.alloc (.cells #[.int .u64 Rt.zero.g, .int .i64 Rt.zero.pl, .int .i64 Rt.zero.sz] 24) = W9 at GB GI G0 GW ⊢
          obtain ⟨⟨c0, c1, c2⟩, _⟩ := rt_cells GB
          obtain ⟨⟨d0, d1, d2⟩, f0, f1, f2⟩ := rt_cells G0
          obtain ⟨b0, b1⟩ : W9.cell? ⟨w1.heap.size + 1, 0, none⟩ = some (.bool false) ∧ W9.cell? ⟨w1.heap.size + 1, 1, none⟩ = some (.bool false) := ⟨blk_cell GI 0, blk_cell GI 1⟩
          have G0h := Lib.hid G0
          have GWh := Lib.hid GW
          have n1 : ¬ (w.heap.size = wr.heap.size) := by omega
          have n2 : ¬ (wr.heap.size = w.heap.size) := by omega
          clear q0 q1 q2 z0 z1 z2 GB GI G0 GW hs1 hsf
          go_region
          all_goals
            go_wp2_with fail
            exact ⟨rfl, _, best_res rfl rfl rfl (set3 G0h.out), by rw [HE1.out, HR2.out]; rfl, (below3 GWh.out (Nat.le_refl _)).drew⟩
end Go.Proofs.YtadmpjikkpnjnaaDoor
