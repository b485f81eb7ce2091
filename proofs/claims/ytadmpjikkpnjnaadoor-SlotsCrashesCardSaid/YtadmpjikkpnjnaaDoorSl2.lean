/-
  slabvaultref04.Bytes. No premise.
-/
import Derived.Test.YtadmpjikkpnjnaaDoorSl1
namespace Go.Proofs.YtadmpjikkpnjnaaDoor
open Go.RowKit Go.Proofs.YtadmpjikkpnjnaaDoorW.PrintWords

set_option maxRecDepth 100000 in
set_option maxHeartbeats 1600000 in
theorem refBytes_bad (r : Rt) (w : World) (h : ¬ rtOk r) : Calls Tryd.prog 10 #[r.v] w (BytesPost r w) := by
  have hbb : ∀ w', Below w.heap.size w w' → BytesPost r w (.returned (.tuple #[.slice none 0 0, .int .i64 2])) w' := fun w' hb => bad_bytes h hb
  have HBB := Lib.hid hbb
  clear hbb
  unfold rtOk at h
  obtain ⟨g, p, s⟩ := r
  simp only at h
  show Calls _ _ #[.agg #[.int .u64 g, .int .i64 p, .int .i64 s]] _ _
  rcases (by omega : p < 0 ∨ 4194304 < p ∨ ((0 ≤ p ∧ p ≤ 4194304) ∧ s < 0) ∨ ((0 ≤ p ∧ p ≤ 4194304) ∧ 4194304 < s)) with h1 | h1 | ⟨⟨h1, h2⟩, h3⟩ | ⟨⟨h1, h2⟩, h3⟩
  all_goals
    clear h
    go_enter Tryd.func10, Tryd.ntmps10
    go_wp2_with fail
    all_goals (go_ret2; exact HBB.out _ ((Below.refl _ _).alloc (Nat.le_refl _) _))
theorem bts_one (u : Int) : Bts (dig 4 false u) := dig_bts _ _ _
theorem zero4 : dig 4 false 0 = [0, 0, 0, 0] := by decide
theorem box_keep {w1 w2 : World} {b : Nat} {v : Value} {l : List Int} {x : Obj} (h : w1.heap[b]? = some x) (ho : Own w1 (b + 1) v l) (hg : w1.grownBy w2 v.ownBlock) : w2.heap[b]? = some x :=
  (hg.block b (Array.getElem?_eq_some_iff.1 h).1 (fun e => by have := own_base ho b e.symm; omega)).trans h
/-- A step of the chain: bytes that are read are put behind the row. -/
theorem app_chain {ops : Array Oper} {rest : List Oper} {o : Oper} {a : Act} {Q : Exit → Act → World → Prop} {w W : World} (hgd : o.guard = none) (s x : Operand)
    (ho : o.op = .call { callee := .builtin .append, args := #[s, x], argTypes := #[25, 25] }) {v : Value} {xs ys : List Int} {A : Option Addr} {c : Nat} {X : Obj} (hs : a.eval s = v) (hx : a.eval x = .slice A ys.length c)
    (hB : Below w.heap.size w W) (hX : W.heap[w.heap.size]? = some X) (HO : Own W (w.heap.size + 1) v xs) (HR : Rd W A ys) (hl : xs.length + ys.length ≤ 1000)
    (h : ∀ v1 w1, Own w1 (w.heap.size + 1) v1 (xs ++ ys) → Below w.heap.size w w1 → w1.heap[w.heap.size]? = some X → wpList Tryd.prog ops Q rest (a.put o.dst v1) w1) :
    wpList Tryd.prog ops Q (o :: rest) a W :=
  app (w.heap.size + 1) hgd s x ho v xs ys A c hs hx HO HR (by have := (Array.getElem?_eq_some_iff.1 hX).1; omega) (by omega) fun v1 w1 h1 h2 =>
    h v1 w1 h1 (hB.grown h2 hB.size (fun k hk => by have := own_base HO k hk; omega)) (box_keep hX HO h2)
/-- A step that lays new blocks alone. -/
theorem quiet_chain {w W w1 : World} {X : Obj} (hB : Below w.heap.size w W) (hX : W.heap[w.heap.size]? = some X) (h : Below W.heap.size W w1) : Below w.heap.size w w1 ∧ w1.heap[w.heap.size]? = some X :=
  ⟨hB.trans (h.mono hB.size), (h.block _ (Array.getElem?_eq_some_iff.1 hX).1).trans hX⟩
set_option maxRecDepth 100000 in
set_option maxHeartbeats 3200000 in
theorem refBytes_ok (r : Rt) (w : World) (h : rtOk r) (hg : gOk r) : Calls Tryd.prog 10 #[r.v] w (BytesPost r w) := by
  have HE := Lib.hid (show byE r = 0 by unfold byE; rw [if_pos h])
  have HL := Lib.hid (show byL r = sealL (rtX r) by unfold byL; rw [if_pos h])
  have HXX := Lib.hid (show [83, 76, 65, 66] ++ dig 8 false r.g ++ [0, 0, 0, 0] ++ dig 4 false r.pl ++ dig 4 false r.sz ++ [0, 0, 0, 0] = rtX r by unfold rtX; rw [zero4]; simp only [List.append_assoc])
  unfold rtOk at h
  unfold gOk at hg
  have hrv : r.v = .agg #[.int .u64 r.g, .int .i64 r.pl, .int .i64 r.sz] := rfl
  rw [hrv]
  clear hrv
  generalize r.g = g at *
  generalize r.pl = p at *
  generalize r.sz = s at *
  obtain ⟨⟨p1, p2⟩, s1, s2⟩ := h
  have kd := fun (w : World) (C : Array Value) (n c : Nat) => Go.Joins.run_convert_bytes_const_at (P := Tryd.prog) (w.alloc (.cells #[.int .u64 g, .int .i64 p, .int .i64 s] 31)) 25 5 C n c (w.heap.size + 1) (by simp) Tryd.underlying25 Tryd.underlying5
  have HC0 := Lib.hid (rd_const (w.alloc (.cells #[.int .u64 g, .int .i64 p, .int .i64 s] 31)) [83, 76, 65, 66] (by decide) #[.int .u8 83, .int .u8 76, .int .u8 65, .int .u8 66] rfl (4, 5) (w.heap.size + 1) (by simp))
  have HB0 := Lib.hid (((Below.refl w.heap.size w).alloc (Nat.le_refl _) (.cells #[.int .u64 g, .int .i64 p, .int .i64 s] 31)).alloc (by simp) (.cells #[.int .u8 83, .int .u8 76, .int .u8 65, .int .u8 66] 5 (4, 5)))
  have HX0 := Lib.hid (show ((w.alloc (.cells #[.int .u64 g, .int .i64 p, .int .i64 s] 31)).alloc (.cells #[.int .u8 83, .int .u8 76, .int .u8 65, .int .u8 66] 5 (4, 5))).heap[w.heap.size]? = some (.cells #[.int .u64 g, .int .i64 p, .int .i64 s] 31 (0, 0)) from
    (heap_alloc_old _ _ (by simp)).trans (heap_alloc_new w _))
  go_enter Tryd.func10, Tryd.ntmps10
  go_wp2_with fail
  refine (refDigits_any 8 false g _ (by decide) hg.1 hg.2).mono ?_
  rintro e w1 ⟨v1, rfl, ho1, hb1⟩
  obtain ⟨A1, c1, rfl, _, hr1, _⟩ := own_split ho1
  have HC1 := Lib.hid (HC0.out.below hb1)
  obtain ⟨q1, q2⟩ := quiet_chain HB0.out HX0.out hb1
  have HB1 := Lib.hid q1
  have HX1 := Lib.hid q2
  have HR1 := Lib.hid hr1
  have h8 := Lib.hid (dig_length 8 false g)
  clear kd ho1 hb1 q1 q2 hr1
  have z1 : w1.heap.size ≥ w.heap.size + 1 := by have := (Array.getElem?_eq_some_iff.1 HX1.out).1; omega
  go_wp2_with (at_builtin; refine app_rd rfl _ _ rfl [83, 76, 65, 66] (dig 8 false g) (some ⟨w.heap.size + 1, 0, none⟩) A1 c1 rfl rfl HC1.out HR1.out (by decide) (by rw [h8.out]; decide) (by rw [h8.out]; decide) ?_)
  intro v2 w2 ho2 hg2
  have q1 := own_weaken ho2 z1
  have q2 := HB1.out.grown hg2 HB1.out.size (fun k hk => by cases hk)
  have q3 : w2.heap[w.heap.size]? = some _ := (hg2.block _ (Array.getElem?_eq_some_iff.1 HX1.out).1 (fun e => by cases e)).trans HX1.out
  have HO2 := Lib.hid q1
  have HB2 := Lib.hid q2
  have HX2 := Lib.hid q3
  clear ho2 hg2 q1 q2 q3 z1
  have zb3 : Below w.heap.size w (w2.alloc (.cells #[.int .u8 0, .int .u8 0, .int .u8 0, .int .u8 0] 5)) := HB2.out.alloc HB2.out.size _
  have HBa3 := Lib.hid zb3
  have HXa3 := Lib.hid ((heap_alloc_old w2 (.cells #[.int .u8 0, .int .u8 0, .int .u8 0, .int .u8 0] 5) (Array.getElem?_eq_some_iff.1 HX2.out).1).trans HX2.out)
  have HOa3 := Lib.hid (HO2.out.alloc (.cells #[.int .u8 0, .int .u8 0, .int .u8 0, .int .u8 0] 5))
  have HRa3 := Lib.hid (rd_const w2 [0, 0, 0, 0] (by decide) #[.int .u8 0, .int .u8 0, .int .u8 0, .int .u8 0] rfl (0, 0) w2.heap.size rfl)
  clear zb3
  go_wp2_with (at_builtin; refine app_chain (w := w) (X := .cells #[.int .u64 g, .int .i64 p, .int .i64 s] 31 (0, 0)) rfl _ _ rfl (v := v2) (xs := [83, 76, 65, 66] ++ dig 8 false g) (ys := [0, 0, 0, 0]) (A := some ⟨w2.heap.size, 0, none⟩) (c := 4) ?hs ?hx ?hB ?hX ?HO ?HR ?hl ?h)
  case hs => rfl
  case hx => rfl
  case hB => exact HBa3.out
  case hX => exact HXa3.out
  case HO => exact HOa3.out
  case HR => exact HRa3.out
  case hl => simp [dig_length]
  intro v3 w3 ho3 hb3 hx3
  have HO3 := Lib.hid ho3
  have HB3 := Lib.hid hb3
  have HX3 := Lib.hid hx3
  clear ho3 hb3 hx3 HBa3 HXa3 HOa3 HRa3 HO2 HB2 HX2
  obtain ⟨y41, y42⟩ : w3.cell? ⟨w.heap.size, 1, none⟩ = some (.int .i64 p) ∧ w3.cell? ⟨w.heap.size, 2, none⟩ = some (.int .i64 s) := ⟨blk_cell HX3.out 1, blk_cell HX3.out 2⟩
  go_wp2_with fail
  refine (refDigits_any 4 false p _ (by decide) p1 (by omega)).mono ?_
  rintro e w4 ⟨v4, rfl, ho4, hb4⟩
  obtain ⟨A4, c4, rfl, _, hr4, _⟩ := own_split ho4
  obtain ⟨q1, q2⟩ := quiet_chain HB3.out HX3.out hb4
  have HB4 := Lib.hid q1
  have HX4 := Lib.hid q2
  have HR4 := Lib.hid hr4
  have HO4 := Lib.hid (own_step HO3.out hb4)
  have h44 := Lib.hid (dig_length 4 false p)
  clear ho4 hb4 q1 q2 hr4 y41 y42 HO3 HB3 HX3
  go_wp2_with (at_builtin; refine app_chain (w := w) (X := .cells #[.int .u64 g, .int .i64 p, .int .i64 s] 31 (0, 0)) rfl _ _ rfl (v := v3) (xs := [83, 76, 65, 66] ++ dig 8 false g ++ [0, 0, 0, 0]) (ys := dig 4 false p) (A := A4) (c := c4) ?hs ?hx ?hB ?hX ?HO ?HR ?hl ?h)
  case hs => rfl
  case hx => rfl
  case hB => exact HB4.out
  case hX => exact HX4.out
  case HO => exact HO4.out
  case HR => exact HR4.out
  case hl => simp [dig_length]
  intro v5 w5 ho5 hb5 hx5
  have HO5 := Lib.hid ho5
  have HB5 := Lib.hid hb5
  have HX5 := Lib.hid hx5
  clear ho5 hb5 hx5 HR4 HO4 HB4 HX4
  obtain ⟨y61, y62⟩ : w5.cell? ⟨w.heap.size, 1, none⟩ = some (.int .i64 p) ∧ w5.cell? ⟨w.heap.size, 2, none⟩ = some (.int .i64 s) := ⟨blk_cell HX5.out 1, blk_cell HX5.out 2⟩
  go_wp2_with fail
  refine (refDigits_any 4 false s _ (by decide) s1 (by omega)).mono ?_
  rintro e w6 ⟨v6, rfl, ho6, hb6⟩
  obtain ⟨A6, c6, rfl, _, hr6, _⟩ := own_split ho6
  obtain ⟨q1, q2⟩ := quiet_chain HB5.out HX5.out hb6
  have HB6 := Lib.hid q1
  have HX6 := Lib.hid q2
  have HR6 := Lib.hid hr6
  have HO6 := Lib.hid (own_step HO5.out hb6)
  have h46 := Lib.hid (dig_length 4 false s)
  clear ho6 hb6 q1 q2 hr6 y61 y62 HO5 HB5 HX5
  go_wp2_with (at_builtin; refine app_chain (w := w) (X := .cells #[.int .u64 g, .int .i64 p, .int .i64 s] 31 (0, 0)) rfl _ _ rfl (v := v5) (xs := [83, 76, 65, 66] ++ dig 8 false g ++ [0, 0, 0, 0] ++ dig 4 false p) (ys := dig 4 false s) (A := A6) (c := c6) ?hs ?hx ?hB ?hX ?HO ?HR ?hl ?h)
  case hs => rfl
  case hx => rfl
  case hB => exact HB6.out
  case hX => exact HX6.out
  case HO => exact HO6.out
  case HR => exact HR6.out
  case hl => simp [dig_length]
  intro v7 w7 ho7 hb7 hx7
  have HO7 := Lib.hid ho7
  have HB7 := Lib.hid hb7
  have HX7 := Lib.hid hx7
  clear ho7 hb7 hx7 HR6 HO6 HB6 HX6
  have zb8 : Below w.heap.size w (w7.alloc (.cells #[.int .u8 0, .int .u8 0, .int .u8 0, .int .u8 0] 5)) := HB7.out.alloc HB7.out.size _
  have HBa8 := Lib.hid zb8
  have HXa8 := Lib.hid ((heap_alloc_old w7 (.cells #[.int .u8 0, .int .u8 0, .int .u8 0, .int .u8 0] 5) (Array.getElem?_eq_some_iff.1 HX7.out).1).trans HX7.out)
  have HOa8 := Lib.hid (HO7.out.alloc (.cells #[.int .u8 0, .int .u8 0, .int .u8 0, .int .u8 0] 5))
  have HRa8 := Lib.hid (rd_const w7 [0, 0, 0, 0] (by decide) #[.int .u8 0, .int .u8 0, .int .u8 0, .int .u8 0] rfl (0, 0) w7.heap.size rfl)
  clear zb8
  go_wp2_with (at_builtin; refine app_chain (w := w) (X := .cells #[.int .u64 g, .int .i64 p, .int .i64 s] 31 (0, 0)) rfl _ _ rfl (v := v7) (xs := [83, 76, 65, 66] ++ dig 8 false g ++ [0, 0, 0, 0] ++ dig 4 false p ++ dig 4 false s) (ys := [0, 0, 0, 0]) (A := some ⟨w7.heap.size, 0, none⟩) (c := 4) ?hs ?hx ?hB ?hX ?HO ?HR ?hl ?h)
  case hs => rfl
  case hx => rfl
  case hB => exact HBa8.out
  case hX => exact HXa8.out
  case HO => exact HOa8.out
  case HR => exact HRa8.out
  case hl => simp [dig_length]
  intro v8 w8 ho8 hb8 hx8
  have HO8 := Lib.hid ho8
  have HB8 := Lib.hid hb8
  have HX8 := Lib.hid hx8
  clear ho8 hb8 hx8 HBa8 HXa8 HOa8 HRa8 HO7 HB7 HX7
  have ho8 : Own w8 (w.heap.size + 1) v8 (rtX r) := by rw [← HXX.out]; exact HO8.out
  obtain ⟨A8, c8, rfl, ho8', hr8, _⟩ := own_split ho8
  have HR8 := Lib.hid hr8
  have HLX := Lib.hid (rtX_length r)
  clear ho8 ho8' hr8
  go_wp2_with fail
  refine (refSeal_any A8 c8 (rtX r) w8 HR8.out (rtX_bts r) (by rw [HLX.out]; decide)).mono ?_
  rintro e w9 ⟨v9, rfl, ho9, hb9⟩
  have HO9 := Lib.hid ho9
  have HB9 := Lib.hid hb9
  clear ho9 hb9
  go_wp2_with fail
  go_ret2
  refine ⟨v9, by rw [HE.out]; rfl, ?_, HB8.out.trans (HB9.out.mono HB8.out.size)⟩
  rw [HL.out]
  exact own_weaken HO9.out HB8.out.size
theorem refBytes_any (r : Rt) (w : World) (hg : gOk r) : Calls Tryd.prog 10 #[r.v] w (BytesPost r w) := by
  by_cases h : rtOk r
  · exact refBytes_ok r w h hg
  · exact refBytes_bad r w h
end Go.Proofs.YtadmpjikkpnjnaaDoor
